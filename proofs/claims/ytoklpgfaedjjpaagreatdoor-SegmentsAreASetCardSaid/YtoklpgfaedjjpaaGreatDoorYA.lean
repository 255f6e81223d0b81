/- The package-level tables of numbers, typed. -/
import Derived.Test.YtoklpgfaedjjpaaGreatDoorEC
open Bool renaming and_eq_true->μ,noConfusion->aaS
open List renaming all_eq_true->aa1,append_assoc->ν,append_nil->aac,drop_append->aci,drop_eq_nil_of_le->abv,drop_left->adw,drop_zero->aax,getElem?_append_right->aam,getElem?_eq_getElem->ξ,getElem?_eq_none->aay,getElem?_eq_some_iff->χ,getElem?_map->aaf,length_append->ε,length_drop->aaz,length_map->κ,map_append->aau,map_cons->aaN,map_drop->aaI,map_take->aaA,mem_of_getElem?->aat,nil_append->aaW,nodup_cons->abh,replicate->aag,take_of_length_le->aaw
open Nat renaming beq->aae,beq_eq->abA,blt_eq->adz,eq_of_beq_eq_true->θ,le_of_ble_eq_true->abd,le_refl->me,sub_self->acK,zero_le->aa2
open Option renaming bind_eq_some_iff->η,isSome_map->abn,ite_none_right_eq_some->ζ,map_eq_some_iff->ι,map_map->adv
set_option linter.all false
namespace Go.Eng
open Go.RowKit
variable{α:Type}{n:Nat}
abbrev bw:=List UInt8
def bk{α:Type}(c:Bool)(a b:Option α):Option α:=match c with
 |true=>a
 |false=>b
def ck{α:Type}(k:IntKind)(n:Int)(a:Option α):Option α:=if k.wrap n=n then a else none
def bb{α:Type}(p:Prop)[Decidable p](a:Option α):Option α:=if p then a else none
def bB{α β:Type}(xs:List α)(j:Int)(f:α->Option β):Option β:=if 0<=j then match xs[j.toNat]?with
 |some x=>f x
 |none=>none else none
def bj{α β:Type}(a:Option α)(f:α->Option β):Option β:=match a with
 |some x=>f x
 |none=>none
def EM{α:Type}[DecidableEq α](a b:Option α):Option α:=if a=b then a else none
theorem Ua{α:Type}[DecidableEq α]{a b:Option α}{r:α}(h:EM a b=some r):a=some r/\b=some r:=by
 unfold EM at h;split at h
 ·rename_i e;exact⟨h,e▸h⟩
 ·cases h
theorem vn{c:Bool}{a b:Option α}{r:α}(h:bk c a b=some r):(c=true/\a=some r)\/(c=false/\b=some r):=by
 cases c
 ·exact .inr ⟨rfl,h⟩
 ·exact .inl ⟨rfl,h⟩
theorem ZJ{k:IntKind}{n:Int}{a:Option α}{r:α}(h:ck k n a=some r):k.wrap n=n/\a=some r:=by
 unfold ck at h;split at h
 ·exact⟨‹_›,h⟩
 ·cases h
theorem bD{p:Prop}[Decidable p]{a:Option α}{r:α}(h:bb p a=some r):p/\a=some r:=by
 unfold bb at h;split at h
 ·exact⟨‹_›,h⟩
 ·cases h
theorem Cd{β:Type}{xs:List α}{j:Int}{f:α->Option β}{r:β}(h:bB xs j f=some r):∃x,0<=j/\xs[j.toNat]?=some x/\f x=some r:=by
 unfold bB at h;split at h
 ·split at h
  ·exact⟨_,‹_›,‹_›,h⟩
  ·cases h
 ·cases h
theorem Hl{β:Type}{a:Option α}{f:α->Option β}{r:β}(h:bj a f=some r):∃x,a=some x/\f x=some r:=by
 unfold bj at h;split at h
 ·exact⟨_,rfl,h⟩
 ·cases h
theorem bTc{k:Nat}{a b:List (List DV)}:j0 k (a++b)=(j0 k a/\j0 k b):=by simp only[j0,List.mem_append,eq_iff_iff];exact⟨fun h=>⟨fun e he=>h e (.inl he),fun e he=>h e (.inr he)⟩,fun⟨h1,h2⟩ e he=>he.elim (h1 e) (h2 e)⟩
theorem Ye{f:α->List DV}{k:Nat}(hf:∀x,(f x).length=k){xs:List α}:j0 k (xs.map f)=True:=by simp only[j0,List.mem_map,eq_iff_iff,iff_true];rintro e ⟨x,_,rfl⟩;exact hf x
theorem bLj{f:α->List DV}(hf:∀x,(f x).all DV.one=true){xs:List α}:rp (xs.map f)=true:=by simp only[rp,aa1,List.mem_map];rintro e ⟨x,_,rfl⟩;exact aa1.1 (hf x)
theorem aq.py(s:aq)(t k:Nat)(h:s.env t=.fl []):Wk s (s.zn t k):=fun E a w ⟨G,m,hA⟩=>by
 have hn:m (.O s.nx)=none:=hA.fresh _ (me _);have hle:HM.le m (aJ m (.O s.nx) .none):=fun x loc hx=>by
  unfold aJ;by_cases e:x=.O s.nx
  ·rw[e,hn]at hx;cases hx
  ·rw[if_neg e];exact .inl (.inl hx)
 have hjok:E.J ((s.zn t k).env E.N) w:=by
  show E.J (gu s.env t (.sl (.O s.nx) k 0 0) E.N) w;unfold gu;by_cases e:E.N=t
  ·rw[if_pos e];exact E.GJ (.fl []) _ _ rfl (h▸e▸hA.k6)
  ·rw[if_neg e];exact hA.k6
 refine⟨G,aJ m (.O s.nx) .none,hA.e7.sw hn _ _ k,fun u=>?_,hA.size,hA.defers,hjok,fun i hi=>?_,hA.frame,fun i=>?_,fun i b sz hi=>?_,hA.r7,fun i hi=>qL hA.jc i hi⟩
 ·show AV.au G _ (gu s.env t (.sl (.O s.nx) k 0 0) u) _;unfold gu;by_cases e:u=t
  ·rw[if_pos e];have:=hA.env t;rw[h]at this;unfold AV.au at this;obtain⟨_,p,hp⟩:=this;rw[e,hp];unfold AV.au;exact⟨rfl,.none,by unfold aJ;rw[if_pos rfl],fun _=>.inl ⟨p,rfl,rfl⟩⟩
  ·rw[if_neg e];exact AV.au.mono (Gh.le.refl G) hle _ _ (hA.env u)
 ·have hi':s.nx+1<=i:=hi;unfold aJ;rw[if_neg (fun e=>by cases e;omega)];exact hA.fresh i (by omega)
 ·have:aJ m (.O s.nx) .none (.B i)=m (.B i):=by unfold aJ;rw[if_neg (fun e=>by cases e)]
  rw[this];exact hA.base i
 ·unfold aJ at hi;split at hi
  ·cases hi;exact fun hb=>by cases hb
  ·exact hA.own i b sz hi
def aq.m8(s:aq)(h:Hd)(cs:List AV)(i k:Nat):aq:=(s.put none .un [.row true k []] []).az h (some (.box (cs.set i (.sl (.O s.nx) k 0 0))))
theorem P9{G:Gh}{m:HM}:∀{cs:List AV} {vs:List Value} {i:Nat} {a:AV},AV.bg G m cs vs->(∀v,vs[i]?=some v->AV.au G m a v)->AV.bg G m (cs.set i a) vs
 |[],vs,i,a,h,_=>by simpa using h
 |c::cs,vs,0,a,h,ha=>by
  unfold AV.bg at h;obtain⟨v,vs',rfl,_,h2⟩:=h;simp only[List.set_cons_zero];unfold AV.bg;exact⟨v,vs',rfl,ha v rfl,h2⟩
 |c::cs,vs,i+1,a,h,ha=>by unfold AV.bg at h;obtain⟨v,vs',rfl,h1,h2⟩:=h;simp only[List.set_cons_succ];unfold AV.bg;exact⟨v,vs',rfl,h1,P9 h2 (fun u hu=>ha u (by simpa using hu))⟩
theorem aq.vd(s:aq)(h:Hd)(cs:List AV)(i k:Nat)(hl:s.lk h=some (.box cs))(hi:cs[i]?=some (.fl [])):Wk s (s.m8 h cs i k):=fun E a w ⟨G,m,hA⟩=>by
 have hn:m (.O s.nx)=none:=hA.fresh _ (me _);have hle:HM.le m (aJ m (.O s.nx) .none):=D6 hn;have hne:h≠.O s.nx:=fun e=>by have h0:s.lk (.O s.nx)=none:=hA.jc _ (me _);rw[e,h0]at hl;cases hl
 have hS:=hA.e7.sw hn none .un k;have hlk1:(s.put none .un [.row true k []] []).lk h=some (.box cs):=by
  rw[kB,dT];cases h with
  |B j=>exact hl
  |O j=>
   show(if s.nx<=j/\j<s.nx+[bp.row true k []].length then _ else s.lk (.O j))=_;rw[if_neg (fun hc=>hne (by congr 1;simp at hc;omega))];exact hl
 have hlk:∀x,(s.m8 h cs i k).lk x=if x=h then some (.box (cs.set i (.sl (.O s.nx) k 0 0)))else(s.put none .un [.row true k []] []).lk x:=fun x=>aQ _ _ _ _
 refine⟨G,aJ m (.O s.nx) .none,⟨fun x b sz hx=>?_,fun x hx=>?_,hS.dc,hS.gh,fun x hx=>?_,hS.gl,fun x b sz fp hx=>?_⟩,fun u=>?_,hA.size,hA.defers,?_,fun j hj=>?_,hA.frame,fun j=>?_,fun j b sz hj=>?_,trivial,fun j hj=>?_⟩
 ·obtain⟨bl,h1,h2⟩:=hS.fk x b sz hx;rw[hlk];by_cases e:x=h
  ·subst e;rw[if_pos rfl];rw[hlk1]at h1;cases h1;obtain⟨vs,T,q1,q2,q3,q4⟩:=h2;refine⟨_,rfl,vs,T,q1,q2,P9 q3 (fun v hv=>?_),q4⟩;obtain⟨v',hv',hr⟩:=AV.gq q3 hi;rw[hv]at hv';cases hv';unfold AV.au at hr;obtain⟨_,p,hp⟩:=hr;subst hp;unfold AV.au;exact⟨rfl,.none,by unfold aJ;rw[if_pos rfl],fun _=>.inl ⟨p,rfl,rfl⟩⟩
  ·rw[if_neg e];exact⟨bl,h1,h2⟩
 ·obtain⟨mt,k',h1⟩:=hS.nil x hx;rw[hlk];by_cases e:x=h
  ·subst e;rw[hlk1]at h1;cases h1
  ·rw[if_neg e];exact⟨mt,k',h1⟩
 ·have h1:=hS.dead x hx;rw[hlk];by_cases e:x=h
  ·subst e;rw[hlk1]at h1;cases h1
  ·rw[if_neg e];exact h1
 ·obtain⟨bl,h1,h2⟩:=hS.dk x b sz fp hx;rw[hlk];by_cases e:x=h
  ·subst e;rw[hlk1]at h1;cases h1;exact h2.elim
  ·rw[if_neg e];exact⟨bl,h1,h2⟩
 ·have:(s.m8 h cs i k).env=s.env:=by unfold aq.m8;rw[eZ];rfl
  rw[this];exact AV.au.mono (Gh.le.refl G) hle _ _ (hA.env u)
 ·have:(s.m8 h cs i k).env=s.env:=by unfold aq.m8;rw[eZ];rfl
  rw[this];exact hA.k6
 ·have hj':s.nx+1<=j:=by
   have:(s.m8 h cs i k).nx=s.nx+1:=by unfold aq.m8;rw[cD];rfl
   omega
  unfold aJ;rw[if_neg (fun e=>by cases e;omega)];exact hA.fresh j (by omega)
 ·have:aJ m (.O s.nx) .none (.B j)=m (.B j):=by unfold aJ;rw[if_neg (fun e=>by cases e)]
  rw[this];exact hA.base j
 ·unfold aJ at hj;split at hj
  ·cases hj;exact fun hb=>by cases hb
  ·exact hA.own j b sz hj
 ·have h0:∀j,(s.put none .un [.row true k []] []).nx<=j->(s.put none .un [.row true k []] []).own j=none:=fun j hj=>qL hA.jc j hj;exact kG h0 ⟨_,hlk1⟩ j (by unfold aq.m8 at hj;rw[cD]at hj;exact hj)
def vQ(mvs:List Nat):Hd->Hd
 |.B j=>match uV j mvs 0 with
  |some i=>.O i
  |none=>.B j
 |.O i=>.O i
def Ek(args:List AV)(bs:List (Option bp))(mvs:List Nat):aq:=
 {env:=fun t=>(AV.dj (vQ mvs) args).getD t .un,bs:=fun j=>if j∈mvs then none else((bs[j]?).join).map (bp.cm (vQ mvs)),own:=fun i=>(mvs[i]?).bind fun j=>((bs[j]?).join).map (bp.cm (vQ mvs)),nx:=mvs.length}
theorem KV{j:Nat}:∀{l:List Nat} {n i:Nat},l.Nodup->l[i]?=some j->uV j l n=some (n+i)
 |[],_,_,_,q=>by simp at q
 |x::xs,n,0,_,q=>by
  simp only[List.getElem?_cons_zero,Option.some.injEq]at q;unfold uV;rw[if_pos q];rfl
 |x::xs,n,i+1,hn,q=>by simp only[List.getElem?_cons_succ]at q;unfold uV;rw[if_neg (fun e:x=j=>(abh.1 hn).1 (by rw[e];exact aat q)),KV (abh.1 hn).2 q];congr 1;omega
theorem bOe(ψ:Hd->Hd):AV.cm ψ .un=.un:=rfl
theorem CZ{ψ:Hd->Hd}:∀(l:List AV) (t:Nat),(AV.dj ψ l).getD t .un=AV.cm ψ (l.getD t .un)
 |[],t=>by simp[AV.dj,bOe]
 |a::l,0=>by simp[AV.dj]
 |a::l,t+1=>by have:=CZ (ψ:=ψ) l t;simpa[AV.dj]using this
theorem Vx(args:List AV)(bs:List (Option bp))(mvs:List Nat)(hnd:mvs.Nodup):Wk (entry args bs) (Ek args bs mvs):=fun E a w ⟨G,m,hA⟩=>by
 have hlk:∀j,(entry args bs).lk (.B j)=(bs[j]?).join:=fun j=>rfl;have hO:∀i,m (.O i)=none:=fun i=>hA.fresh i (aa2 _);obtain⟨m',hm'⟩:∃m':HM,m'=fun x=>match x with
  |.O i=>(mvs[i]?).bind fun j=>m (.B j)
  |.B j=>if j∈mvs then(m (.B j)).map fun _=>.dead else m (.B j):=⟨_,rfl⟩
 have mB:∀j,j∉mvs->m' (.B j)=m (.B j):=fun j hj=>by rw[hm'];exact if_neg hj
 have mBd:∀j,j∈mvs->m' (.B j)=(m (.B j)).map fun _=>.dead:=fun j hj=>by rw[hm'];exact if_pos hj
 have mO:∀i,m' (.O i)=(mvs[i]?).bind fun j=>m (.B j):=fun i=>by rw[hm']
 have hpsi:∀j,j∉mvs->vQ mvs (.B j)=.B j:=fun j hj=>by
  cases e:uV j mvs 0 with
  |none=>simp only[vQ,e]
  |some i=>obtain⟨_,h⟩:=wQ e;exact absurd (aat h) hj
 have hback:∀x loc,m x=some loc->m' (vQ mvs x)=some loc:=fun x loc hx=>by
  cases x with
  |O i=>rw[hO i]at hx;cases hx
  |B j=>
   by_cases hj:j∈mvs
   ·obtain⟨i,hi⟩:=List.getElem?_of_mem hj;have:vQ mvs (.B j)=.O i:=by simp[vQ,KV (n:=0) hnd hi]
    rw[this,mO,hi];exact hx
   ·rw[hpsi j hj,mB j hj];exact hx
 have get:∀x loc,m' x=some loc->loc≠.dead->(∃j,x=.B j/\j∉mvs/\m (.B j)=some loc)\/(∃i j,x=.O i/\mvs[i]?=some j/\m (.B j)=some loc):=fun x loc hx hl=>by
  cases x with
  |B j=>
   by_cases hj:j∈mvs
   ·rw[mBd j hj,ι]at hx;obtain⟨_,_,e⟩:=hx;exact absurd e.symm hl
   ·rw[mB j hj]at hx;exact .inl ⟨j,rfl,hj,hx⟩
  |O i=>
   rw[mO,η]at hx;obtain⟨j,h1,h2⟩:=hx;exact .inr ⟨i,j,rfl,h1,h2⟩
 have lkB:∀j,j∉mvs->(Ek args bs mvs).lk (.B j)=((bs[j]?).join).map (bp.cm (vQ mvs)):=fun j hj=>if_neg hj;have lkO:∀i j,mvs[i]?=some j->(Ek args bs mvs).lk (.O i)=((bs[j]?).join).map (bp.cm (vQ mvs)):=fun i j hi=>by show(mvs[i]?).bind _=_;rw[hi];rfl
 have hjok:E.J ((Ek args bs mvs).env E.N) w:=by show E.J ((AV.dj (vQ mvs) args).getD E.N .un) w;rw[CZ];exact E.zj _ _ _ hA.k6
 refine⟨G,m',⟨fun x b sz hx=>?_,fun x hx=>?_,fun x y l l' b hx hy hb hb'=>?_,hA.e7.gh,fun x hx=>?_,hA.e7.gl,fun x b sz fp hx=>?_⟩,fun t=>?_,hA.size,hA.defers,hjok,fun i hi=>?_,hA.frame,fun j=>?_,fun h0 l0 b0 q0=>?_,hA.r7,fun i hi=>?_⟩
 ·rcases get x _ hx (by simp)with⟨j,rfl,hj,h1⟩|⟨i,j,rfl,hi,h1⟩
  ·obtain⟨bl,h2,h3⟩:=hA.e7.fk _ b sz h1;rw[hlk]at h2;exact⟨_,by rw[lkB j hj,h2];rfl,h3.cm hback⟩
  ·obtain⟨bl,h2,h3⟩:=hA.e7.fk _ b sz h1;rw[hlk]at h2;exact⟨_,by rw[lkO i j hi,h2];rfl,h3.cm hback⟩
 ·rcases get x _ hx (by simp)with⟨j,rfl,hj,h1⟩|⟨i,j,rfl,hi,h1⟩
  ·obtain⟨mt,k,h2⟩:=hA.e7.nil _ h1;rw[hlk]at h2;exact⟨mt,k,by rw[lkB j hj,h2];rfl⟩
  ·obtain⟨mt,k,h2⟩:=hA.e7.nil _ h1;rw[hlk]at h2;exact⟨mt,k,by rw[lkO i j hi,h2];rfl⟩
 ·have hne:∀{l:Loc} {b:Nat},b∈l.gk->l≠.dead:=fun h e=>by subst e;cases h
  rcases get x _ hx (hne hb)with⟨j,rfl,hj,h1⟩|⟨i,j,rfl,hi,h1⟩<;>rcases get y _ hy (hne hb')with⟨j',rfl,hj',h1'⟩|⟨i',j',rfl,hi',h1'⟩
  ·exact hA.e7.dc _ _ l l' b h1 h1' hb hb'
  ·have:=hA.e7.dc _ _ l l' b h1 h1' hb hb';cases this;exact absurd (aat hi') hj
  ·have:=hA.e7.dc _ _ l l' b h1 h1' hb hb';cases this;exact absurd (aat hi) hj'
  ·have:=hA.e7.dc _ _ l l' b h1 h1' hb hb';cases this;have hlt:=(χ.1 hi).1;rw[(List.getElem?_inj hlt hnd).1 (hi.trans hi'.symm)]
 ·cases x with
  |B j=>
   by_cases hj:j∈mvs
   ·exact if_pos hj
   ·rw[mB j hj]at hx;have:=hA.e7.dead _ hx;rw[hlk]at this;rw[lkB j hj,this];rfl
  |O i=>
   rw[mO,η]at hx;obtain⟨j,h1,h2⟩:=hx;have:=hA.e7.dead _ h2;rw[hlk]at this;rw[lkO i j h1,this];rfl
 ·rcases get x _ hx (by simp)with⟨j,rfl,hj,h1⟩|⟨i,j,rfl,hi,h1⟩
  ·obtain⟨bl,h2,h3⟩:=hA.e7.dk _ b sz fp h1;rw[hlk]at h2;exact⟨_,by rw[lkB j hj,h2];rfl,h3.cm hback⟩
  ·obtain⟨bl,h2,h3⟩:=hA.e7.dk _ b sz fp h1;rw[hlk]at h2;exact⟨_,by rw[lkO i j hi,h2];rfl,h3.cm hback⟩
 ·show AV.au G m' ((AV.dj (vQ mvs) args).getD t .un) _;rw[CZ];exact AV.k7 hback _ _ (hA.env t)
 ·have hi:mvs.length<=i:=hi;rw[mO,aay hi];rfl
 ·by_cases hj:j∈mvs
  ·rw[mBd j hj];rcases hA.base j with h1|⟨h1,h2⟩|⟨b,sz,fp,fp',h1,h2⟩
   ·cases e:m (.B j)with
    |none=>left;rw[<-h1,e];rfl
    |some l=>right;left;exact⟨by rw[<-h1,e];simp,rfl⟩
   ·right;left;exact⟨h1,by rw[h2];rfl⟩
   ·right;left;exact⟨by rw[h1];simp,by rw[h2];rfl⟩
  ·rw[mB j hj];exact hA.base j
 ·intro hb;have hne:l0≠.dead:=fun e=>by subst e;cases hb
  rcases get h0 _ q0 hne with⟨j,rfl,_,h2⟩|⟨i,j,rfl,_,h2⟩<;>exact hA.own _ _ _ h2 hb
 ·have hi:mvs.length<=i:=hi;show(mvs[i]?).bind _=none;rw[aay hi];rfl
structure bz (n:Nat)where
 l:List Int
 len:l.length=n
 deriving DecidableEq
instance{n:Nat}:Inhabited (bz n):=⟨⟨aag n 0,by simp⟩⟩
theorem bz.ext:∀{x y:bz n} (_:x.l=y.l),x=y
 |⟨_,_⟩,⟨_,_⟩,rfl=>rfl
def bz.zero(n:Nat):bz n:=⟨aag n 0,by simp⟩
def bz.set{n:Nat}(x:bz n)(i:Nat)(v:Int):bz n:=⟨x.l.set i v,by rw[List.length_set];exact x.len⟩
def bz.yt(n:Nat)(x:List Int)(o:Nat)(ys:List Int):List Int:=if o+ys.length<=n then x.take o++ys++x.drop (o+ys.length)else x
theorem bz.sy{x:List Int}(hx:x.length=n)(o:Nat)(ys:List Int):(bz.yt n x o ys).length=n:=by
 unfold bz.yt;split
 ·simp;omega
 ·exact hx
def bz.put{n:Nat}(x:bz n)(o:Nat)(ys:List Int):bz n:=⟨bz.yt n x.l o ys,bz.sy x.len o ys⟩
def bz.from(l:List Int)(m:Nat):bz m:=⟨l.take m++aag (m-(l.take m).length) 0,by simp;omega⟩
def bz.part{n:Nat}(x:bz n)(o m:Nat):bz m:=bz.from (x.l.drop o) m
theorem bz.xd{x:bz n}{i:Nat}{v:Int}:(x.set i v).l=x.l.set i v:=rfl
theorem bz.s9{x:bz n}{o:Nat}{ys:List Int}(h:o+ys.length<=n):(x.put o ys).l=x.l.take o++ys++x.l.drop (o+ys.length):=if_pos h
theorem bz.s8{l:List Int}{m:Nat}(h:m<=l.length):(bz.from l m).l=l.take m:=by
 show l.take m++aag (m-(l.take m).length) 0=_;have:(l.take m).length=m:=by simp;omega
 simp only[this,acK,List.replicate_zero,aac]
theorem bz.si{x:bz n}{o m:Nat}(h:o+m<=n):(x.part o m).l=(x.l.drop o).take m:=by unfold bz.part;exact bz.s8 (by rw[aaz,x.len];omega)
def bE(t:bw):List Int:=t.map fun c=>(c.toNat:Int)
theorem iP{t:bw}:(bE t).length=t.length:=κ _
class YL where
 l:Nat
inductive GX where
 |go
 |exit (id:Nat)
 |ret
 deriving Inhabited
def GX.code:GX->Option Code
 |.go=>none
 |.exit id=>some (.exit id)
 |.ret=>some .ret
end Go.Eng
namespace Go.Eng
def Cb:Nat→Option (IntKind×List Int)
  |0=>some (.u32,A6)
  |_=>none
theorem Uh(g:Nat):th g=(Cb g).map fun p=>p.2.map (DV.I p.1):=by unfold th Cb;split<;>first|rfl|(split<;>first|rfl|(simp_all;done))
end Go.Eng
namespace Go.Eng
open Go.RowKit
variable{off i:Nat}{h:Hd}{φ:Hd->Option Hd}{KP:AV->Prop}{len:Hd->Nat}{k:IntKind}{op:BinOp}{ag:Option Nat}{sl:List Nat}
inductive Ty where
 |u
 |b
 |i (k:IntKind)
 |s
 |p (x y:Ty)
 |w (x:Ty)
 |ar (n:Nat) (k:IntKind)
 |sl (t:Ty)
 |o (t:Ty)
 deriving Inhabited
variable{t:Ty}
def Ty.beq:Ty->Ty->Bool
 |.u,.u=>true
 |.b,.b=>true
 |.i k,.i k'=>decide (k=k')
 |.s,.s=>true
 |.p a e,.p c d=>a.beq c&&e.beq d
 |.w a,.w e=>a.beq e
 |.ar n k,.ar m k'=>aae n m&&decide (k=k')
 |.sl a,.sl e=>a.beq e
 |.o a,.o e=>a.beq e
 |_,_=>false
theorem Ty.fm{a b:Ty}(h:a.beq b=true):a=b:=by
 induction a generalizing b with
 |p x y ih1 ih2=>cases b<;>first|(simp only[Ty.beq,μ]at h;rw[ih1 h.1,ih2 h.2];done)|exact aaS (show false=true from h)
 |w x ih=>cases b<;>first|exact congrArg Ty.w (ih h)|exact aaS (show false=true from h)
 |o x ih=>cases b<;>first|exact congrArg Ty.o (ih h)|exact aaS (show false=true from h)
 |sl x ih=>cases b<;>first|exact congrArg Ty.sl (ih h)|exact aaS (show false=true from h)
 |ar n k=>cases b<;>first|(simp only[Ty.beq,μ,decide_eq_true_eq]at h;rw[θ h.1,h.2];done)|exact aaS (show false=true from h)
 |i k=>cases b<;>first|exact congrArg Ty.i (of_decide_eq_true h)|exact aaS (show false=true from h)
 |u=>cases b<;>first|rfl|exact aaS (show false=true from h)
 |b=>cases b<;>first|rfl|exact aaS (show false=true from h)
 |s=>cases b<;>first|rfl|exact aaS (show false=true from h)
@[reducible] def Ty.T:Ty->Type
 |.u=>Unit
 |.b=>Bool
 |.i _=>Int
 |.s=>bw
 |.p x y=>x.T×y.T
 |.w x=>x.T
 |.ar n _=>bz n
 |.sl t=>List t.T
 |.o t=>List t.T
def Ty.n:Ty->Nat
 |.u=>0
 |.p x y=>x.n+y.n
 |.w x=>x.n
 |.ar n _=>n
 |_=>1
def Ty.ds:(t:Ty)->t.T->List DV
 |.u,_=>[]
 |.b,x=>[.B x]
 |.i k,n=>[.I k n]
 |.s,t=>[.S t]
 |.p a c,v=>a.ds v.1++c.ds v.2
 |.w a,v=>a.ds v
 |.ar _ k,v=>v.l.map (.I k)
 |.sl t,xs=>[.L (xs.map t.ds)]
 |.o t,xs=>[.L (xs.map t.ds)]
theorem Ty.fo:∀(t:Ty) (x:t.T),(t.ds x).length=t.n
 |.u,_=>rfl
 |.b,_=>rfl
 |.i _,_=>rfl
 |.s,_=>rfl
 |.p a c,v=>by
  show(a.ds v.1++c.ds v.2).length=a.n+c.n;rw[ε,a.fo,c.fo]
 |.w a,v=>a.fo v
 |.ar n k,v=>by
  show(v.l.map (DV.I k)).length=n;rw[κ,v.len]
 |.sl t,xs=>rfl
 |.o _,_=>rfl
theorem Ty.mw:∀(t:Ty) (x:t.T),(t.ds x).all DV.one=true
 |.u,_=>rfl
 |.b,_=>rfl
 |.i _,_=>rfl
 |.s,_=>rfl
 |.p a c,v=>by
  show(a.ds v.1++c.ds v.2).all DV.one=true;rw[List.all_append,a.mw,c.mw];rfl
 |.w a,v=>a.mw v
 |.ar n k,v=>by
  show(v.l.map (DV.I k)).all DV.one=true;rw[List.all_map,aa1];intro _ _;rfl
 |.sl t,xs=>rfl
 |.o _,_=>rfl
theorem uX(t:Ty)(xs:List t.T):j0 t.n (xs.map t.ds):=by rw[Ye fun x=>t.fo x];trivial
theorem Ev(t:Ty)(xs:List t.T):rp (xs.map t.ds)=true:=bLj fun x=>t.mw x
@[reducible] def Ty.xw:(t:Ty)->DecidableEq t.T
 |.u=>inferInstanceAs (DecidableEq Unit)
 |.b=>inferInstanceAs (DecidableEq Bool)
 |.i _=>inferInstanceAs (DecidableEq Int)
 |.s=>inferInstanceAs (DecidableEq (List UInt8))
 |.p x y=>@instDecidableEqProd _ _ x.xw y.xw
 |.w x=>x.xw
 |.ar n _=>inferInstanceAs (DecidableEq (bz n))
 |.sl t=>@instDecidableEqList _ t.xw
 |.o t=>@instDecidableEqList _ t.xw
instance(t:Ty):DecidableEq t.T:=t.xw
def Ty.j8(a b:Ty)(x:a.T):Option b.T:=if h:a.beq b=true then some (Ty.fm h▸x)else none
theorem Ty.ct{a b:Ty}{x:a.T}{y:b.T}(h:a.j8 b x=some y):∃e:a=b,e▸x=y:=by
 unfold Ty.j8 at h;split at h
 ·exact⟨Ty.fm ‹_›,Option.some.inj h⟩
 ·cases h
inductive XV where
 |d (t:Ty) (x:t.T)
 |any
 |un
 |ab
 |ptr (h:Hd) (off:Nat)
 |ept (h:Hd) (t:Ty) (ix off:Nat)
 |apt (h:Hd) (ix:Nat)
 |pa (h:Hd) (off j:Nat)
 |epa (h:Hd) (t:Ty) (ix off j:Nat)
 |rpt (h:Hd) (off:Nat)
 |rpa (h:Hd) (off j:Nat)
 |rsl (h:Hd) (off l len:Nat)
 |rop (t:Ty) (x:t.T) (off:Nat)
 |fl (t:Ty) (xs:List t.T)
 |fln (t:Ty)
 |nl (t:Ty)
 |sl (h:Hd) (t:Ty) (off len:Nat)
 |asl (h:Hd) (off len:Nat)
 |slw (h:Hd) (t:Ty) (len:Nat)
 |mref (h:Hd)
 |itr (hm h:Hd)
 |sc
 |agg (cs:List XV)
 |cr (vs:List XV)
 |clo (f:Nat) (caps:List XV)
 |c (v:Value)
 |yld
 |gst (c:GX)
 deriving Inhabited
variable{cs l l2:List XV}{v a:XV}
def dH:(t:Ty)->t.T->AV
 |.b,x=>.D (.B x)
 |.i k,n=>.D (.I k n)
 |.s,t=>.D (.S t)
 |.sl t,xs=>.D (.L (xs.map t.ds))
 |.u,_=>.agg []
 |.p a c,v=>.agg (((Ty.p a c).ds v).map .D)
 |.w a,v=>.agg ((a.ds v).map .D)
 |.ar n k,v=>.agg (((Ty.ar n k).ds v).map .D)
 |.o t,xs=>.D (.L (xs.map t.ds))
mutual
def XV.er[YL]:XV->AV
 |.d t x=>dH t x
 |.any=>.any
 |.un=>.D (.C undef)
 |.ab=>.ab
 |.ptr h off=>.ptr h off
 |.ept h t ix off=>.eptr h t.n ix off
 |.apt h ix=>.eptr h 1 ix 0
 |.pa h off j=>.ptr h (off+j)
 |.rpt h off=>.eptr h 1 off 0
 |.rpa h off j=>.eptr h 1 (off+j) 0
 |.rsl h off l len=>.sl h 1 (off+l) len
 |.epa h t ix off j=>.eptr h t.n ix (off+j)
 |.mref h=>.mref h
 |.itr hm h=>.itr hm h
 |.rop t x off=>.rop ((t.ds x).drop off)
 |.fl t xs=>.fl (xs.map t.ds)
 |.fln _=>.fl []
 |.nl _=>.D (.L [])
 |.sl h t off len=>.sl h t.n off len
 |.asl h off len=>.sl h 1 off len
 |.slw h t len=>.sl h t.n 0 len
 |.sc=>.sc
 |.agg cs=>.agg (XV.cf cs)
 |.cr vs=>.cr (XV.de vs)
 |.clo f caps=>.clo f (XV.de caps)
 |.c v=>.D (.C v)
 |.yld=>.yld YL.l
 |.gst q=>.gst q.code
def XV.de[YL]:List XV->List AV
 |[]=>[]
 |a::as=>a.er::XV.de as
def XV.fc[YL]:XV->List AV
 |.d t x=>(t.ds x).map .D
 |.agg cs=>XV.cf cs
 |.any=>[.any]
 |.un=>[.D (.C undef)]
 |.ab=>[.ab]
 |.ptr h off=>[.ptr h off]
 |.ept h t ix off=>[.eptr h t.n ix off]
 |.apt h ix=>[.eptr h 1 ix 0]
 |.pa h off j=>[.ptr h (off+j)]
 |.rpt h off=>[.eptr h 1 off 0]
 |.rpa h off j=>[.eptr h 1 (off+j) 0]
 |.rsl h off l len=>[.sl h 1 (off+l) len]
 |.epa h t ix off j=>[.eptr h t.n ix (off+j)]
 |.mref h=>[.mref h]
 |.itr hm h=>[.itr hm h]
 |.rop t x off=>[.rop ((t.ds x).drop off)]
 |.fl t xs=>[.fl (xs.map t.ds)]
 |.fln _=>[.fl []]
 |.nl _=>[.D (.L [])]
 |.sl h t off len=>[.sl h t.n off len]
 |.asl h off len=>[.sl h 1 off len]
 |.slw h t len=>[.sl h t.n 0 len]
 |.sc=>[.sc]
 |.cr vs=>[.cr (XV.de vs)]
 |.clo f caps=>[.clo f (XV.de caps)]
 |.c v=>[.D (.C v)]
 |.yld=>[.yld YL.l]
 |.gst q=>[.gst q.code]
def XV.cf[YL]:List XV->List AV
 |[]=>[]
 |a::as=>a.fc++XV.cf as
end
def z7:Ty->List IntKind
 |.i k=>[k]
 |.p x y=>z7 x++z7 y
 |.ar n k=>aag n k
 |_=>[]
def vt:Ty->Bool
 |.i _=>true
 |.p x y=>vt x&&vt y
 |.ar _ _=>true
 |_=>false
def Ty.kd:Ty->KD
 |.i k=>.i k
 |.ar n k=>.a (aag n k)
 |.w t=>.a (z7 t)
 |_=>.s
def zL:Ty->Bool
 |.i _=>true
 |.s=>true
 |.ar _ _=>true
 |.w t=>vt t
 |_=>false
def sP(wr:Bool)(t:Ty)(x:t.T):MV:=match t,x with
 |.o t,x=>match wr with
  |false=>.o t.n (x.map t.ds)
  |true=>.ow t.n (x.map t.ds)
 |t,x=>.v (dH t x)
def Bt(wr:Bool)(t:Ty)(x:t.T):AV:=match wr with
 |false=>dH t x
 |true=>.any
def iL(wr:Bool)(K V:Ty):List (K.T×V.T)->Option K.T->List (AV×MV)
 |[],_=>[]
 |e::es,none=>(dH K e.1,sP wr V e.2)::iL wr K V es none
 |e::es,some y=>if e.1=y then(dH K e.1,.v (Bt wr V e.2))::iL wr K V es none else(dH K e.1,sP wr V e.2)::iL wr K V es (some y)
def HI(K V:Ty):List (K.T×V.T)->List K.T->List (AV×MV)
 |[],_=>[]
 |e::es,l=>if e.1∈l then(dH K e.1,sP true V e.2)::HI K V es (l.erase e.1)else(dH K e.1,.v .any)::HI K V es l
inductive XB where
 |box (cs:List XV)
 |row (mt:Bool) (t:Ty) (xs:List t.T)
 |arr (mt:Bool) (n:Nat) (k:IntKind) (x:bz n)
 |rb (mt:Bool) (t:Ty) (x:t.T)
 |mp (wr:Bool) (K V:Ty) (es:List (K.T×V.T)) (hole:Option K.T) (it:Option (Hd×Option K.T×List K.T))
 |it
 |sb (T:TypeId×TypeId) (us:Bool) (xs:List Int)
 deriving Inhabited
def iq(k:IntKind)(c:Int):List DV:=[.I k c]
def ja(l:List DV):List (List DV):=l.map fun d=>[d]
def Rj{α:Type}:Option α->List α
 |none=>[]
 |some x=>[x]
def CL(K:Ty):Option (Hd×Option K.T×List K.T)->Option (Hd×List AV×List AV)
 |none=>none
 |some (h,cur,rem)=>some (h,(Rj cur).map (dH K),rem.map (dH K))
def uc(wr:Bool)(K V:Ty)(es:List (K.T×V.T))(hole:Option K.T)(i:Option (Hd×Option K.T×List K.T)):List (AV×MV):=match wr,i with
 |true,some (_,cur,rem)=>HI K V es (Rj cur++rem)
 |_,_=>iL wr K V es hole
theorem MP{wr:Bool}{K V:Ty}{es:List (K.T×V.T)}{hole:Option K.T}:uc wr K V es hole none=iL wr K V es hole:=by cases wr<;>rfl
def E4{α:Type}(wr:Bool)(i:Option α):Bool:=!wr||i.isNone
theorem bGw{wr:Bool}{K V:Ty}{es:List (K.T×V.T)}{hole:Option K.T}{i:Option (Hd×Option K.T×List K.T)}(h:E4 wr i=true):uc wr K V es hole i=iL wr K V es hole:=by
 cases wr with
 |false=>rfl
 |true=>
  cases i with
  |none=>rfl
  |some _=>cases h
def XB.er[YL]:XB->bp
 |.box cs=>.box (XV.cf cs)
 |.row mt t xs=>.row mt t.n (xs.map t.ds)
 |.arr mt _ k x=>.row mt 1 (x.l.map (iq k))
 |.rb mt t x=>.row mt 1 (ja (t.ds x))
 |.mp wr K V es hole i=>.mp K.kd (uc wr K V es hole i) (CL K i)
 |.it=>.it
 |.sb T us xs=>.sb T us (xs.map (Ty.i .u8).ds)
structure XS where
 env:List (Nat×XV)
 bs:List (Option XB)
 own:List (Option XB)
def aV:List (Nat×XV)->Nat->XV
 |[],_=>.any
 |(t,v)::r,i=>if aae i t then v else aV r i
def bP:List (Option XB)->Nat->Option XB
 |[],_=>none
 |b::_,0=>b
 |_::r,i+1=>bP r i
def wN:List (Option XB)->Nat->Option XB->List (Option XB)
 |[],_,_=>[]
 |_::r,0,x=>x::r
 |b::r,i+1,x=>b::wN r i x
def XS.lk(s:XS):Hd->Option XB
 |.B i=>bP s.bs i
 |.O i=>bP s.own i
def XS.er[YL](s:XS):aq:={env:=fun i=>(aV s.env i).er,bs:=fun i=>(bP s.bs i).map XB.er,own:=fun i=>(bP s.own i).map XB.er,nx:=s.own.length}
def HJ:Value->XV
 |.bool x=>.d .b x
 |.int k n=>.d (.i k) n
 |.string s=>.d .s s.data.toList
 |.slice none 0 0=>.fln .u
 |.agg cs=>.agg (cs.toList.map fun v=>match v with
  |.bool x=>.d .b x
  |.int k n=>.d (.i k) n
  |.string s=>.d .s s.data.toList
  |.slice none 0 0=>.fln .u
  |v=>.c v)
 |v=>.c v
def XS.ev(s:XS):Operand->XV
 |.tmp t=>aV s.env t
 |.const v=>HJ v
 |.func f=>.clo f []
 |.global g=>match Cb g with
  |some (k,l)=>.rop (.ar l.length k) ⟨l,rfl⟩ 0
  |none=>.any
theorem Xn[YL](v:Value):(HJ v).er=jT v:=by
 unfold HJ jT;split
 ·rfl
 ·rfl
 ·rfl
 ·rfl
 ·rename_i cs;simp only[XV.er];congr 1;generalize cs.toList=l
  induction l with
  |nil=>rfl
  |cons v l ih=>
   simp only[aaN,XV.cf,ih];cases v with
   |slice a b c=>cases a<;>cases b<;>cases c<;>rfl
   |_=>rfl
 ·rename_i h1 h2 h3 h4 h5;cases v with
  |slice a b c=>
   cases a with
   |some a=>rfl
   |none=>
    cases b with
    |succ b=>rfl
    |zero=>
     cases c with
     |succ c=>rfl
     |zero=>exact absurd rfl h4
  |bool x=>exact absurd rfl (h1 x)
  |int k n=>exact absurd rfl (h2 k n)
  |string x=>exact absurd rfl (h3 x)
  |agg cs=>exact absurd rfl (h5 cs)
  |_=>rfl
theorem aU[YL](s:XS)(h:Hd):s.er.lk h=(s.lk h).map XB.er:=by cases h<;>rfl
section
def bf{α β:Type}(n:Nat)(xs:List α)(a:Option β):Option β:=if n=xs.length then a else none
theorem AU{α β:Type}{n:Nat}{xs:List α}{a:Option β}{r:β}(h:bf n xs a=some r):n=xs.length/\a=some r:=by
 unfold bf at h;split at h
 ·exact⟨‹_›,h⟩
 ·cases h
variable{R:Type}
def xi(k:IntKind)(n:Int)(K:Int->Option R):Option R:=match k.signed with
 |true=>ck k n (K n)
 |false=>K (k.wrap n)
theorem Fp{n:Int}{K:Int->Option R}{r:R}(h:xi k n K=some r):K (k.wrap n)=some r:=by
 unfold xi at h;split at h
 ·obtain⟨e,h⟩:=ZJ h;rw[e];exact h
 ·exact h
def PD(op:BinOp)(k:IntKind)(x y:Int)(K:XV->Option R):Option R:=
 match op with
 |.add=>xi k (x+y) fun n=>K (.d (.i k) n)
 |.sub=>xi k (x-y) fun n=>K (.d (.i k) n)
 |.mul=>xi k (x*y) fun n=>K (.d (.i k) n)
 |.quo=>bb (y≠0) (xi k (x.tdiv y) fun n=>K (.d (.i k) n))
 |.rem=>bb (y≠0) (K (.d (.i k) (x.tmod y)))
 |.and=>K (.d (.i k) (bits .and k x y))
 |.or=>K (.d (.i k) (bits .or k x y))
 |.xor=>K (.d (.i k) (bits .xor k x y))
 |.andNot=>K (.d (.i k) (bits .andNot k x y))
 |.eql=>K (.d .b (x==y))
 |.neq=>K (.d .b (x !=y))
 |.lss=>K (.d .b (decide (x<y)))
 |.leq=>K (.d .b (decide (x<=y)))
 |.gtr=>K (.d .b (decide (x>y)))
 |.geq=>K (.d .b (decide (x≥y)))
 |_=>none
def Nl(op:BinOp)(x y:bw)(K:XV->Option R):Option R:=
 match op with
 |.add=>bb (x.length+y.length<=9223372036854775807) (K (.d .s (x++y)))
 |.eql=>K (.d .b (x==y))
 |.neq=>K (.d .b (!(x==y)))
 |.lss=>K (.d .b (Op.bytesLess x y))
 |.leq=>K (.d .b (Op.bytesLess x y||x==y))
 |.gtr=>K (.d .b (!(Op.bytesLess x y||x==y)))
 |.geq=>K (.d .b (!Op.bytesLess x y))
 |_=>none
def Hx(op:BinOp)(K:XV->Option R):XV->XV->Option R
 |.d (.i k) x,.d (.i k') y=>
  match op with
  |.shl=>bb (0<=y) (bb (y<=k.bits) (xi k (x*2^y.toNat) fun n=>K (.d (.i k) n)))
  |.shr=>bb (0<=y) (bb (y<=k.bits) (K (.d (.i k) (x/2^y.toNat))))
  |op=>if k=k' then PD op k x y K else none
 |.d .s x,.d .s y=>Nl op x y K
 |_,_=>none
def JV(op:UnOp)(K:XV->Option R):XV->Option R
 |.d .b x=>match op with
  |.not=>K (.d .b (!x))
  |_=>none
 |.d (.i k) x=>match op with
  |.neg=>xi k (-x) fun n=>K (.d (.i k) n)
  |.xor=>K (.d (.i k) (bits .xor k (if k.signed then-1 else k.max) x))
  |_=>none
 |_=>none
theorem bJ8[YL]{x y:Int}{K:XV->Option R}{r:R}(h:PD op k x y K=some r)(hK:∀v,K v=some r->KP v.er):Dc op k x y KP:=by
 cases op<;>first
  |(exact hK _ (Fp (K:=fun n=>K (.d (.i k) n)) h);done)
  |(obtain⟨h1,h⟩:=bD h;exact⟨h1,hK _ (Fp (K:=fun n=>K (.d (.i k) n)) h)⟩;done)
  |(obtain⟨h1,h⟩:=bD h;exact⟨h1,hK _ h⟩;done)
  |(exact hK _ h;done)
  |(cases h;done)
theorem S3[YL]{x y:bw}{K:XV->Option R}{r:R}(h:Nl op x y K=some r)(hK:∀v,K v=some r->KP v.er):DA op x y KP:=by
 cases op<;>first
  |(obtain⟨h1,h⟩:=bD h;exact⟨h1,hK _ h⟩;done)
  |(exact hK _ h;done)
  |(cases h;done)
theorem Yp[YL]{c:XV}{K:XV->Option R}{r:R}(h:Hx op K a c=some r)(hK:∀v,K v=some r->KP v.er):Al op KP a.er c.er:=by
 unfold Hx at h;split at h
 ·rename_i k x k' y;simp only[XV.er,dH];unfold Al;split at h
  ·obtain⟨h1,h⟩:=bD h;obtain⟨h2,h⟩:=bD h;exact⟨h1,h2,hK _ (Fp (K:=fun n=>K (.d (.i k) n)) h)⟩
  ·obtain⟨h1,h⟩:=bD h;obtain⟨h2,h⟩:=bD h;exact⟨h1,h2,hK _ h⟩
  ·split at h
   ·have:=bJ8 h hK;cases op<;>first|exact⟨‹_›,this⟩|contradiction
   ·cases h
 ·simp only[XV.er,dH];exact S3 h hK
 ·cases h
theorem U8[YL]{op:UnOp}{K:XV->Option R}{r:R}(h:JV op K a=some r)(hK:∀v,K v=some r->KP v.er):B6 op KP a.er:=by
 unfold JV at h;split at h
 ·split at h
  ·exact⟨rfl,hK _ h⟩
  ·cases h
 ·rename_i k x;split at h
  ·exact hK _ (Fp (K:=fun n=>K (.d (.i k) n)) h)
  ·exact hK _ h
  ·cases h
 ·cases h
def ji:(t:Ty)->t.T->List XV
 |.u,_=>[]
 |.b,x=>[.d .b x]
 |.i k,x=>[.d (.i k) x]
 |.s,x=>[.d .s x]
 |.p a c,v=>ji a v.1++ji c v.2
 |.w a,v=>ji a v
 |.ar n k,x=>[.d (.ar n k) x]
 |.sl t,x=>[.d (.sl t) x]
 |.o t,x=>[.d (.sl t) x]
theorem pE[YL]:∀(a c:List XV),XV.cf (a++c)=XV.cf a++XV.cf c
 |[],c=>rfl
 |x::a,c=>by show x.fc++XV.cf (a++c)=x.fc++XV.cf a++XV.cf c;rw[pE a c,ν]
theorem eR[YL]:∀(t:Ty) (x:t.T),XV.cf (ji t x)=(t.ds x).map .D
 |.u,_=>rfl
 |.b,_=>rfl
 |.i _,_=>rfl
 |.s,_=>rfl
 |.p a c,v=>by
  show XV.cf (ji a v.1++ji c v.2)=(a.ds v.1++c.ds v.2).map .D;rw[pE,eR a,eR c,aau]
 |.w a,v=>eR a v
 |.ar n k,v=>by
  show((Ty.ar n k).ds v).map AV.D++[]=_;rw[aac]
 |.sl t,v=>rfl
 |.o _,_=>rfl
def XV.sz:XV->Nat
 |.d t _=>t.n
 |.agg cs=>(@XV.cf ⟨0⟩ cs).length
 |_=>1
mutual
theorem ZM(x y:YL):∀v:XV,(@XV.fc x v).length=(@XV.fc y v).length
 |.agg cs=>Gq x y cs
 |.d _ _|.any|.un|.ab|.ptr _ _|.ept _ _ _ _|.apt _ _|.pa _ _ _|.rpt _ _|.rpa _ _ _|.rsl _ _ _ _|.epa _ _ _ _ _|.mref _|.itr _ _|.rop _ _ _|.fl _ _|.fln _|.nl _|.sl _ _ _ _|.asl _ _ _|.slw _ _ _|.sc|.cr _|.clo _ _|.c _|.yld|.gst _=>rfl
theorem Gq(x y:YL):∀l:List XV,(@XV.cf x l).length=(@XV.cf y l).length
 |[]=>rfl
 |v::l=>by show(@XV.fc x v++@XV.cf x l).length=(@XV.fc y v++@XV.cf y l).length;rw[ε,ε,ZM x y v,Gq x y l]
end
def nW:Ty->Bool
 |.b=>true
 |.i _=>true
 |.s=>true
 |.sl _=>true
 |.o _=>true
 |_=>false
def O8:XV->Bool
 |.d t _=>nW t
 |.agg _=>false
 |_=>true
theorem JY[YL]:∀{v:XV},O8 v=true->v.fc=[v.er]
 |.d .b _,_=>rfl
 |.d (.i _) _,_=>rfl
 |.d .s _,_=>rfl
 |.d (.sl _) _,_=>rfl
 |.d .u _,h=>by cases h
 |.d (.p _ _) _,h=>by cases h
 |.d (.w _) _,h=>by cases h
 |.d (.ar _ _) _,h=>by cases h
 |.d (.o _) _,_=>rfl
 |.any,_=>rfl
 |.un,_=>rfl
 |.ab,_=>rfl
 |.ptr _ _,_=>rfl
 |.ept _ _ _ _,_=>rfl
 |.apt _ _,_=>rfl
 |.pa _ _ _,_=>rfl
 |.rpt _ _,_=>rfl
 |.rpa _ _ _,_=>rfl
 |.rsl _ _ _ _,_=>rfl
 |.epa _ _ _ _ _,_=>rfl
 |.mref _,_=>rfl
 |.itr _ _,_=>rfl
 |.rop _ _ _,_=>rfl
 |.fl _ _,_=>rfl
 |.fln _,_=>rfl
 |.nl _,_=>rfl
 |.sl _ _ _ _,_=>rfl
 |.asl _ _ _,_=>rfl
 |.slw _ _ _,_=>rfl
 |.sc,_=>rfl
 |.agg _,h=>by cases h
 |.cr _,_=>rfl
 |.clo _ _,_=>rfl
 |.c _,_=>rfl
 |.yld,_=>rfl
 |.gst _,_=>rfl
def x8:List XV->Nat->(XV->Option R)->Option R
 |[],_,_=>none
 |v::r,off,K=>match O8 v with
  |true=>match off with
   |0=>K v
   |off+1=>x8 r off K
  |false=>match v with
   |.d (.ar n k) x=>match Nat.blt off n with
    |true=>bB x.l (off:Int) fun c=>K (.d (.i k) c)
    |false=>x8 r (off-n) K
   |_=>none
theorem AG[YL]{r:R}{K:XV->Option R}:∀{cs:List XV} {off:Nat},x8 cs off K=some r->∃v,(XV.cf cs)[off]?=some v.er/\K v=some r
 |[],_,h=>by cases h
 |v::cs,off,h=>by
  unfold x8 at h;show∃u:XV,(v.fc++XV.cf cs)[off]?=some u.er/\_;split at h
  ·rename_i h1;rw[JY h1];split at h
   ·exact⟨v,rfl,h⟩
   ·rename_i off;obtain⟨u,e,hu⟩:=AG h;exact⟨u,by simpa using e,hu⟩
  ·split at h
   ·rename_i n k x _;have hl:(((Ty.ar n k).ds x).map AV.D).length=n:=by rw[κ,Ty.fo];rfl
    split at h
    ·rename_i hb;rw[adz]at hb;obtain⟨c,_,hc,h⟩:=Cd h;refine⟨.d (.i k) c,?_,h⟩;show(((Ty.ar n k).ds x).map AV.D++XV.cf cs)[off]?=_;rw[List.getElem?_append_left (by omega)];show((x.l.map (DV.I k)).map AV.D)[off]?=_;rw[Int.toNat_natCast]at hc;rw[aaf,aaf,hc];rfl
    ·rename_i hb;have hb:¬off<n:=fun h=>by rw[<-adz]at h;rw[h]at hb;cases hb
     obtain⟨u,e,hu⟩:=AG h;refine⟨u,?_,hu⟩;show(((Ty.ar n k).ds x).map AV.D++XV.cf cs)[off]?=_;rw[aam (by omega),hl];exact e
   ·cases h
end
section
variable{R:Type}
theorem CG[YL]:∀(v:XV),v.fc.length=v.sz
 |.d t x=>by show((t.ds x).map AV.D).length=t.n;rw[κ,Ty.fo]
 |.agg cs=>Gq _ _ cs
 |.any=>rfl
 |.un=>rfl
 |.ab=>rfl
 |.ptr _ _=>rfl
 |.ept _ _ _ _=>rfl
 |.apt _ _=>rfl
 |.pa _ _ _=>rfl
 |.rpt _ _=>rfl
 |.rpa _ _ _=>rfl
 |.rsl _ _ _ _=>rfl
 |.epa _ _ _ _ _=>rfl
 |.mref _=>rfl
 |.itr _ _=>rfl
 |.rop _ _ _=>rfl
 |.fl _ _=>rfl
 |.fln _=>rfl
 |.nl _=>rfl
 |.sl _ _ _ _=>rfl
 |.asl _ _ _=>rfl
 |.slw _ _ _=>rfl
 |.sc=>rfl
 |.cr _=>rfl
 |.clo _ _=>rfl
 |.c _=>rfl
 |.yld=>rfl
 |.gst _=>rfl
def CE:List XV->Nat->Option (List XV)
 |cs,0=>some cs
 |[],_+1=>none
 |v::r,n+1=>match Nat.ble v.sz (n+1)with
  |true=>CE r (n+1-v.sz)
  |false=>none
def tk:List XV->Nat->Option (List XV)
 |_,0=>some []
 |[],_+1=>none
 |v::r,n+1=>match Nat.ble v.sz (n+1)with
  |true=>match tk r (n+1-v.sz)with
   |some l=>some (v::l)
   |none=>none
  |false=>none
theorem F3[YL]:∀{cs:List XV} {n:Nat} {l:List XV},CE cs n=some l->XV.cf l=(XV.cf cs).drop n/\n<=(XV.cf cs).length
 |cs,0,l,h=>by
  have h:some cs=some l:=by cases cs<;>exact h
  cases h;exact⟨rfl,aa2 _⟩
 |[],n+1,l,h=>by cases h
 |v::r,n+1,l,h=>by
  unfold CE at h;split at h
  ·rename_i hb;have hb:=abd hb;obtain⟨h1,h2⟩:=F3 h;show XV.cf l=(v.fc++XV.cf r).drop (n+1)/\n+1<=(v.fc++XV.cf r).length;have hl:=CG v;constructor
   ·rw[h1,aci,abv (as:=v.fc) (by omega),aaW,hl]
   ·rw[ε];omega
  ·cases h
theorem JT[YL]:∀{cs:List XV} {n:Nat} {l:List XV},tk cs n=some l->XV.cf l=(XV.cf cs).take n/\n<=(XV.cf cs).length
 |cs,0,l,h=>by
  have h:some []=some l:=by cases cs<;>exact h
  cases h;exact⟨by rw[List.take_zero];rfl,aa2 _⟩
 |[],n+1,l,h=>by cases h
 |v::r,n+1,l,h=>by
  unfold tk at h;split at h
  ·rename_i hb;have hb:=abd hb;split at h
   ·rename_i l' hl';cases h;obtain⟨h1,h2⟩:=JT hl';show v.fc++XV.cf l'=(v.fc++XV.cf r).take (n+1)/\n+1<=(v.fc++XV.cf r).length;have hl:=CG v;constructor
    ·rw[h1,List.take_append,aaw (l:=v.fc) (by omega),hl]
    ·rw[ε];omega
   ·cases h
  ·cases h
def ux(cs:List XV)(off n:Nat):Option (List XV):=match CE cs off with
 |some l=>tk l n
 |none=>none
theorem GZ[YL]{n:Nat}(h:ux cs off n=some l):off+n<=(XV.cf cs).length/\XV.cf l=((XV.cf cs).drop off).take n:=by
 unfold ux at h;split at h
 ·rename_i l' hl';obtain⟨h1,h2⟩:=F3 hl';obtain⟨h3,h4⟩:=JT h;rw[h1,aaz]at h4;rw[h1]at h3;exact⟨by omega,h3⟩
 ·cases h
def uk(cs:List XV)(off:Nat)(ys:List XV)(sz:Nat):Option (List XV):=match tk cs off,CE cs (off+sz)with
 |some a,some c=>some (a++(ys++c))
 |_,_=>none
theorem wK[YL]{ys:List XV}{sz:Nat}(h:uk cs off ys sz=some l):off+sz<=(XV.cf cs).length/\XV.cf l=(XV.cf cs).take off++XV.cf ys++(XV.cf cs).drop (off+sz):=by
 unfold uk at h;split at h
 ·rename_i a c ha hc;cases h;obtain⟨h1,_⟩:=JT ha;obtain⟨h2,h3⟩:=F3 hc;exact⟨h3,by rw[pE,pE,h1,h2,ν]⟩
 ·cases h
def H5:XV->Bool
 |.any=>false
 |.agg _=>false
 |.cr _=>false
 |.un=>false
 |.ab=>true
 |.c v=>v.oneCell'
 |.yld=>false
 |.gst _=>false
 |_=>true
theorem Bw:∀(a c:List AV),AV.cz (a++c)=(AV.cz a&&AV.cz c)
 |[],c=>rfl
 |x::a,c=>by show(AV.one x&&AV.cz (a++c))=(AV.one x&&AV.cz a&&AV.cz c);rw[Bw a c,Bool.and_assoc]
theorem uE:∀(t:Ty) (x:t.T),AV.cz ((t.ds x).map .D)=true
 |.u,_=>rfl
 |.b,_=>rfl
 |.i _,_=>rfl
 |.s,_=>rfl
 |.p a c,v=>by
  show AV.cz ((a.ds v.1++c.ds v.2).map .D)=true;rw[aau,Bw,uE a,uE c];rfl
 |.w a,v=>uE a v
 |.ar n k,v=>by
  show AV.cz ((v.l.map (DV.I k)).map .D)=true;generalize v.l=l
  induction l with
  |nil=>rfl
  |cons x l ih=>exact ih
 |.sl t,v=>rfl
 |.o _,_=>rfl
theorem Ow[YL]:∀{v:XV},H5 v=true->AV.cz v.fc=true
 |.d t x,_=>uE t x
 |.any,h=>by cases h
 |.agg _,h=>by cases h
 |.cr _,h=>by cases h
 |.un,h=>by cases h
 |.ab,_=>rfl
 |.c v,h=>by show(AV.one (.D (.C v))&&true)=true;rw[Bool.and_true];exact h
 |.yld,h=>by cases h
 |.gst _,h=>by cases h
 |.ptr _ _,_=>rfl
 |.ept _ _ _ _,_=>rfl
 |.apt _ _,_=>rfl
 |.pa _ _ _,_=>rfl
 |.rpt _ _,_=>rfl
 |.rpa _ _ _,_=>rfl
 |.rsl _ _ _ _,_=>rfl
 |.epa _ _ _ _ _,_=>rfl
 |.mref _,_=>rfl
 |.itr _ _,_=>rfl
 |.rop _ _ _,_=>rfl
 |.fl _ _,_=>rfl
 |.fln _,_=>rfl
 |.nl _,_=>rfl
 |.sl _ _ _ _,_=>rfl
 |.asl _ _ _,_=>rfl
 |.slw _ _ _,_=>rfl
 |.sc,_=>rfl
 |.clo _ _,_=>rfl
def EA:List XV->Bool
 |[]=>true
 |v::r=>H5 v&&EA r
theorem MI[YL]:∀{cs:List XV},EA cs=true->AV.cz (XV.cf cs)=true
 |[],_=>rfl
 |v::r,h=>by unfold EA at h;rw[μ]at h;show AV.cz (v.fc++XV.cf r)=true;rw[Bw,Ow h.1,MI h.2];rfl
def uI:XV->Option (List XV)
 |.agg cs=>if EA cs=true then some cs else none
 |.d (.ar n k) x=>some [.d (.ar n k) x]
 |.d t x=>if nW t=true then some [.d t x]else none
 |v=>if H5 v=true then some [v]else none
theorem Ra{a:AV}(h:AV.cz [a]=true):a.cells?=some [a]:=by
 have h1:AV.one a=true:=by have:(AV.one a&&true)=true:=h;rwa[Bool.and_true]at this
 unfold AV.cells?;split
 ·cases h1
 ·rw[if_pos h1]
theorem oU[YL](h:uI v=some cs):v.er.cells?=some (XV.cf cs):=by
 unfold uI at h;split at h
 ·rename_i l;rw[ζ]at h;obtain⟨h1,h⟩:=h;cases h;show(if AV.cz (XV.cf cs)=true then some (XV.cf cs)else none)=_;rw[if_pos (MI h1)]
 ·rename_i n k x;cases h;show(if AV.cz (((Ty.ar n k).ds x).map AV.D)=true then some (((Ty.ar n k).ds x).map AV.D)else none)=some (((Ty.ar n k).ds x).map AV.D++[]);rw[if_pos (uE _ _),aac]
 ·rename_i t x _;rw[ζ]at h;obtain⟨h1,h⟩:=h;cases h;have e:=JY (v:=.d t x) h1;show _=some ((XV.d t x).fc++[]);rw[aac,e];exact Ra (by rw[<-e];exact uE t x)
 ·rename_i h2 _ h3;rw[ζ]at h;obtain⟨h1,h⟩:=h;cases h;have e:v.fc=[v.er]:=JY (by
   cases v with
   |d t x=>exact absurd rfl (h3 t x)
   |agg cs=>exact absurd rfl (h2 cs)
   |_=>rfl)
  show _=some (v.fc++[]);rw[aac,e];exact Ra (by rw[<-e];exact Ow h1)
end
section
variable{R:Type}
def Hd.kq:Hd->Hd->Bool
 |.B i,.B j=>aae i j
 |.O i,.O j=>aae i j
 |_,_=>false
theorem Hd.du:∀{a c:Hd},a.kq c=true↔a=c
 |.B i,.B j=>by simp[Hd.kq,abA]
 |.O i,.O j=>by simp[Hd.kq,abA]
 |.B _,.O _=>by simp[Hd.kq]
 |.O _,.B _=>by simp[Hd.kq]
def gw(h:Hd):List Hd->Bool
 |[]=>false
 |x::r=>h.kq x||gw h r
theorem wD{h:Hd}:∀{l:List Hd},gw h l=true↔h∈l
 |[]=>by simp[gw]
 |x::r=>by simp[gw,Hd.du,wD (l:=r)]
def XB.j1:XB->XB
 |.row _ t xs=>.row false t xs
 |.arr _ n k x=>.arr false n k x
 |.rb _ t x=>.rb false t x
 |b=>b
theorem Ks[YL]:∀(b:XB),b.j1.er=b.er.j1
 |.row _ _ _=>rfl
 |.arr _ _ _ _=>rfl
 |.rb _ _ _=>rfl
 |.box _=>rfl
 |.mp _ _ _ _ _ _=>rfl
 |.it=>rfl
 |.sb _ _ _=>rfl
def oo(mk:Nat->Hd)(fz:List Hd):Nat->List (Option XB)->List (Option XB)
 |_,[]=>[]
 |i,b::r=>(match gw (mk i) fz with|true=>b.map XB.j1|false=>b)::oo mk fz (i+1) r
theorem IW(mk:Nat->Hd)(fz:List Hd):∀(l:List (Option XB)) (n i:Nat),bP (oo mk fz n l) i=if mk (n+i)∈fz then(bP l i).map XB.j1 else bP l i
 |[],n,i=>by simp[oo,bP]
 |b::r,n,0=>by
  show(match gw (mk n) fz with|true=>b.map XB.j1|false=>b)=_;rw[Nat.add_zero];cases hq:gw (mk n) fz with
  |true=>rw[if_pos (wD.1 hq)];rfl
  |false=>rw[if_neg (fun h=>by rw[wD.2 h]at hq;cases hq)];rfl
 |b::r,n,i+1=>by show bP (oo mk fz (n+1) r) i=_;rw[IW mk fz r (n+1) i,show n+1+i=n+(i+1) by omega];rfl
theorem zN(mk:Nat->Hd)(fz:List Hd):∀(l:List (Option XB)) (n:Nat),(oo mk fz n l).length=l.length
 |[],_=>rfl
 |b::r,n=>by show(oo mk fz (n+1) r).length+1=r.length+1;rw[zN mk fz r]
theorem IG:∀(a c:List (Option XB)) (i:Nat),bP (a++c) i=if i<a.length then bP a i else bP c (i-a.length)
 |[],c,i=>by simp
 |x::a,c,0=>by simp[bP]
 |x::a,c,i+1=>by show bP (a++c) i=_;rw[IG a c i];simp only[List.length_cons,Nat.add_lt_add_iff_right,Nat.add_sub_add_right];rfl
theorem Mj:∀(l:List XB) (i:Nat),bP (l.map some) i=l[i]?
 |[],_=>rfl
 |x::l,0=>rfl
 |x::l,i+1=>by show bP (l.map some) i=_;rw[Mj l i];simp
theorem Fq:∀(l:List (Option XB)) (i:Nat),l.length<=i->bP l i=none
 |[],_,_=>rfl
 |x::l,0,h=>by simp at h
 |x::l,i+1,h=>Fq l i (by simpa using h)
def XS.put(s:XS)(dst:Option Nat)(v:XV)(nbs:List XB)(fz:List Hd):XS:=
 {env:=match dst with
   |some d=>(d,v)::s.env
   |none=>s.env
  bs:=match fz with
   |[]=>s.bs
   |fz=>oo .B fz 0 s.bs
  own:=(match fz with
   |[]=>s.own
   |fz=>oo .O fz 0 s.own)++nbs.map some}
theorem aq.ext'{s s':aq}(h1:∀i,s.env i=s'.env i)(h2:∀i,s.bs i=s'.bs i)(h3:∀i,s.own i=s'.own i)(h4:s.nx=s'.nx):s=s':=by obtain⟨a,c,d,e⟩:=s;obtain⟨a',c',d',e'⟩:=s';obtain rfl:a=a':=funext h1;obtain rfl:c=c':=funext h2;obtain rfl:d=d':=funext h3;obtain rfl:e=e':=h4;rfl
theorem eV[YL](s:XS)(dst:Option Nat)(v:XV)(nbs:List XB)(fz:List Hd):(s.put dst v nbs fz).er=s.er.put dst v.er (nbs.map XB.er) fz:=by
 have hlen:(match fz with|[]=>s.own|fz=>oo .O fz 0 s.own).length=s.own.length:=by
  cases fz with
  |nil=>rfl
  |cons x r=>exact zN _ _ _ _
 refine aq.ext' (fun i=>?_) (fun i=>?_) (fun i=>?_) ?_
 ·show(aV _ i).er=dD s.er.env dst v.er i;cases dst with
  |none=>rfl
  |some d=>
   show(if aae i d=true then v else aV s.env i).er=if i=d then v.er else(aV s.env i).er
   by_cases h:i=d
   ·rw[if_pos h,if_pos (by rw[abA];exact h)]
   ·rw[if_neg h,if_neg (by rw[abA];exact h)]
 ·show(bP _ i).map XB.er=DC s.er.bs fz i;cases fz with
  |nil=>rfl
  |cons x r=>
   show(bP (oo .B (x::r) 0 s.bs) i).map XB.er=if Hd.B i∈x::r then((bP s.bs i).map XB.er).map bp.j1 else(bP s.bs i).map XB.er
   rw[IW,Nat.zero_add];split
   ·rw[adv,adv];congr 1;funext b;exact Ks b
   ·rfl
 ·show(bP (_++nbs.map some) i).map XB.er=uA (xj s.er.own fz) s.own.length (nbs.map XB.er) i;rw[tV,IG,hlen,κ];by_cases h1:i<s.own.length
  ·rw[if_pos h1,if_neg (by omega)];cases fz with
   |nil=>rfl
   |cons x r=>
    show(bP (oo .O (x::r) 0 s.own) i).map XB.er=if Hd.O i∈x::r then((bP s.own i).map XB.er).map bp.j1 else(bP s.own i).map XB.er
    rw[IW,Nat.zero_add];split
    ·rw[adv,adv];congr 1;funext b;exact Ks b
    ·rfl
  ·rw[if_neg h1,Mj];by_cases h2:i<s.own.length+nbs.length
   ·rw[if_pos ⟨by omega,h2⟩,aaf]
   ·rw[if_neg (by omega),aay (by omega)];have:bP s.own i=none:=Fq _ _ (by omega);have e:s.er.own i=none:=by show(bP s.own i).map XB.er=none;rw[this];rfl
    show none=xj s.er.own fz i;unfold xj;cases fz with
    |nil=>exact e.symm
    |cons x r=>simp[e]
 ·cases fz with
  |nil=>
   show(s.own++nbs.map some).length=s.own.length+(nbs.map XB.er).length;rw[ε,κ,κ]
  |cons x r=>
   show(oo .O (x::r) 0 s.own++nbs.map some).length=s.own.length+(nbs.map XB.er).length;rw[ε,zN,κ,κ]
def XS.az(s:XS)(h:Hd)(b:Option XB):XS:=match h with
 |.B i=>{s with bs:=wN s.bs i b}
 |.O i=>{s with own:=wN s.own i b}
theorem nG:∀(l:List (Option XB)) (i:Nat) (b:Option XB) (j:Nat),i<l.length->bP (wN l i b) j=if j=i then b else bP l j
 |[],i,b,j,h=>by simp at h
 |x::l,0,b,0,_=>rfl
 |x::l,0,b,j+1,_=>by simp[wN,bP]
 |x::l,i+1,b,0,_=>by simp[wN,bP]
 |x::l,i+1,b,j+1,h=>by show bP (wN l i b) j=_;rw[nG l i b j (by simpa using h)];simp only[Nat.add_right_cancel_iff];rfl
theorem zD:∀(l:List (Option XB)) (i:Nat) (b:Option XB),(wN l i b).length=l.length
 |[],_,_=>rfl
 |_::_,0,_=>rfl
 |x::l,i+1,b=>by show(wN l i b).length+1=_;rw[zD l i b];rfl
theorem pF:∀{l:List (Option XB)} {i:Nat} {b:XB},bP l i=some b->i<l.length
 |[],_,_,h=>by cases h
 |_::_,0,_,_=>Nat.succ_pos _
 |_::l,i+1,_,h=>Nat.succ_lt_succ (pF (l:=l) h)
theorem cJ[YL]{s:XS}{b0:XB}(hl:s.lk h=some b0)(b:Option XB):(s.az h b).er=s.er.az h (b.map XB.er):=by
 cases h with
 |B i=>
  have hi:=pF (l:=s.bs) hl;refine aq.ext' (fun _=>rfl) (fun j=>?_) (fun _=>rfl) rfl;show(bP (wN s.bs i b) j).map XB.er=if j=i then b.map XB.er else(bP s.bs j).map XB.er
  rw[nG _ _ _ _ hi];split<;>rfl
 |O i=>
  have hi:=pF (l:=s.own) hl;refine aq.ext' (fun _=>rfl) (fun _=>rfl) (fun j=>?_) (zD _ _ _);show(bP (wN s.own i b) j).map XB.er=if j=i then b.map XB.er else(bP s.own j).map XB.er
  rw[nG _ _ _ _ hi];split<;>rfl
theorem Wc[YL](s:XS)(x:Operand):(s.ev x).er=s.er.ev x:=by
 cases x with
 |tmp t=>rfl
 |const v=>exact Xn v
 |func f=>rfl
 |global g=>
  show(match Cb g with
   |some (k,l)=>XV.rop (.ar l.length k) ⟨l,rfl⟩ 0
   |none=>.any).er=(match th g with
   |some ds=>AV.rop ds
   |none=>.any)
  rw[Uh];cases Cb g<;>rfl
def C0:Operand->Bool
 |_=>true
theorem v8[YL](s:XS){x:Operand}(_:C0 x=true):s.er.ev x=(s.ev x).er:=(Wc s x).symm
end
section
variable{R:Type}
def cw{α β:Type}(xs:List α)(i:Nat)(f:α->Option β):Option β:=match xs[i]?with
 |some x=>f x
 |none=>none
theorem xh{α β:Type}{xs:List α}{f:α->Option β}{r:β}(h:cw xs i f=some r):∃x,xs[i]?=some x/\f x=some r:=by
 unfold cw at h;split at h
 ·exact⟨_,‹_›,h⟩
 ·cases h
def E1(K:XV->Option R):Option (List XV)->Option R
 |some l=>K (.agg l)
 |none=>none
def zu(ag:Option Nat)(cs:List XV)(off:Nat)(K:XV->Option R):Option R:=match ag with
 |none=>x8 cs off K
 |some n=>E1 K (ux cs off n)
theorem BK[YL]{K:XV->Option R}{r:R}(h:zu ag cs off K=some r):
  ∃v,K v=some r/\match ag with
   |none=>(XV.cf cs)[off]?=some v.er
   |some n=>off+n<=(XV.cf cs).length/\v.er=.agg (((XV.cf cs).drop off).take n):=by
 unfold zu at h;cases ag with
 |none=>
  obtain⟨v,h1,h2⟩:=AG h;exact⟨v,h2,h1⟩
 |some n=>
  have h:E1 K (ux cs off n)=some r:=h;cases hc:ux cs off n with
  |none=>rw[hc]at h;cases h
  |some l=>
   rw[hc]at h;obtain⟨h1,h2⟩:=GZ hc;exact⟨.agg l,h,h1,by show AV.agg (XV.cf l)=_;rw[h2]⟩
def Nc(k:IntKind)(K:XV->Option R){n:Nat}(x:bz n):Option Nat->Nat->Option R
 |none,off=>cw x.l off fun c=>K (.d (.i k) c)
 |some m,0=>match aae m n with
  |true=>K (.d (.ar n k) x)
  |false=>none
 |_,_=>none
def JE(ag:Option Nat)(off:Nat)(K:XV->Option R):(t:Ty)->t.T->Option R
 |.ar _ k,x=>Nc k K x ag off
 |t,x=>zu ag (ji t x) off K
structure kj where
 n:Nat
 k:IntKind
 x:bz n
def pq:List XV->Nat->Option kj
 |[],_=>none
 |v::r,0=>match v with
  |.d (.ar n k) x=>some ⟨n,k,x⟩
  |_=>none
 |v::r,off+1=>match Nat.ble v.sz (off+1)with
  |true=>pq r (off+1-v.sz)
  |false=>none
theorem Bx[YL]:∀{cs:List XV} {off:Nat} {a:kj},pq cs off=some a->((XV.cf cs).drop off).take a.n=(a.x.l.map (DV.I a.k)).map .D/\off+a.n<=(XV.cf cs).length
 |[],_,_,h=>by cases h
 |v::r,0,a,h=>by
  unfold pq at h;show((v.fc++XV.cf r).drop 0).take a.n=_/\0+a.n<=(v.fc++XV.cf r).length;split at h
  ·rename_i n k x;cases h;have hl:(XV.d (.ar n k) x).fc.length=n:=CG _;rw[ε,hl];refine⟨?_,by show 0+n<=_;omega⟩;rw[aax];show((XV.d (.ar n k) x).fc++XV.cf r).take n=_;rw[List.take_append_of_le_length (by omega),aaw (by omega)];rfl
  ·cases h
 |v::r,off+1,a,h=>by
  unfold pq at h;show((v.fc++XV.cf r).drop (off+1)).take a.n=_/\off+1+a.n<=(v.fc++XV.cf r).length;split at h
  ·rename_i hb;have hb:=abd hb;obtain⟨h1,h2⟩:=Bx h;have hl:=CG v;rw[ε];refine⟨?_,by omega⟩;rw[aci,abv (as:=v.fc) (by omega),aaW,hl];exact h1
  ·cases h
theorem Tl[YL]{a:kj}(h:pq cs off=some a){j:Nat}{c:Int}(hc:a.x.l[j]?=some c):(XV.cf cs)[off+j]?=some (.D (.I a.k c)):=by obtain⟨h1,h2⟩:=Bx h;have hlt:=(χ.1 hc).1;rw[a.x.len]at hlt;have:=congrArg (fun l=>l[j]?) h1;simp only[List.getElem?_take_of_lt hlt,List.getElem?_drop,aaf,hc]at this;exact this
def CB(cs:List XV)(off j:Nat)(K:XV->Option R):Option R:=match pq cs off with
 |some a=>cw a.x.l j fun c=>K (.d (.i a.k) c)
 |none=>x8 cs (off+j) K
theorem IB[YL]{j:Nat}{K:XV->Option R}{r:R}(h:CB cs off j K=some r):∃v,(XV.cf cs)[off+j]?=some v.er/\K v=some r:=by
 unfold CB at h;split at h
 ·rename_i a ha;obtain⟨c,hc,h⟩:=xh h;exact⟨.d (.i a.k) c,Tl ha hc,h⟩
 ·exact AG h
def EN(s:XS)(ag:Option Nat)(K:XV->Option R):XV->Option R
 |.ptr h off=>match s.lk h with
  |some (.box cs)=>zu ag cs off K
  |_=>none
 |.ept h t ix off=>match s.lk h with
  |some (.row _ t' xs)=>match t'.beq t with
   |true=>cw xs ix fun x=>match ag with
    |none=>x8 (ji t' x) off K
    |some n=>match aae t'.n 1 with
     |true=>match aae n 1&&aae off 0 with
      |true=>K (.agg (ji t' x))
      |false=>none
     |false=>E1 K (ux (ji t' x) off n)
   |false=>none
  |_=>none
 |.apt h ix=>match s.lk h with
  |some (.arr _ n k x)=>match ag with
   |none=>cw x.l ix fun c=>K (.d (.i k) c)
   |some m=>match ix,aae m n&&Nat.blt 0 n with
    |0,true=>K (.d (.ar n k) x)
    |ix,_=>bb (ix+m<=n) (bb (0<m) (K (.d (.ar m k) (x.part ix m))))
  |_=>none
 |.pa h off j=>match s.lk h,ag with
  |some (.box cs),none=>CB cs off j K
  |_,_=>none
 |.epa h t ix off j=>match s.lk h,ag with
  |some (.row _ t' xs),none=>match t'.beq t with
   |true=>cw xs ix fun x=>CB (ji t' x) off j K
   |false=>none
  |_,_=>none
 |.rpt h off=>match s.lk h with
  |some (.rb _ t x)=>match ag with
   |none=>x8 (ji t x) off K
   |some n=>match Nat.blt 0 n with
    |true=>E1 K (ux (ji t x) off n)
    |false=>none
  |_=>none
 |.rpa h off j=>match s.lk h,ag with
  |some (.rb _ t x),none=>CB (ji t x) off j K
  |_,_=>none
 |.rop t x off=>JE ag off K t x
 |_=>none
theorem DM{l:List DV}{d:DV}(h:l[i]?=some d):(ja l)[i]?=some [d]:=by unfold ja;rw[aaf,h];rfl
theorem Jt:∀l:List DV,(ja l).flatten=l
 |[]=>rfl
 |x::l=>by show[x]++(ja l).flatten=_;rw[Jt l];rfl
theorem I1(l:List DV)(a n:Nat):((ja l).drop a).take n=ja ((l.drop a).take n):=by unfold ja;rw[aaA,aaI]
theorem AF(l:List DV):(ja l).length=l.length:=κ _
theorem uR{l:List DV}{v:AV}(h:(l.map AV.D)[i]?=some v):∃x,l[i]?=some x/\v=.D x:=by
 rw[aaf]at h;cases hx:l[i]?with
 |none=>rw[hx]at h;cases h
 |some x=>rw[hx]at h;cases h;exact⟨x,rfl,rfl⟩
theorem C9(k:IntKind):∀l:List Int,(l.map (iq k)).flatten=l.map (DV.I k)
 |[]=>rfl
 |x::l=>by show[DV.I k x]++(l.map (iq k)).flatten=_;rw[C9 k l];rfl
def Mf(ag:Option Nat)(off:Nat)(l:List AV)(v:AV):Prop:=match ag with
 |none=>l[off]?=some v
 |some n=>off+n<=l.length/\v=.agg ((l.drop off).take n)
theorem YC[YL]{K:XV->Option R}{n:Nat}{x:bz n}{r:R}:∀{ag:Option Nat} {off:Nat},Nc k K x ag off=some r->∃v,K v=some r/\Mf ag off ((x.l.map (DV.I k)).map AV.D) v.er
 |none,off,h=>by
  obtain⟨c,hc,h⟩:=xh h;exact⟨_,h,by show((x.l.map (DV.I k)).map AV.D)[off]?=_;rw[aaf,aaf,hc];rfl⟩
 |some m,0,h=>by
  have h:(match aae m n with
   |true=>K (.d (.ar n k) x)
   |false=>none)=some r:=h
  split at h
  ·rename_i hb;obtain rfl:=θ hb;have hl:((x.l.map (DV.I k)).map AV.D).length=m:=by rw[κ,κ,x.len]
   refine⟨_,h,?_,?_⟩
   ·show 0+m<=((x.l.map (DV.I k)).map AV.D).length;rw[hl];omega
   ·show AV.agg ((x.l.map (DV.I k)).map AV.D)=.agg ((((x.l.map (DV.I k)).map AV.D).drop 0).take m);rw[aax,aaw (by omega)]
  ·cases h
 |some m,_+1,h=>by have h:none=some r:=h;cases h
theorem YQ[YL]{K:XV->Option R}{r:R}{x:t.T}(h:JE ag off K t x=some r):∃v,K v=some r/\Mf ag off ((t.ds x).map AV.D) v.er:=by
 cases t with
 |ar n k=>
  obtain⟨v,h1,h2⟩:=YC h;exact⟨v,h1,h2⟩
 |_=>
  obtain⟨v,h1,h2⟩:=BK h;rw[eR]at h2;exact⟨v,h1,by cases ag<;>exact h2⟩
theorem Gf[YL]{s:XS}{K:XV->Option R}{r:R}(h:EN s ag K a=some r)(hK:∀v,K v=some r->KP v.er):pS s.er.lk ag KP a.er:=by
 unfold EN at h;split at h
 ·rename_i hd off;split at h
  ·rename_i cs hl;obtain⟨v,h1,h2⟩:=BK h;refine⟨XV.cf cs,by rw[aU,hl];rfl,?_⟩;cases ag with
   |none=>exact⟨_,h2,hK _ h1⟩
   |some n=>exact⟨h2.1,by rw[<-h2.2];exact hK _ h1⟩
  ·cases h
 ·rename_i hd t ix off;split at h
  ·rename_i mt t' xs hl;split at h
   ·rename_i hb;obtain rfl:=Ty.fm hb
    replace h:=xh h
    obtain⟨x,hx,h⟩:=h;refine⟨mt,xs.map t'.ds,t'.ds x,by rw[aU,hl];rfl,by rw[aaf,hx];rfl,?_⟩;cases ag with
    |none=>
     obtain⟨v,h1,h2⟩:=AG h;rw[eR]at h1;obtain⟨d,h3,h4⟩:=uR h1;exact⟨d,h3,by rw[<-h4];exact hK _ h2⟩
    |some n=>
     show if t'.n=1 then _ else _
     simp only at h;split at h
     ·rename_i h1;have h1:=θ h1;rw[if_pos h1];split at h
      ·rename_i h2;rw[μ]at h2;obtain rfl:=θ h2.1;obtain rfl:=θ h2.2;have hlt:=(χ.1 hx).1;refine⟨rfl,by rw[κ];omega,?_⟩;have e:(((xs.map t'.ds).drop ix).take 1).flatten=t'.ds x:=by rw[List.take_one,List.head?_drop,aaf,hx];simp
       rw[e];have:=hK _ h;simp only[XV.er,eR]at this;exact this
      ·cases h
     ·rename_i h1;rw[if_neg (fun e=>by rw[e]at h1;cases h1)];cases hc:ux (ji t' x) off n with
      |none=>rw[hc]at h;cases h
      |some l=>
       rw[hc]at h;obtain⟨h2,h3⟩:=GZ hc;rw[eR]at h2 h3;rw[κ]at h2;refine⟨h2,?_⟩;have:=hK _ h;simp only[XV.er,h3]at this;rw[aaA,aaI];exact this
   ·cases h
  ·cases h
 ·rename_i hd ix;split at h
  ·rename_i mt n k x hl;cases ag with
   |none=>
    obtain⟨c,hc,h⟩:=xh h;exact⟨mt,x.l.map (iq k),iq k c,by rw[aU,hl];rfl,by rw[aaf,hc];rfl,.I k c,rfl,hK _ h⟩
   |some m=>
    simp only at h;split at h
    ·rename_i hb;rw[μ,adz]at hb;obtain rfl:=θ hb.1;have hlen:=x.len;obtain⟨c,hc⟩:∃c,x.l[0]?=some c:=⟨x.l[0]'(by omega),ξ (by omega)⟩;refine⟨mt,x.l.map (iq k),iq k c,by rw[aU,hl];rfl,by rw[aaf,hc];rfl,?_⟩;show if 1=1 then _ else _
     rw[if_pos rfl];refine⟨rfl,by rw[κ];omega,?_⟩;rw[aax,aaw (by rw[κ];omega),C9];exact hK _ h
    ·rename_i ix _ _ _;obtain⟨h1,h⟩:=bD h;obtain⟨h2,h⟩:=bD h;have hlen:=x.len;obtain⟨c,hc⟩:∃c,x.l[ix]?=some c:=⟨x.l[ix]'(by omega),ξ (by omega)⟩;refine⟨mt,x.l.map (iq k),iq k c,by rw[aU,hl];rfl,by rw[aaf,hc];rfl,?_⟩;show if 1=1 then _ else _
     rw[if_pos rfl];refine⟨rfl,by rw[κ];omega,?_⟩;rw[<-aaI,<-aaA,C9,<-bz.si h1];exact hK _ h
  ·cases h
 ·rename_i hd off j;split at h
  ·rename_i cs hl;obtain⟨v,h1,h2⟩:=IB h;exact⟨XV.cf cs,by rw[aU,hl];rfl,_,h1,hK _ h2⟩
  ·cases h
 ·rename_i hd t ix off j;split at h
  ·rename_i mt t' xs hl;split at h
   ·rename_i hb;obtain rfl:=Ty.fm hb;obtain⟨x,hx,h⟩:=xh h;obtain⟨v,h1,h2⟩:=IB h;rw[eR]at h1;obtain⟨d,h3,h4⟩:=uR h1;exact⟨mt,xs.map t'.ds,t'.ds x,by rw[aU,hl];rfl,by rw[aaf,hx];rfl,d,h3,by rw[<-h4];exact hK _ h2⟩
   ·cases h
  ·cases h
 ·rename_i hd off;split at h
  ·rename_i mt t x hl;cases ag with
   |none=>
    obtain⟨v,h1,h2⟩:=AG h;rw[eR]at h1;obtain⟨d,h3,h4⟩:=uR h1;exact⟨mt,ja (t.ds x),[d],by rw[aU,hl];rfl,DM h3,d,rfl,by rw[<-h4];exact hK _ h2⟩
   |some n=>
    simp only at h;split at h
    rotate_left
    ·cases h
    rename_i h0;have h0:=abd h0;cases hc:ux (ji t x) off n with
    |none=>rw[hc]at h;cases h
    |some l=>
     rw[hc]at h;obtain⟨h2,h3⟩:=GZ hc;rw[eR]at h2 h3;rw[κ]at h2
     ·have hlt:off<(t.ds x).length:=by omega
      refine⟨mt,ja (t.ds x),[(t.ds x)[off]],by rw[aU,hl];rfl,DM (ξ hlt),?_⟩;show if(1:Nat)=1 then _ else _
      rw[if_pos rfl];refine⟨rfl,by rw[AF];omega,?_⟩;rw[I1,Jt];have:=hK _ h;simp only[XV.er,h3]at this;rw[aaA,aaI];exact this
  ·cases h
 ·rename_i hd off j;split at h
  ·rename_i mt t x hl;obtain⟨v,h1,h2⟩:=IB h;rw[eR]at h1;obtain⟨d,h3,h4⟩:=uR h1;exact⟨mt,ja (t.ds x),[d],by rw[aU,hl];rfl,DM h3,d,rfl,by rw[<-h4];exact hK _ h2⟩
  ·cases h
 ·rename_i t x off;obtain⟨v,h1,h2⟩:=YQ h;simp only[XV.er];cases ag with
  |none=>
   obtain⟨d,h3,h4⟩:=uR h2;exact⟨d,by rw[<-h3];simp,by rw[<-h4];exact hK _ h1⟩
  |some n=>
   obtain⟨h3,h4⟩:=h2;rw[κ]at h3;refine⟨by rw[aaz];omega,?_⟩;rw[aaA,aaI,<-h4];exact hK _ h1
 ·cases h
def qU(s:XS)(x:Option Operand)(dflt:Nat)(K:Nat->Option R):Option R:=match x with
 |none=>K dflt
 |some x=>match C0 x with
  |true=>match s.ev x with
   |.d (.i _) n=>bb (0<=n) (K n.toNat)
   |_=>none
  |false=>none
theorem eS[YL]{s:XS}{x:Option Operand}{d:Nat}{K:Nat->Option R}{KP:Nat->Prop}{r:R}(h:qU s x d K=some r)(hK:∀v,K v=some r->KP v):jA s.er.ev x d KP:=by
 unfold qU at h;split at h
 ·exact hK _ h
 ·rename_i x;split at h
  ·rename_i hx;split at h
   ·rename_i k n hn;obtain⟨h1,h⟩:=bD h;exact⟨k,n,by rw[v8 s hx,hn];rfl,h1,hK _ h⟩
   ·cases h
  ·cases h
def z6(str:Bool):XV->Option Nat
 |.d (.sl _) xs=>match str with
  |false=>some xs.length
  |true=>none
 |.fl _ xs=>match str with
  |false=>some xs.length
  |true=>none
 |.fln _=>match str with
  |false=>some 0
  |true=>none
 |.nl _=>match str with
  |false=>some 0
  |true=>none
 |.sl _ _ _ len=>match str with
  |false=>some len
  |true=>none
 |.asl _ _ len=>match str with
  |false=>some len
  |true=>none
 |.rsl _ _ _ len=>match str with
  |false=>some len
  |true=>none
 |.slw _ _ len=>match str with
  |false=>some len
  |true=>none
 |.d .s t=>match str with
  |true=>some t.length
  |false=>none
 |_=>none
theorem HP[YL]{str:Bool}{m:Nat}(h:z6 str v=some m):v.er.ma str=some m:=by
 unfold z6 at h;split at h<;>first|(cases h;done)|(split at h<;>first|(cases h;done)|skip)
 ·cases h;show some (List.length (List.map _ _))=_;rw[κ]
 ·cases h;show some (List.length (List.map _ _))=_;rw[κ]
 ·cases h;rfl
 ·cases h;rfl
 ·cases h;rfl
 ·cases h;rfl
 ·cases h;rfl
 ·cases h;rfl
 ·cases h;rfl
def xX(s:XS):XV->Bool
 |.ptr h _=>(s.lk h).isSome
 |.ept h _ _ _=>(s.lk h).isSome
 |.apt h _=>(s.lk h).isSome
 |.pa h _ _=>(s.lk h).isSome
 |.rpt h _=>(s.lk h).isSome
 |.rpa h _ _=>(s.lk h).isSome
 |.rsl h _ _ _=>(s.lk h).isSome
 |.epa h _ _ _ _=>(s.lk h).isSome
 |.sl h _ _ _=>(s.lk h).isSome
 |.asl h _ _=>(s.lk h).isSome
 |.slw h _ _=>(s.lk h).isSome
 |_=>true
theorem kD[YL]{s:XS}(h:xX s v=true):v.er.live s.er.lk=true:=by
 cases v with
 |d t x=>cases t<;>rfl
 |ptr hd off=>show(s.er.lk hd).isSome=true;rw[aU,abn];exact h
 |ept hd t ix off=>show(s.er.lk hd).isSome=true;rw[aU,abn];exact h
 |pa hd off j=>show(s.er.lk hd).isSome=true;rw[aU,abn];exact h
 |rpt hd off=>show(s.er.lk hd).isSome=true;rw[aU,abn];exact h
 |rpa hd off j=>show(s.er.lk hd).isSome=true;rw[aU,abn];exact h
 |rsl hd off l len=>show(s.er.lk hd).isSome=true;rw[aU,abn];exact h
 |epa hd t ix off j=>show(s.er.lk hd).isSome=true;rw[aU,abn];exact h
 |apt hd ix=>show(s.er.lk hd).isSome=true;rw[aU,abn];exact h
 |sl hd t off len=>show(s.er.lk hd).isSome=true;rw[aU,abn];exact h
 |slw hd t len=>show(s.er.lk hd).isSome=true;rw[aU,abn];exact h
 |asl hd off len=>show(s.er.lk hd).isSome=true;rw[aU,abn];exact h
 |_=>rfl
end
section
variable{R:Type}
def qy(l:List Int)(off len n:Nat):List Int:=match off,aae len n with
 |0,true=>l
 |off,_=>(l.drop off).take len
theorem EG{l:List Int}{len n:Nat}(hl:l.length=n):qy l off len n=(l.drop off).take len:=by
 unfold qy;split
 ·rename_i hb;have hb:=θ hb;rw[aax,aaw (by omega)]
 ·rfl
theorem oA:∀{a b:List DV},a.map AV.D=b.map AV.D->a=b
 |[],[],_=>rfl
 |[],_::_,h=>by cases h
 |_::_,[],h=>by cases h
 |x::a,y::b,h=>by
  rw[aaN,aaN]at h;injection h with h1 h2
  injection h1 with h1
  rw[h1,oA h2]
theorem Ft{x:t.T}{l len:Nat}{a:kj}(ha:pq (ji t x) off=some a)(h:l+len<=a.n):off+l+len<=(ja (t.ds x)).length/\((ja (t.ds x)).drop (off+l)).take len=(qy a.x.l l len a.n).map (Ty.i a.k).ds:=by
 obtain⟨h1,h2⟩:=@Bx ⟨0⟩ _ _ _ ha;rw[@eR ⟨0⟩]at h1 h2;rw[κ]at h2;have e:((t.ds x).drop off).take a.n=a.x.l.map (DV.I a.k):=by rw[<-aaI,<-aaA]at h1;exact oA h1
 have hl:a.x.l.length=a.n:=a.x.len;refine⟨by rw[AF];omega,?_⟩;rw[I1,EG hl];have e2:((t.ds x).drop (off+l)).take len=((a.x.l.drop l).take len).map (DV.I a.k):=by rw[aaA,aaI,<-e,List.drop_take,List.drop_drop,List.take_take,Nat.min_eq_left (by omega)]
 rw[e2];show List.map _ (List.map _ _)=_;rw[List.map_map];rfl
def qD(s:XS)(t:Ty)(v:XV)(K:t.T->Option R):Option R:=match v with
 |.d t' x=>match t'.j8 t x with
  |some y=>K y
  |none=>none
 |.fl t' xs=>match(Ty.sl t').j8 t xs with
  |some y=>K y
  |none=>none
 |.fln _=>match t,K with
  |.sl _,K=>K []
  |.o _,K=>K []
  |_,_=>none
 |.nl _=>match t,K with
  |.sl _,K=>K []
  |.o _,K=>K []
  |_,_=>none
 |.slw h t' len=>match s.lk h with
  |some (.row _ t2 xs)=>match t2.beq t' with
   |true=>match(Ty.sl t2).j8 t xs with
    |some y=>bf len xs (K y)
    |none=>none
   |false=>none
  |_=>none
 |.sl h t' off len=>match s.lk h with
  |some (.row _ t2 xs)=>match t2.beq t' with
   |true=>match(Ty.sl t2).j8 t ((xs.drop off).take len)with
    |some y=>bb (off+len<=xs.length) (K y)
    |none=>none
   |false=>none
  |_=>none
 |.asl h off len=>match s.lk h with
  |some (.arr _ n k x)=>match(Ty.sl (.i k)).j8 t (qy x.l off len n)with
   |some y=>bb (off+len<=n) (K y)
   |none=>none
  |_=>none
 |.rsl h off l len=>match s.lk h with
  |some (.rb _ t' x)=>match pq (ji t' x) off with
   |some a=>match(Ty.sl (.i a.k)).j8 t (qy a.x.l l len a.n)with
    |some y=>bb (l+len<=a.n) (K y)
    |none=>none
   |none=>none
  |_=>none
 |_=>none
theorem AX[YL]{s:XS}(hφ:∀h b,s.lk h=some b->φ h=none){K:t.T->Option R}{r:R}(h:qD s t v K=some r):
  ∃x,K x=some r/\AV.bu s.er.lk φ v.fc=(t.ds x).map .D/\(nW t=true->AV.conv s.er.lk φ v.er=dH t x):=by
 have hc:∀(l:List DV),AV.bu s.er.lk φ (l.map .D)=l.map .D:=fun l=>by
  induction l with
  |nil=>rfl
  |cons x l ih=>show AV.conv _ _ (.D x)::AV.bu _ _ (l.map .D)=_;rw[ih];rfl
 unfold qD at h;split at h
 ·rename_i t' x;split at h
  ·rename_i y hy;obtain⟨e,rfl⟩:=Ty.ct hy;subst e;refine⟨x,h,hc _,fun hl=>?_⟩;cases t'<;>first|rfl|(cases hl;done)
  ·cases h
 ·rename_i t' xs;split at h
  ·rename_i y hy;obtain⟨e,rfl⟩:=Ty.ct hy;subst e;exact⟨xs,h,rfl,fun _=>rfl⟩
  ·cases h
 ·split at h
  ·exact⟨[],h,rfl,fun _=>rfl⟩
  ·exact⟨[],h,rfl,fun _=>rfl⟩
  ·cases h
 ·split at h
  ·exact⟨[],h,rfl,fun _=>rfl⟩
  ·exact⟨[],h,rfl,fun _=>rfl⟩
  ·cases h
 ·rename_i hd t' len;split at h
  ·rename_i mt t2 xs hl;split at h
   ·rename_i hb;obtain rfl:=Ty.fm hb;split at h
    ·rename_i y hy;obtain⟨e,rfl⟩:=Ty.ct hy;subst e
     replace h:=AU h
     obtain⟨rfl,h⟩:=h;have e:AV.conv s.er.lk φ (.sl hd t2.n 0 xs.length)=.D (.L (xs.map t2.ds)):=by unfold AV.conv;rw[hφ _ _ hl,aU,hl];show(if t2.n=t2.n/\0+xs.length<=(xs.map t2.ds).length then AV.D (.L (((xs.map t2.ds).drop 0).take xs.length))else .sc)=_;rw[if_pos ⟨rfl,by rw[κ];omega⟩,aax,aaw (by rw[κ];exact me _)]
     exact⟨xs,h,by show[AV.conv _ _ _]=_;rw[e];rfl,fun _=>e⟩
    ·cases h
   ·cases h
  ·cases h
 ·rename_i hd t' off len;split at h
  ·rename_i mt t2 xs hl;split at h
   ·rename_i hb;obtain rfl:=Ty.fm hb;split at h
    ·rename_i y hy;obtain⟨e,rfl⟩:=Ty.ct hy;subst e;obtain⟨h1,h⟩:=bD h;have e:AV.conv s.er.lk φ (.sl hd t2.n off len)=.D (.L (((xs.drop off).take len).map t2.ds)):=by unfold AV.conv;rw[hφ _ _ hl,aU,hl];show(if t2.n=t2.n/\off+len<=(xs.map t2.ds).length then AV.D (.L (((xs.map t2.ds).drop off).take len))else .sc)=_;rw[if_pos ⟨rfl,by rw[κ];exact h1⟩,aaA,aaI]
     exact⟨_,h,by show[AV.conv _ _ _]=_;rw[e];rfl,fun _=>e⟩
    ·cases h
   ·cases h
  ·cases h
 ·rename_i hd off len;split at h
  ·rename_i mt n k x hl;split at h
   ·rename_i y hy;obtain⟨e,rfl⟩:=Ty.ct hy;subst e;obtain⟨h1,h⟩:=bD h;have e:AV.conv s.er.lk φ (.sl hd 1 off len)=.D (.L ((qy x.l off len n).map (Ty.i k).ds)):=by unfold AV.conv;rw[hφ _ _ hl,aU,hl,EG x.len];show(if 1=1/\off+len<=(x.l.map (iq k)).length then AV.D (.L (((x.l.map (iq k)).drop off).take len))else .sc)=AV.D (.L (((x.l.drop off).take len).map (iq k)));rw[if_pos ⟨rfl,by rw[κ,x.len];exact h1⟩,aaA,aaI]
    exact⟨_,h,by show[AV.conv _ _ _]=_;rw[e];rfl,fun _=>e⟩
   ·cases h
  ·cases h
 ·rename_i hd off l len;split at h
  ·rename_i mt t2 x hl;split at h
   ·rename_i a ha;split at h
    ·rename_i y hy;obtain⟨e,rfl⟩:=Ty.ct hy;subst e;obtain⟨h1,h⟩:=bD h;obtain⟨c1,c2⟩:=Ft ha h1;have e:AV.conv s.er.lk φ (.sl hd 1 (off+l) len)=.D (.L ((qy a.x.l l len a.n).map (Ty.i a.k).ds)):=by unfold AV.conv;rw[hφ _ _ hl,aU,hl];show(if 1=1/\off+l+len<=(ja (t2.ds x)).length then AV.D (.L (((ja (t2.ds x)).drop (off+l)).take len))else .sc)=_;rw[if_pos ⟨rfl,c1⟩,c2]
     exact⟨_,h,by show[AV.conv _ _ _]=_;rw[e];rfl,fun _=>e⟩
    ·cases h
   ·cases h
  ·cases h
 ·cases h
def A7(s:XS):(t:Ty)->List XV->(t.T->List XV->Option R)->Option R
 |.u,l,K=>K () l
 |.p a c,l,K=>A7 s a l fun x l=>A7 s c l fun y l=>K (x,y) l
 |.w a,l,K=>A7 s a l K
 |.b,v::l,K=>qD s .b v fun x=>K x l
 |.i k,v::l,K=>qD s (.i k) v fun x=>K x l
 |.s,v::l,K=>qD s .s v fun x=>K x l
 |.ar n k,v::l,K=>qD s (.ar n k) v fun x=>K x l
 |.sl t,v::l,K=>qD s (.sl t) v fun x=>K x l
 |.o t,v::l,K=>qD s (.o t) v fun x=>K x l
 |_,[],_=>none
theorem uZ(lk:bL)(φ:Hd->Option Hd):∀(a c:List AV),AV.bu lk φ (a++c)=AV.bu lk φ a++AV.bu lk φ c
 |[],c=>rfl
 |x::a,c=>by show AV.conv lk φ x::AV.bu lk φ (a++c)=_;rw[uZ lk φ a c];rfl
theorem Cu[YL]{s:XS}{φ:Hd->Option Hd}(hφ:∀h b,s.lk h=some b->φ h=none){r:R}:∀{t:Ty} {l:List XV} {K:t.T->List XV->Option R},A7 s t l K=some r->∃x l1 l2,l=l1++l2/\K x l2=some r/\AV.bu s.er.lk φ (XV.cf l1)=(t.ds x).map .D
 |.u,l,K,h=>⟨(),[],l,rfl,h,rfl⟩
 |.p a c,l,K,h=>by
  obtain⟨x,l1,l2,rfl,h,e1⟩:=Cu hφ (t:=a) h;obtain⟨y,l3,l4,rfl,h,e2⟩:=Cu hφ (t:=c) h;refine⟨(x,y),l1++l3,l4,by rw[ν],h,?_⟩;rw[pE,uZ,e1,e2,<-aau];rfl
 |.w a,l,K,h=>Cu hφ (t:=a) h
 |.b,v::l,K,h=>by
  obtain⟨x,h,e,_⟩:=AX hφ h;exact⟨x,[v],l,rfl,h,by show AV.bu _ _ (v.fc++[])=_;rw[aac];exact e⟩
 |.i k,v::l,K,h=>by
  obtain⟨x,h,e,_⟩:=AX hφ h;exact⟨x,[v],l,rfl,h,by show AV.bu _ _ (v.fc++[])=_;rw[aac];exact e⟩
 |.s,v::l,K,h=>by
  obtain⟨x,h,e,_⟩:=AX hφ h;exact⟨x,[v],l,rfl,h,by show AV.bu _ _ (v.fc++[])=_;rw[aac];exact e⟩
 |.ar n k,v::l,K,h=>by
  obtain⟨x,h,e,_⟩:=AX hφ h;exact⟨x,[v],l,rfl,h,by show AV.bu _ _ (v.fc++[])=_;rw[aac];exact e⟩
 |.sl t,v::l,K,h=>by
  obtain⟨x,h,e,_⟩:=AX hφ h;exact⟨x,[v],l,rfl,h,by show AV.bu _ _ (v.fc++[])=_;rw[aac];exact e⟩
 |.b,[],K,h=>by cases h
 |.i _,[],K,h=>by cases h
 |.s,[],K,h=>by cases h
 |.ar _ _,[],K,h=>by cases h
 |.sl _,[],K,h=>by cases h
 |.o t,v::l,K,h=>by
  obtain⟨x,h,e,_⟩:=AX hφ h;exact⟨x,[v],l,rfl,h,by show AV.bu _ _ (v.fc++[])=_;rw[aac];exact e⟩
 |.o _,[],K,h=>by cases h
theorem nM:∀{t:Ty} (x:t.T),nW t=false->dH t x=.agg ((t.ds x).map .D)
 |.u,_,_=>rfl
 |.p _ _,_,_=>rfl
 |.w _,_,_=>rfl
 |.ar _ _,_,_=>rfl
 |.b,_,h=>by cases h
 |.i _,_,h=>by cases h
 |.s,_,h=>by cases h
 |.sl _,_,h=>by cases h
 |.o _,_,h=>by cases h
theorem B7(lk:bL)(φ:Hd->Option Hd):∀l:List DV,AV.bu lk φ (l.map .D)=l.map .D
 |[]=>rfl
 |x::l=>by show AV.conv _ _ (.D x)::AV.bu _ _ (l.map .D)=_;rw[B7 lk φ l];rfl
theorem bB6(lk:bL)(φ:Hd->Option Hd)(x:t.T):AV.conv lk φ (dH t x)=dH t x:=by
 cases hl:nW t with
 |true=>cases t<;>first|rfl|(cases hl;done)
 |false=>
  rw[nM x hl];show AV.agg (AV.bu lk φ _)=_;rw[B7]
def ub(φ:Hd->Option Hd)(h:Hd)(f:Hd->XV)(K:XV->Option R):Option R:=match φ h with
 |some h'=>K (f h')
 |none=>K .sc
mutual
def wh(s:XS)(φ:Hd->Option Hd):XV->(XV->Option R)->Option R
 |.ptr h off,K=>ub φ h (.ptr · off) K
 |.ept h t ix off,K=>ub φ h (.ept · t ix off) K
 |.apt h ix,K=>ub φ h (.apt · ix) K
 |.pa h off j,K=>ub φ h (.pa · off j) K
 |.rpt h off,K=>ub φ h (.rpt · off) K
 |.rpa h off j,K=>ub φ h (.rpa · off j) K
 |.epa h t ix off j,K=>ub φ h (.epa · t ix off j) K
 |.mref h,K=>ub φ h .mref K
 |.itr hm h,K=>match φ hm,φ h with
  |some a,some c=>K (.itr a c)
  |_,_=>K .sc
 |.fl t xs,K=>K (.d (.sl t) xs)
 |.fln t,K=>K (.nl t)
 |.slw h t len,K=>match s.lk h with
  |some (.row _ t2 xs)=>match t2.beq t with
   |true=>match φ h with
    |some h'=>bf len xs (K (.slw h' t2 xs.length))
    |none=>bf len xs (K (.d (.sl t2) xs))
   |false=>none
  |_=>none
 |.sl h t off len,K=>match φ h with
  |some h'=>K (.sl h' t off len)
  |none=>match s.lk h with
   |some (.row _ t2 xs)=>match t2.beq t with
    |true=>bb (off+len<=xs.length) (K (.d (.sl t2) ((xs.drop off).take len)))
    |false=>none
   |_=>none
 |.asl h off len,K=>match φ h with
  |some h'=>K (.asl h' off len)
  |none=>match s.lk h with
   |some (.arr _ n k x)=>bb (off+len<=n) (K (.d (.sl (.i k)) (qy x.l off len n)))
   |_=>none
 |.rsl h off l len,K=>match φ h with
  |some h'=>K (.rsl h' off l len)
  |none=>match s.lk h with
   |some (.rb _ t x)=>match pq (ji t x) off with
    |some a=>bb (l+len<=a.n) (K (.d (.sl (.i a.k)) (qy a.x.l l len a.n)))
    |none=>none
   |_=>none
 |.agg cs,K=>Ab s φ cs fun l=>K (.agg l)
 |.cr cs,K=>Ab s φ cs fun l=>K (.cr l)
 |.clo f cs,K=>Ab s φ cs fun l=>K (.clo f l)
 |.d t x,K=>K (.d t x)
 |.any,K=>K .any
 |.un,K=>K .un
 |.ab,K=>K .ab
 |.sc,K=>K .sc
 |.nl t,K=>K (.nl t)
 |.rop t x off,K=>K (.rop t x off)
 |.c v,K=>K (.c v)
 |.yld,K=>K .yld
 |.gst q,K=>K (.gst q)
def Ab(s:XS)(φ:Hd->Option Hd):List XV->(List XV->Option R)->Option R
 |[],K=>K []
 |v::vs,K=>wh s φ v fun v'=>Ab s φ vs fun l=>K (v'::l)
end
def na(P:Hd->Nat->Prop):XV->Prop
 |.slw h _ n=>P h n
 |.agg cs=>ir P cs
 |.cr cs=>ir P cs
 |.clo _ cs=>ir P cs
 |_=>True
where ir (P:Hd->Nat->Prop):List XV->Prop
 |[]=>True
 |v::vs=>na P v/\ir P vs
def tp(s:XS)(φ:Hd->Option Hd)(h':Hd)(n:Nat):Prop:=∃h mt t xs,φ h=some h'/\s.lk h=some (.row mt t xs)/\n=xs.length
def j7[YL](s:XS)(φ:Hd->Option Hd)(v v':XV):Prop:=AV.conv s.er.lk φ v.er=v'.er/\AV.bu s.er.lk φ v.fc=v'.fc/\na (tp s φ) v'
theorem j7.ky[YL]{s:XS}{v':XV}(h1:v.fc=[v.er])(h2:v'.fc=[v'.er])(h:AV.conv s.er.lk φ v.er=v'.er)(hp:na (tp s φ) v':=by exact trivial):j7 s φ v v':=⟨h,by rw[h1,h2];show[AV.conv _ _ v.er]=_;rw[h],hp⟩
theorem ya[YL]{s:XS}{f:Hd->XV}{K:XV->Option R}{r:R}(hf:∀h,(f h).fc=[(f h).er])(hc:∀h',φ h=some h'->AV.conv s.er.lk φ (f h).er=(f h').er)(hn:φ h=none->AV.conv s.er.lk φ (f h).er=.sc)(q:ub φ h f K=some r)(hp:∀h,na (tp s φ) (f h):=by exact fun _=>trivial):
  ∃v',K v'=some r/\j7 s φ (f h) v':=by
 unfold ub at q;split at q
 ·rename_i h' e;exact⟨_,q,.ky (hf _) (hf _) (hc _ e) (hp _)⟩
 ·rename_i e;exact⟨_,q,.ky (hf _) rfl (hn e)⟩
mutual
theorem I4[YL]{s:XS}{φ:Hd->Option Hd}{r:R}:∀{v:XV} {K:XV->Option R},wh s φ v K=some r->∃v',K v'=some r/\j7 s φ v v'
 |.ptr h off,K,q=>ya (f:=(.ptr · off)) (fun _=>rfl) (fun h' e=>by show AV.conv _ _ (.ptr h off)=_;unfold AV.conv;rw[e];rfl) (fun e=>by show AV.conv _ _ (.ptr h off)=_;unfold AV.conv;rw[e]) q
 |.ept h t ix off,K,q=>ya (f:=(.ept · t ix off)) (fun _=>rfl) (fun h' e=>by show AV.conv _ _ (.eptr h t.n ix off)=_;unfold AV.conv;rw[e];rfl) (fun e=>by show AV.conv _ _ (.eptr h t.n ix off)=_;unfold AV.conv;rw[e]) q
 |.apt h ix,K,q=>ya (f:=(.apt · ix)) (fun _=>rfl) (fun h' e=>by show AV.conv _ _ (.eptr h 1 ix 0)=_;unfold AV.conv;rw[e];rfl) (fun e=>by show AV.conv _ _ (.eptr h 1 ix 0)=_;unfold AV.conv;rw[e]) q
 |.pa h off j,K,q=>ya (f:=(.pa · off j)) (fun _=>rfl) (fun h' e=>by show AV.conv _ _ (.ptr h (off+j))=_;unfold AV.conv;rw[e];rfl) (fun e=>by show AV.conv _ _ (.ptr h (off+j))=_;unfold AV.conv;rw[e]) q
 |.rpt h off,K,q=>ya (f:=(.rpt · off)) (fun _=>rfl) (fun h' e=>by show AV.conv _ _ (.eptr h 1 off 0)=_;unfold AV.conv;rw[e];rfl) (fun e=>by show AV.conv _ _ (.eptr h 1 off 0)=_;unfold AV.conv;rw[e]) q
 |.rpa h off j,K,q=>ya (f:=(.rpa · off j)) (fun _=>rfl) (fun h' e=>by show AV.conv _ _ (.eptr h 1 (off+j) 0)=_;unfold AV.conv;rw[e];rfl) (fun e=>by show AV.conv _ _ (.eptr h 1 (off+j) 0)=_;unfold AV.conv;rw[e]) q
 |.epa h t ix off j,K,q=>ya (f:=(.epa · t ix off j)) (fun _=>rfl) (fun h' e=>by show AV.conv _ _ (.eptr h t.n ix (off+j))=_;unfold AV.conv;rw[e];rfl) (fun e=>by show AV.conv _ _ (.eptr h t.n ix (off+j))=_;unfold AV.conv;rw[e]) q
 |.mref h,K,q=>ya (f:=.mref) (fun _=>rfl) (fun h' e=>by show AV.conv _ _ (.mref h)=_;unfold AV.conv;rw[e];rfl) (fun e=>by show AV.conv _ _ (.mref h)=_;unfold AV.conv;rw[e]) q
 |.itr hm h,K,q=>by
  unfold wh at q;split at q
  ·rename_i a c e1 e2;exact⟨_,q,.ky rfl rfl (by show AV.conv _ _ (.itr hm h)=_;unfold AV.conv;rw[e1,e2];rfl)⟩
  ·rename_i e;refine⟨_,q,.ky rfl rfl ?_⟩;show AV.conv _ _ (.itr hm h)=_;unfold AV.conv;split
   ·rename_i e1 e2;exact(e _ _ e1 e2).elim
   ·rfl
 |.fl t xs,K,q=>⟨_,q,.ky rfl rfl rfl⟩
 |.fln t,K,q=>⟨_,q,.ky rfl rfl rfl⟩
 |.slw h t len,K,q=>by
  unfold wh at q;split at q
  ·rename_i mt t2 xs hl;split at q
   ·rename_i hb;obtain rfl:=Ty.fm hb;split at q
    ·rename_i h' e
     replace q:=AU q;obtain⟨rfl,q⟩:=q
     exact⟨_,q,.ky rfl rfl (by show AV.conv _ _ (.sl h t2.n 0 xs.length)=_;unfold AV.conv;rw[e];rfl) ⟨h,mt,t2,xs,e,hl,rfl⟩⟩
    ·rename_i e
     replace q:=AU q;obtain⟨rfl,q⟩:=q
     refine⟨_,q,.ky rfl rfl ?_⟩;show AV.conv _ _ (.sl h t2.n 0 xs.length)=.D (.L (xs.map t2.ds));unfold AV.conv;rw[e,aU,hl];show(if t2.n=t2.n/\0+xs.length<=(xs.map t2.ds).length then AV.D (.L (((xs.map t2.ds).drop 0).take xs.length))else .sc)=_;rw[if_pos ⟨rfl,by rw[κ];omega⟩,aax,aaw (by rw[κ];exact me _)]
   ·cases q
  ·cases q
 |.sl h t off len,K,q=>by
  unfold wh at q;split at q
  ·rename_i h' e;exact⟨_,q,.ky rfl rfl (by show AV.conv _ _ (.sl h t.n off len)=_;unfold AV.conv;rw[e];rfl)⟩
  ·rename_i e;split at q
   ·rename_i mt t2 xs hl;split at q
    ·rename_i hb;obtain rfl:=Ty.fm hb;obtain⟨h1,q⟩:=bD q;refine⟨_,q,.ky rfl rfl ?_⟩;show AV.conv _ _ (.sl h t2.n off len)=.D (.L (((xs.drop off).take len).map t2.ds));unfold AV.conv;rw[e,aU,hl];show(if t2.n=t2.n/\off+len<=(xs.map t2.ds).length then AV.D (.L (((xs.map t2.ds).drop off).take len))else .sc)=_;rw[if_pos ⟨rfl,by rw[κ];exact h1⟩,aaA,aaI]
    ·cases q
   ·cases q
 |.asl h off len,K,q=>by
  unfold wh at q;split at q
  ·rename_i h' e;exact⟨_,q,.ky rfl rfl (by show AV.conv _ _ (.sl h 1 off len)=_;unfold AV.conv;rw[e];rfl)⟩
  ·rename_i e;split at q
   ·rename_i mt n k x hl;obtain⟨h1,q⟩:=bD q;refine⟨_,q,.ky rfl rfl ?_⟩;show AV.conv _ _ (.sl h 1 off len)=.D (.L ((qy x.l off len n).map (Ty.i k).ds));unfold AV.conv;rw[e,aU,hl,EG x.len];show(if 1=1/\off+len<=(x.l.map (iq k)).length then AV.D (.L (((x.l.map (iq k)).drop off).take len))else .sc)=AV.D (.L (((x.l.drop off).take len).map (iq k)));rw[if_pos ⟨rfl,by rw[κ,x.len];exact h1⟩,aaA,aaI]
   ·cases q
 |.rsl h off l len,K,q=>by
  unfold wh at q;split at q
  ·rename_i h' e;exact⟨_,q,.ky rfl rfl (by show AV.conv _ _ (.sl h 1 (off+l) len)=_;unfold AV.conv;rw[e];rfl)⟩
  ·rename_i e;split at q
   ·rename_i mt t x hl;split at q
    ·rename_i a ha;obtain⟨h1,q⟩:=bD q;obtain⟨c1,c2⟩:=Ft ha h1;refine⟨_,q,.ky rfl rfl ?_⟩;show AV.conv _ _ (.sl h 1 (off+l) len)=.D (.L ((qy a.x.l l len a.n).map (Ty.i a.k).ds));unfold AV.conv;rw[e,aU,hl];show(if 1=1/\off+l+len<=(ja (t.ds x)).length then AV.D (.L (((ja (t.ds x)).drop (off+l)).take len))else .sc)=_;rw[if_pos ⟨rfl,c1⟩,c2]
    ·cases q
   ·cases q
 |.agg cs,K,q=>by
  obtain⟨l,q,e1,e2,e3⟩:=Bz (vs:=cs) q;exact⟨_,q,congrArg AV.agg e2,e2,e3⟩
 |.cr cs,K,q=>by
  obtain⟨l,q,e1,e2,e3⟩:=Bz (vs:=cs) q;exact⟨_,q,.ky rfl rfl (congrArg AV.cr e1) e3⟩
 |.clo f cs,K,q=>by
  obtain⟨l,q,e1,e2,e3⟩:=Bz (vs:=cs) q;exact⟨_,q,.ky rfl rfl (congrArg (AV.clo f) e1) e3⟩
 |.d t x,K,q=>⟨_,q,bB6 _ _ _,B7 _ _ _,trivial⟩
 |.any,K,q=>⟨_,q,.ky rfl rfl rfl⟩
 |.un,K,q=>⟨_,q,.ky rfl rfl rfl⟩
 |.ab,K,q=>⟨_,q,.ky rfl rfl rfl⟩
 |.sc,K,q=>⟨_,q,.ky rfl rfl rfl⟩
 |.nl t,K,q=>⟨_,q,.ky rfl rfl rfl⟩
 |.rop t x off,K,q=>⟨_,q,.ky rfl rfl rfl⟩
 |.c v,K,q=>⟨_,q,.ky rfl rfl rfl⟩
 |.yld,K,q=>⟨_,q,.ky rfl rfl rfl⟩
 |.gst _,K,q=>⟨_,q,.ky rfl rfl rfl⟩
theorem Bz[YL]{s:XS}{φ:Hd->Option Hd}{r:R}:∀{vs:List XV} {K:List XV->Option R},Ab s φ vs K=some r->∃vs',K vs'=some r/\AV.bu s.er.lk φ (XV.de vs)=XV.de vs'/\AV.bu s.er.lk φ (XV.cf vs)=XV.cf vs'/\na.ir (tp s φ) vs'
 |[],K,q=>⟨[],q,rfl,rfl,trivial⟩
 |v::vs,K,q=>by
  obtain⟨v',q,e1,e2,e5⟩:=I4 (v:=v) q;obtain⟨l,q,e3,e4,e6⟩:=Bz (vs:=vs) q;refine⟨_,q,?_,?_,e5,e6⟩
  ·show AV.conv _ _ v.er::AV.bu _ _ (XV.de vs)=v'.er::XV.de l;rw[e1,e3]
  ·show AV.bu _ _ (v.fc++XV.cf vs)=v'.fc++XV.cf l;rw[uZ,e2,e4]
end
end
section
variable{R:Type}
mutual
def XV.cm(ψ:Hd->Hd):XV->XV
 |.ptr h off=>.ptr (ψ h) off
 |.ept h t ix off=>.ept (ψ h) t ix off
 |.apt h ix=>.apt (ψ h) ix
 |.pa h off j=>.pa (ψ h) off j
 |.epa h t ix off j=>.epa (ψ h) t ix off j
 |.sl h t off len=>.sl (ψ h) t off len
 |.slw h t len=>.slw (ψ h) t len
 |.asl h off len=>.asl (ψ h) off len
 |.rpt h off=>.rpt (ψ h) off
 |.rpa h off j=>.rpa (ψ h) off j
 |.rsl h off l len=>.rsl (ψ h) off l len
 |.mref h=>.mref (ψ h)
 |.itr hm h=>.itr (ψ hm) (ψ h)
 |.agg cs=>.agg (XV.dj ψ cs)
 |.cr cs=>.cr (XV.dj ψ cs)
 |.clo f cs=>.clo f (XV.dj ψ cs)
 |.d t x=>.d t x
 |.any=>.any
 |.un=>.un
 |.ab=>.ab
 |.sc=>.sc
 |.rop t x off=>.rop t x off
 |.fl t xs=>.fl t xs
 |.fln t=>.fln t
 |.nl t=>.nl t
 |.c v=>.c v
 |.yld=>.yld
 |.gst q=>.gst q
def XV.dj(ψ:Hd->Hd):List XV->List XV
 |[]=>[]
 |v::vs=>XV.cm ψ v::XV.dj ψ vs
end
theorem Kc(ψ:Hd->Hd):∀l:List DV,AV.dj ψ (l.map .D)=l.map .D
 |[]=>rfl
 |x::l=>by show AV.cm ψ (.D x)::AV.dj ψ (l.map .D)=_;rw[Kc ψ l];rfl
theorem KG(ψ:Hd->Hd):∀a c:List AV,AV.dj ψ (a++c)=AV.dj ψ a++AV.dj ψ c
 |[],_=>rfl
 |x::a,c=>by show AV.cm ψ x::AV.dj ψ (a++c)=_;rw[KG ψ a c];rfl
theorem XE(ψ:Hd->Hd)(x:t.T):AV.cm ψ (dH t x)=dH t x:=by
 cases hl:nW t with
 |true=>cases t<;>first|rfl|(cases hl;done)
 |false=>
  rw[nM x hl];show AV.agg (AV.dj ψ _)=_;rw[Kc]
mutual
theorem D3[YL](ψ:Hd->Hd):∀v:XV,(v.cm ψ).er=AV.cm ψ v.er
 |.d t x=>(XE ψ x).symm
 |.agg cs=>congrArg AV.agg (ET ψ cs)
 |.cr cs=>congrArg AV.cr (Bg ψ cs)
 |.clo f cs=>congrArg (AV.clo f) (Bg ψ cs)
 |.ptr _ _=>rfl
 |.ept _ _ _ _=>rfl
 |.apt _ _=>rfl
 |.pa _ _ _=>rfl
 |.epa _ _ _ _ _=>rfl
 |.sl _ _ _ _=>rfl
 |.slw _ _ _=>rfl
 |.asl _ _ _=>rfl
 |.rpt _ _=>rfl
 |.rpa _ _ _=>rfl
 |.rsl _ _ _ _=>rfl
 |.mref _=>rfl
 |.itr _ _=>rfl
 |.any=>rfl
 |.un=>rfl
 |.ab=>rfl
 |.sc=>rfl
 |.rop _ _ _=>rfl
 |.fl _ _=>rfl
 |.fln _=>rfl
 |.nl _=>rfl
 |.c _=>rfl
 |.yld=>rfl
 |.gst _=>rfl
theorem WK[YL](ψ:Hd->Hd):∀v:XV,(v.cm ψ).fc=AV.dj ψ v.fc
 |.d t x=>(Kc ψ _).symm
 |.agg cs=>ET ψ cs
 |.cr cs=>congrArg (fun l=>[AV.cr l]) (Bg ψ cs)
 |.clo f cs=>congrArg (fun l=>[AV.clo f l]) (Bg ψ cs)
 |.ptr _ _=>rfl
 |.ept _ _ _ _=>rfl
 |.apt _ _=>rfl
 |.pa _ _ _=>rfl
 |.epa _ _ _ _ _=>rfl
 |.sl _ _ _ _=>rfl
 |.slw _ _ _=>rfl
 |.asl _ _ _=>rfl
 |.rpt _ _=>rfl
 |.rpa _ _ _=>rfl
 |.rsl _ _ _ _=>rfl
 |.mref _=>rfl
 |.itr _ _=>rfl
 |.any=>rfl
 |.un=>rfl
 |.ab=>rfl
 |.sc=>rfl
 |.rop _ _ _=>rfl
 |.fl _ _=>rfl
 |.fln _=>rfl
 |.nl _=>rfl
 |.c _=>rfl
 |.yld=>rfl
 |.gst _=>rfl
theorem Bg[YL](ψ:Hd->Hd):∀vs:List XV,XV.de (XV.dj ψ vs)=AV.dj ψ (XV.de vs)
 |[]=>rfl
 |v::vs=>by show(v.cm ψ).er::XV.de (XV.dj ψ vs)=AV.cm ψ v.er::AV.dj ψ (XV.de vs);rw[D3 ψ v,Bg ψ vs]
theorem ET[YL](ψ:Hd->Hd):∀vs:List XV,XV.cf (XV.dj ψ vs)=AV.dj ψ (XV.cf vs)
 |[]=>rfl
 |v::vs=>by show(v.cm ψ).fc++XV.cf (XV.dj ψ vs)=AV.dj ψ (v.fc++XV.cf vs);rw[KG,WK ψ v,ET ψ vs]
end
def XB.cm(ψ:Hd->Hd):XB->XB
 |.box cs=>.box (XV.dj ψ cs)
 |.row mt t xs=>.row mt t xs
 |.rb mt t x=>.rb mt t x
 |.arr mt n k x=>.arr mt n k x
 |.mp wr K V es hole i=>.mp wr K V es hole (match i with
  |some (h,q)=>some (ψ h,q)
  |none=>none)
 |.it=>.it
 |.sb T us xs=>.sb T us xs
theorem GC[YL](ψ:Hd->Hd):∀b:XB,(b.cm ψ).er=bp.cm ψ b.er
 |.box cs=>congrArg bp.box (ET ψ cs)
 |.row _ _ _=>rfl
 |.rb _ _ _=>rfl
 |.arr _ _ _ _=>rfl
 |.mp wr K V es hole none=>by cases wr<;>rfl
 |.mp wr K V es hole (some (h,cur,rem))=>by cases wr<;>rfl
 |.it=>rfl
 |.sb _ _ _=>rfl
def xl(t:Ty):List XV->Option (t.T×List XV)
 |.d t' x::l=>match t'.j8 t x with
  |some y=>some (y,l)
  |none=>none
 |.nl _::l=>match t with
  |.sl _=>some ([],l)
  |.o _=>some ([],l)
  |_=>none
 |_=>none
theorem AK[YL]{x:t.T}(h:xl t l=some (x,l2)):∃v,l=v::l2/\v.fc=(t.ds x).map .D:=by
 unfold xl at h;split at h
 ·split at h
  ·rename_i y hy;obtain⟨e,rfl⟩:=Ty.ct hy;subst e;cases h;exact⟨_,rfl,rfl⟩
  ·cases h
 ·split at h
  ·cases h;exact⟨_,rfl,rfl⟩
  ·cases h;exact⟨_,rfl,rfl⟩
  ·cases h
 ·cases h
def qj:(t:Ty)->List XV->Option (t.T×List XV)
 |.u,l=>some ((),l)
 |.p a c,l=>match qj a l with
  |some (x,l)=>match qj c l with
   |some (y,l)=>some ((x,y),l)
   |none=>none
  |none=>none
 |.w a,l=>qj a l
 |.b,l=>xl .b l
 |.i k,l=>xl (.i k) l
 |.s,l=>xl .s l
 |.ar n k,l=>xl (.ar n k) l
 |.sl t,l=>xl (.sl t) l
 |.o t,l=>xl (.o t) l
theorem Ae[YL]{x:t.T}:(∃v:XV,l=v::l2/\v.fc=(t.ds x).map .D)->∃l1,l=l1++l2/\XV.cf l1=(t.ds x).map .D
 |⟨v,h1,h2⟩=>⟨[v],h1,by show v.fc++[]=_;rw[aac,h2]⟩
theorem qB[YL]:∀{t:Ty} {l l2:List XV} {x:t.T},qj t l=some (x,l2)->∃l1,l=l1++l2/\XV.cf l1=(t.ds x).map .D
 |.u,l,l2,x,h=>by cases h;exact⟨[],rfl,rfl⟩
 |.p a c,l,l2,x,h=>by
  unfold qj at h;split at h
  ·rename_i x1 l1 h1;split at h
   ·rename_i y1 l3 h3;cases h;obtain⟨a1,rfl,e1⟩:=qB h1;obtain⟨a2,rfl,e2⟩:=qB h3;exact⟨a1++a2,by rw[ν],by rw[pE,e1,e2,<-aau];rfl⟩
   ·cases h
  ·cases h
 |.w a,l,l2,x,h=>qB (t:=a) h
 |.b,l,l2,x,h=>Ae (AK (t:=.b) h)
 |.i k,l,l2,x,h=>Ae (AK (t:=.i k) h)
 |.s,l,l2,x,h=>Ae (AK (t:=.s) h)
 |.ar n k,l,l2,x,h=>Ae (AK (t:=.ar n k) h)
 |.sl t,l,l2,x,h=>Ae (AK (t:=.sl t) h)
 |.o t,l,l2,x,h=>Ae (AK (t:=.o t) h)
@[reducible] def cr:List Ty->Type
 |[]=>Unit
 |t::ts=>t.T×cr ts
@[reducible] def se:List Ty->Type
 |[]=>Unit
 |[t]=>t.T
 |t::ts=>t.T×se ts
@[reducible] def ku:List Ty->Type->Type
 |[],R=>Option R
 |.u::ts,R=>Unit->ku ts R
 |.b::ts,R=>Bool->ku ts R
 |.i _::ts,R=>Int->ku ts R
 |.s::ts,R=>bw->ku ts R
 |.p x y::ts,R=>x.T×y.T->ku ts R
 |.w x::ts,R=>x.T->ku ts R
 |.ar n _::ts,R=>bz n->ku ts R
 |.sl t::ts,R=>List t.T->ku ts R
 |.o t::ts,R=>List t.T->ku ts R
def jh{R:Type}:(ts:List Ty)->ku ts R->cr ts->Option R
 |[],f,_=>f
 |.u::ts,f,a=>jh ts (f a.1) a.2
 |.b::ts,f,a=>jh ts (f a.1) a.2
 |.i _::ts,f,a=>jh ts (f a.1) a.2
 |.s::ts,f,a=>jh ts (f a.1) a.2
 |.p _ _::ts,f,a=>jh ts (f a.1) a.2
 |.w _::ts,f,a=>jh ts (f a.1) a.2
 |.ar _ _::ts,f,a=>jh ts (f a.1) a.2
 |.sl _::ts,f,a=>jh ts (f a.1) a.2
 |.o _::ts,f,a=>jh ts (f a.1) a.2
def k8{R:Type}:(ts:List Ty)->(cr ts->Option R)->ku ts R
 |[],f=>f ()
 |.u::ts,f=>fun x=>k8 ts fun y=>f (x,y)
 |.b::ts,f=>fun x=>k8 ts fun y=>f (x,y)
 |.i _::ts,f=>fun x=>k8 ts fun y=>f (x,y)
 |.s::ts,f=>fun x=>k8 ts fun y=>f (x,y)
 |.p _ _::ts,f=>fun x=>k8 ts fun y=>f (x,y)
 |.w _::ts,f=>fun x=>k8 ts fun y=>f (x,y)
 |.ar _ _::ts,f=>fun x=>k8 ts fun y=>f (x,y)
 |.sl _::ts,f=>fun x=>k8 ts fun y=>f (x,y)
 |.o _::ts,f=>fun x=>k8 ts fun y=>f (x,y)
theorem fK{R:Type}:∀(ts:List Ty) (f:cr ts->Option R) (a:cr ts),jh ts (k8 ts f) a=f a
 |[],f,()=>rfl
 |.u::ts,f,a=>fK ts (fun y=>f (a.1,y)) a.2
 |.b::ts,f,a=>fK ts (fun y=>f (a.1,y)) a.2
 |.i _::ts,f,a=>fK ts (fun y=>f (a.1,y)) a.2
 |.s::ts,f,a=>fK ts (fun y=>f (a.1,y)) a.2
 |.p _ _::ts,f,a=>fK ts (fun y=>f (a.1,y)) a.2
 |.w _::ts,f,a=>fK ts (fun y=>f (a.1,y)) a.2
 |.ar _ _::ts,f,a=>fK ts (fun y=>f (a.1,y)) a.2
 |.sl _::ts,f,a=>fK ts (fun y=>f (a.1,y)) a.2
 |.o _::ts,f,a=>fK ts (fun y=>f (a.1,y)) a.2
def mu:(ts:List Ty)->cr ts->se ts
 |[],_=>()
 |[_],a=>a.1
 |_::t2::ts,a=>(a.1,mu (t2::ts) a.2)
def np:(ts:List Ty)->se ts->cr ts
 |[],_=>()
 |[_],a=>(a,())
 |_::t2::ts,a=>(a.1,np (t2::ts) a.2)
theorem wS:∀(ts:List Ty) (a:cr ts),np ts (mu ts a)=a
 |[],()=>rfl
 |[_],(_,())=>rfl
 |_::t2::ts,a=>by show(a.1,np (t2::ts) (mu (t2::ts) a.2))=a;rw[wS]
abbrev DS:=Sigma Ty.T
def Ar:(ts:List Ty)->cr ts->List DS
 |[],_=>[]
 |t::ts,v=>⟨t,v.1⟩::Ar ts v.2
def xc:(ts:List Ty)->List DS->Option (cr ts)
 |[],[]=>some ()
 |t::ts,p::l=>match p.1.j8 t p.2,xc ts l with
  |some y,some v=>some (y,v)
  |_,_=>none
 |_,_=>none
theorem Gt:∀{ts:List Ty} {l:List DS} {v:cr ts},xc ts l=some v->Ar ts v=l
 |[],[],_,h=>rfl
 |t::ts,p::l,v,h=>by
  unfold xc at h;split at h
  ·rename_i y v' h1 h2;cases h;obtain⟨e,rfl⟩:=Ty.ct h1;obtain⟨t',x⟩:=p;have e:t'=t:=e;subst e;show(⟨t',x⟩:DS)::Ar ts v'=_;rw[Gt h2]
  ·cases h
 |[],_::_,_,h=>by cases h
 |_::_,[],_,h=>by cases h
def ud(t:Ty)(x:t.T):XV:=match t,x with
 |.w a,x=>.agg (ji (.w a) x)
 |.p a c,x=>.agg (ji (.p a c) x)
 |.u,_=>.agg []
 |t,x=>.d t x
theorem Dr[YL](t:Ty)(x:t.T):(ud t x).er=dH t x:=by cases t<;>first|rfl|(show AV.agg (XV.cf (ji _ x))=_;rw[eR];rfl)
theorem L4[YL](t:Ty)(x:t.T):(ud t x).fc=(t.ds x).map .D:=by cases t<;>first|rfl|(show XV.cf (ji _ x)=_;rw[eR])
def DS.nat:DS->Nat
 |⟨.i _,n⟩=>n.toNat
 |_=>0
mutual
def XV.cn:XV->List Ty
 |.d t _=>[t]
 |.sl _ _ _ _=>[.i .i64,.i .i64]
 |.agg cs=>XV.qn cs
 |.clo _ cs=>XV.qn cs
 |_=>[]
def XV.qn:List XV->List Ty
 |[]=>[]
 |v::vs=>v.cn++XV.qn vs
end
mutual
def XV.l9(len:Hd->Nat):XV->List DS->XV×List DS
 |.d t x,l=>match l with
  |p::l=>(ud p.1 p.2,l)
  |[]=>(.d t x,[])
 |.slw h t _,l=>(.slw h t (len h),l)
 |.sl h t o n,l=>match l with
  |p::q::l=>(.sl h t p.nat q.nat,l)
  |l=>(.sl h t o n,l)
 |.agg cs,l=>(.agg (XV.kx len cs l).1,(XV.kx len cs l).2)
 |.clo f cs,l=>(.clo f (XV.kx len cs l).1,(XV.kx len cs l).2)
 |v,l=>(v,l)
def XV.kx(len:Hd->Nat):List XV->List DS->List XV×List DS
 |[],l=>([],l)
 |v::vs,l=>((XV.l9 len v l).1::(XV.kx len vs (XV.l9 len v l).2).1,(XV.kx len vs (XV.l9 len v l).2).2)
end
def Y6(mt:Bool)(t:Ty):DS->XB
 |⟨.sl t',xs⟩=>.row mt t' xs
 |_=>.row mt t []
def Ti(mt:Bool)(n:Nat)(k:IntKind):DS->XB
 |⟨.ar n' k',x⟩=>.arr mt n' k' x
 |_=>.arr mt n k (bz.zero n)
def HR(wr:Bool)(K V:Ty):DS->XB
 |⟨.sl (.p K' V'),es⟩=>.mp wr K' V' es none none
 |_=>.mp wr K V [] none none
def It(h:Hd):XB->DS->XB
 |.mp wr K V es hole _,⟨.sl K',rem⟩=>match(Ty.sl K').j8 (.sl K) rem with
  |some rem=>.mp wr K V es hole (some (h,none,rem))
  |none=>.mp wr K V es hole none
 |b,_=>b
def Jm(T:TypeId×TypeId):DS->DS->XB
 |⟨.b,us⟩,⟨.sl t,xs⟩=>match(Ty.sl t).j8 (.sl (.i .u8)) xs with
  |some ys=>.sb T us ys
  |none=>.sb T us []
 |_,_=>.sb T false []
def XB.cn:XB->List Ty
 |.box cs=>XV.qn cs
 |.row _ t _=>[.sl t]
 |.rb _ t _=>[t]
 |.arr _ n k _=>[.ar n k]
 |.mp _ K V _ _ none=>[.sl (.p K V)]
 |.mp _ K V _ _ (some _)=>[.sl (.p K V),.sl K]
 |.it=>[]
 |.sb _ _ _=>[.b,.sl (.i .u8)]
def XB.l9(len:Hd->Nat):XB->List DS->XB×List DS
 |.box cs,l=>(.box (XV.kx len cs l).1,(XV.kx len cs l).2)
 |.row mt t xs,p::l=>(Y6 mt t p,l)
 |.rb mt _ _,p::l=>(.rb mt p.1 p.2,l)
 |.arr mt n k x,p::l=>(Ti mt n k p,l)
 |.sb T _ _,p::q::l=>(Jm T p q,l)
 |.mp wr K V _ _ none,p::l=>(HR wr K V p,l)
 |.mp wr K V _ _ (some (h,_)),p::q::l=>(It h (HR wr K V p) q,l)
 |b,l=>(b,l)
def xu:List (Option XB)->List Ty
 |[]=>[]
 |some b::r=>b.cn++xu r
 |none::r=>xu r
def rK(len:Hd->Nat):List (Option XB)->List DS->List (Option XB)×List DS
 |[],l=>([],l)
 |some b::r,l=>(some (b.l9 len l).1::(rK len r (b.l9 len l).2).1,(rK len r (b.l9 len l).2).2)
 |none::r,l=>(none::(rK len r l).1,(rK len r l).2)
def yv:List (Nat×XV)->List Ty
 |[]=>[]
 |(_,v)::r=>v.cn++yv r
def qh(len:Hd->Nat):List (Nat×XV)->List DS->List (Nat×XV)×List DS
 |[],l=>([],l)
 |(n,v)::r,l=>((n,(v.l9 len l).1)::(qh len r (v.l9 len l).2).1,(qh len r (v.l9 len l).2).2)
def XS.cn(m:XS):List Ty:=yv m.env++(xu m.bs++xu m.own)
def XB.kg:XB->Nat
 |.row _ _ xs=>xs.length
 |_=>0
def DS.kg:DS->Nat
 |⟨.sl _,xs⟩=>xs.length
 |_=>0
def pM:List (Option XB)->List DS->List Nat
 |[],_=>[]
 |none::r,l=>0::pM r l
 |some (.row _ _ _)::r,l=>(match l with
  |p::_=>DS.kg p
  |[]=>0)::pM r (l.drop 1)
 |some b::r,l=>0::pM r (l.drop b.cn.length)
def AJ:List Nat->Nat->Nat
 |[],_=>0
 |x::_,0=>x
 |_::l,i+1=>AJ l i
def GO(lb lo:List Nat):Hd->Nat
 |.B i=>AJ lb i
 |.O i=>AJ lo i
def XS.l9(m:XS)(l:List DS):XS:=
 let l0:=l.drop (yv m.env).length;let len:=GO (pM m.bs l0) (pM m.own (l0.drop (xu m.bs).length));let e:=qh len m.env l;let b:=rK len m.bs e.2
 {env:=e.1,bs:=b.1,own:=(rK len m.own b.2).1}
def XS.fill(m:XS)(v:cr m.cn):XS:=m.l9 (Ar m.cn v)
end
section
variable{R:Type}
theorem Ty.beq_refl:∀t:Ty,t.beq t=true
 |.u=>rfl
 |.b=>rfl
 |.i k=>decide_eq_true rfl
 |.s=>rfl
 |.p a c=>by show(a.beq a&&c.beq c)=true;rw[Ty.beq_refl a,Ty.beq_refl c];rfl
 |.w a=>Ty.beq_refl a
 |.ar n k=>by show(aae n n&&decide (k=k))=true;rw[Nat.beq_refl,decide_eq_true rfl];rfl
 |.sl t=>Ty.beq_refl t
 |.o t=>Ty.beq_refl t
theorem Ty.ny(t:Ty)(x:t.T):t.j8 t x=some x:=by unfold Ty.j8;rw[dif_pos (Ty.beq_refl t)]
def J9(t:Ty):XV->Option DS
 |.d t' x=>match t'.beq t with
  |true=>some ⟨t',x⟩
  |false=>none
 |.nl _=>match t with
  |.sl u=>some ⟨.sl u,[]⟩
  |.o u=>some ⟨.o u,[]⟩
  |_=>none
 |.agg cs=>match nW t with
  |true=>none
  |false=>match qj t cs with
   |some (x,[])=>some ⟨t,x⟩
   |_=>none
 |_=>none
theorem ZX[YL]{p:DS}(h:J9 t v=some p):(ud p.1 p.2).er=v.er/\(ud p.1 p.2).fc=v.fc:=by
 unfold J9 at h;split at h
 ·split at h
  ·cases h;exact⟨Dr _ _,L4 _ _⟩
  ·cases h
 ·split at h
  ·cases h;exact⟨rfl,rfl⟩
  ·cases h;exact⟨rfl,rfl⟩
  ·cases h
 ·split at h
  ·cases h
  ·rename_i cs _ hl;split at h
   ·rename_i x hp;cases h;obtain⟨l1,e1,e2⟩:=qB hp;rw[aac]at e1;subst e1;refine⟨?_,?_⟩
    ·rw[Dr,nM x hl];show _=AV.agg (XV.cf _);rw[e2]
    ·rw[L4];exact e2.symm
   ·cases h
 ·cases h
def BI:Value->Value->Bool
 |.pointer none,.pointer none=>true
 |.map none,.map none=>true
 |_,_=>false
theorem LZ{v w:Value}(h:BI v w=true):v=w:=by
 unfold BI at h;split at h
 ·rfl
 ·rfl
 ·cases h
def GX.kq:GX->GX->Bool
 |.go,.go=>true
 |.exit a,.exit b=>aae a b
 |.ret,.ret=>true
 |_,_=>false
theorem GX.zh:∀{a b:GX},a.kq b=true->a=b
 |.go,.go,_=>rfl
 |.exit a,.exit b,h=>congrArg GX.exit (θ h)
 |.ret,.ret,_=>rfl
 |.go,.exit _,h=>by cases h
 |.go,.ret,h=>by cases h
 |.exit _,.go,h=>by cases h
 |.exit _,.ret,h=>by cases h
 |.ret,.go,h=>by cases h
 |.ret,.exit _,h=>by cases h
def uv(b:Bool):Option (List DS):=match b with
 |true=>some []
 |false=>none
mutual
def XV.mt:XV->XV->Option (List DS)
 |.d t _,v=>match J9 t v with
  |some p=>some [p]
  |none=>none
 |.slw h t _,v=>match v with
  |.slw h' t' _=>uv (h.kq h'&&t.beq t')
  |_=>none
 |.sl h t _ _,v=>match v with
  |.sl h' t' o n=>match h.kq h'&&t.beq t' with
   |true=>some [⟨.i .i64,(o:Int)⟩,⟨.i .i64,(n:Int)⟩]
   |false=>none
  |_=>none
 |.ptr h o,v=>match v with
  |.ptr h' o'=>uv (h.kq h'&&aae o o')
  |_=>none
 |.rpt h o,v=>match v with
  |.rpt h' o'=>uv (h.kq h'&&aae o o')
  |_=>none
 |.apt h o,v=>match v with
  |.apt h' o'=>uv (h.kq h'&&aae o o')
  |_=>none
 |.mref h,v=>match v with
  |.mref h'=>uv (h.kq h')
  |_=>none
 |.itr a e,v=>match v with
  |.itr a' e'=>uv (a.kq a'&&e.kq e')
  |_=>none
 |.agg cs,v=>match v with
  |.agg ds=>XV.xt cs ds
  |_=>none
 |.clo f cs,v=>match v with
  |.clo g ds=>match aae f g with
   |true=>XV.xt cs ds
   |false=>none
  |_=>none
 |.fln _,v=>match v with
  |.fln _=>some []
  |_=>none
 |.nl _,v=>match v with
  |.nl _=>some []
  |_=>none
 |.un,v=>match v with
  |.un=>some []
  |_=>none
 |.sc,v=>match v with
  |.sc=>some []
  |_=>none
 |.c x,v=>match v with
  |.c y=>uv (BI x y)
  |_=>none
 |.yld,v=>match v with
  |.yld=>some []
  |_=>none
 |.gst q,v=>match v with
  |.gst q'=>uv (q.kq q')
  |_=>none
 |_,_=>none
def XV.xt:List XV->List XV->Option (List DS)
 |[],[]=>some []
 |m::ms,v::vs=>match m.mt v,XV.xt ms vs with
  |some a,some y=>some (a++y)
  |_,_=>none
 |_,_=>none
end
theorem lK{b:Bool}{l:List DS}(h:uv b=some l):b=true/\l=[]:=by
 cases b
 ·cases h
 ·cases h;exact⟨rfl,rfl⟩
def Ir[YL](len:Hd->Nat)(m v:XV)(l:List DS):Prop:=∀rest,∃v',m.l9 len (l++rest)=(v',rest)/\v'.er=v.er/\v'.fc=v.fc
theorem Ir.c[YL]{m:XV}(h:∀l,m.l9 len l=(v,l)):Ir len m v []:=fun rest=>⟨v,h rest,rfl,rfl⟩
mutual
theorem Pw[YL]{len:Hd->Nat}:∀{m v:XV} {l:List DS},m.mt v=some l->na (fun h n=>n=len h) v->Ir len m v l
 |.d t x,v,l,h,hp=>by
  unfold XV.mt at h;split at h
  ·rename_i p hm;cases h;obtain⟨h1,h2⟩:=ZX hm;exact fun rest=>⟨_,rfl,h1,h2⟩
  ·cases h
 |.slw hd t n,v,l,h,hp=>by
  unfold XV.mt at h;split at h
  ·obtain⟨hh,rfl⟩:=lK h;replace h:=hh;rw[μ]at h;obtain rfl:=Hd.du.1 h.1;obtain rfl:=Ty.fm h.2;have hp:_=len hd:=hp;subst hp;exact .c fun _=>rfl
  ·cases h
 |.fln t,v,l,h,hp=>by
  unfold XV.mt at h;split at h
  ·cases h;exact fun rest=>⟨.fln t,rfl,rfl,rfl⟩
  ·cases h
 |.sl hd t o n,v,l,h,hp=>by
  unfold XV.mt at h;split at h
  ·split at h
   ·rename_i hh;cases h;rw[μ]at hh;obtain rfl:=Hd.du.1 hh.1;obtain rfl:=Ty.fm hh.2;exact fun rest=>⟨_,rfl,rfl,rfl⟩
   ·cases h
  ·cases h
 |.ptr hd o,v,l,h,hp=>by
  unfold XV.mt at h;split at h
  ·obtain⟨hh,rfl⟩:=lK h;replace h:=hh;rw[μ]at h;obtain rfl:=Hd.du.1 h.1;obtain rfl:=θ h.2;exact .c fun _=>rfl
  ·cases h
 |.rpt hd o,v,l,h,hp=>by
  unfold XV.mt at h;split at h
  ·obtain⟨hh,rfl⟩:=lK h;replace h:=hh;rw[μ]at h;obtain rfl:=Hd.du.1 h.1;obtain rfl:=θ h.2;exact .c fun _=>rfl
  ·cases h
 |.apt hd o,v,l,h,hp=>by
  unfold XV.mt at h;split at h
  ·obtain⟨hh,rfl⟩:=lK h;replace h:=hh;rw[μ]at h;obtain rfl:=Hd.du.1 h.1;obtain rfl:=θ h.2;exact .c fun _=>rfl
  ·cases h
 |.mref hd,v,l,h,hp=>by
  unfold XV.mt at h;split at h
  ·obtain⟨hh,rfl⟩:=lK h;replace h:=hh;obtain rfl:=Hd.du.1 h;exact .c fun _=>rfl
  ·cases h
 |.itr a c,v,l,h,hp=>by
  unfold XV.mt at h;split at h
  ·obtain⟨hh,rfl⟩:=lK h;replace h:=hh;rw[μ]at h;obtain rfl:=Hd.du.1 h.1;obtain rfl:=Hd.du.1 h.2;exact .c fun _=>rfl
  ·cases h
 |.agg cs,v,l,h,hp=>by
  unfold XV.mt at h;split at h
  ·have:=D0 (ms:=cs) h hp;intro rest;obtain⟨vs',h1,_,h3⟩:=this rest;refine⟨.agg vs',?_,congrArg AV.agg h3,h3⟩;unfold XV.l9;rw[h1]
  ·cases h
 |.clo f cs,v,l,h,hp=>by
  unfold XV.mt at h;split at h
  ·split at h
   ·rename_i hb;obtain rfl:=θ hb;have:=D0 (ms:=cs) h hp;intro rest;obtain⟨vs',h1,h2,_⟩:=this rest;refine⟨.clo f vs',?_,congrArg (AV.clo f) h2,congrArg (fun l=>[AV.clo f l]) h2⟩;unfold XV.l9;rw[h1]
   ·cases h
  ·cases h
 |.nl t,v,l,h,hp=>by
  unfold XV.mt at h;split at h
  ·cases h;exact fun rest=>⟨_,rfl,rfl,rfl⟩
  ·cases h
 |.un,v,l,h,hp=>by
  unfold XV.mt at h;split at h
  ·cases h;exact .c fun _=>rfl
  ·cases h
 |.sc,v,l,h,hp=>by
  unfold XV.mt at h;split at h
  ·cases h;exact .c fun _=>rfl
  ·cases h
 |.c x,v,l,h,hp=>by
  unfold XV.mt at h;split at h
  ·obtain⟨hh,rfl⟩:=lK h;replace h:=hh;obtain rfl:=LZ h;exact .c fun _=>rfl
  ·cases h
 |.yld,v,l,h,hp=>by
  unfold XV.mt at h;split at h
  ·cases h;exact .c fun _=>rfl
  ·cases h
 |.gst q,v,l,h,hp=>by
  unfold XV.mt at h;split at h
  ·obtain⟨hh,rfl⟩:=lK h;replace h:=hh;obtain rfl:=GX.zh h;exact .c fun _=>rfl
  ·cases h
 |.any,v,l,h,hp=>by cases h
 |.ab,v,l,h,hp=>by cases h
 |.ept _ _ _ _,v,l,h,hp=>by cases h
 |.pa _ _ _,v,l,h,hp=>by cases h
 |.epa _ _ _ _ _,v,l,h,hp=>by cases h
 |.rop _ _ _,v,l,h,hp=>by cases h
 |.fl _ _,v,l,h,hp=>by cases h
 |.asl _ _ _,v,l,h,hp=>by cases h
 |.rpa _ _ _,v,l,h,hp=>by cases h
 |.rsl _ _ _ _,v,l,h,hp=>by cases h
 |.cr _,v,l,h,hp=>by cases h
theorem D0[YL]{len:Hd->Nat}:∀{ms vs:List XV} {l:List DS},XV.xt ms vs=some l->na.ir (fun h n=>n=len h) vs->∀rest,∃vs',XV.kx len ms (l++rest)=(vs',rest)/\XV.de vs'=XV.de vs/\XV.cf vs'=XV.cf vs
 |[],[],l,h,hp=>by
  cases h;exact fun rest=>⟨[],rfl,rfl,rfl⟩
 |m::ms,v::vs,l,h,hp=>by
  unfold XV.xt at h;split at h
  ·rename_i a c h1 h2;cases h;have f1:=Pw h1 hp.1;have f2:=D0 h2 hp.2;intro rest;obtain⟨v',e1,e2,e3⟩:=f1 (c++rest);obtain⟨vs',e4,e5,e6⟩:=f2 rest;refine⟨v'::vs',?_,?_,?_⟩
   ·unfold XV.kx;rw[ν,e1];simp only;rw[e4]
   ·show v'.er::XV.de vs'=v.er::XV.de vs;rw[e2,e5]
   ·show v'.fc++XV.cf vs'=v.fc++XV.cf vs;rw[e3,e6]
  ·cases h
 |[],_::_,l,h,hp=>by cases h
 |_::_,[],l,h,hp=>by cases h
end
mutual
theorem LN[YL]:∀{m v:XV} {l:List DS},m.mt v=some l->l.length=m.cn.length
 |.d t x,v,l,h=>by
  unfold XV.mt at h;split at h
  ·cases h;rfl
  ·cases h
 |.agg cs,v,l,h=>by
  unfold XV.mt at h;split at h
  ·exact B2 (ms:=cs) h
  ·cases h
 |.clo f cs,v,l,h=>by
  unfold XV.mt at h;split at h
  ·split at h
   ·exact B2 (ms:=cs) h
   ·cases h
  ·cases h
 |.fln t,v,l,h=>by
  unfold XV.mt at h;split at h
  ·cases h;rfl
  ·cases h
 |.sl hd t o n,v,l,h=>by
  unfold XV.mt at h;split at h
  ·split at h
   ·cases h;rfl
   ·cases h
  ·cases h
 |.slw hd t n,v,l,h=>by unfold XV.mt at h;split at h<;>first|(obtain⟨_,rfl⟩:=lK h;rfl)|cases h
 |.ptr hd o,v,l,h=>by unfold XV.mt at h;split at h<;>first|(obtain⟨_,rfl⟩:=lK h;rfl)|cases h
 |.rpt hd o,v,l,h=>by unfold XV.mt at h;split at h<;>first|(obtain⟨_,rfl⟩:=lK h;rfl)|cases h
 |.apt hd o,v,l,h=>by unfold XV.mt at h;split at h<;>first|(obtain⟨_,rfl⟩:=lK h;rfl)|cases h
 |.mref hd,v,l,h=>by unfold XV.mt at h;split at h<;>first|(obtain⟨_,rfl⟩:=lK h;rfl)|cases h
 |.itr a c,v,l,h=>by unfold XV.mt at h;split at h<;>first|(obtain⟨_,rfl⟩:=lK h;rfl)|cases h
 |.c x,v,l,h=>by unfold XV.mt at h;split at h<;>first|(obtain⟨_,rfl⟩:=lK h;rfl)|cases h
 |.nl t,v,l,h=>by unfold XV.mt at h;split at h<;>first|(cases h;rfl;done)|(cases h;done)
 |.un,v,l,h=>by unfold XV.mt at h;split at h<;>first|(cases h;rfl;done)|(cases h;done)
 |.sc,v,l,h=>by unfold XV.mt at h;split at h<;>first|(cases h;rfl;done)|(cases h;done)
 |.yld,v,l,h=>by unfold XV.mt at h;split at h<;>first|(cases h;rfl;done)|(cases h;done)
 |.gst _,v,l,h=>by unfold XV.mt at h;split at h<;>first|(obtain⟨_,rfl⟩:=lK h;rfl)|cases h
 |.any,v,l,h=>by cases h
 |.ab,v,l,h=>by cases h
 |.ept _ _ _ _,v,l,h=>by cases h
 |.pa _ _ _,v,l,h=>by cases h
 |.epa _ _ _ _ _,v,l,h=>by cases h
 |.rop _ _ _,v,l,h=>by cases h
 |.fl _ _,v,l,h=>by cases h
 |.asl _ _ _,v,l,h=>by cases h
 |.rpa _ _ _,v,l,h=>by cases h
 |.rsl _ _ _ _,v,l,h=>by cases h
 |.cr _,v,l,h=>by cases h
theorem B2[YL]:∀{ms vs:List XV} {l:List DS},XV.xt ms vs=some l->l.length=(XV.qn ms).length
 |[],[],l,h=>by cases h;rfl
 |m::ms,v::vs,l,h=>by
  unfold XV.xt at h;split at h
  ·rename_i a c h1 h2;cases h;show _=(m.cn++XV.qn ms).length;rw[ε,ε,LN h1,B2 h2]
  ·cases h
 |[],_::_,l,h=>by cases h
 |_::_,[],l,h=>by cases h
end
def Ha(s:XS)(φ:Hd->Option Hd)(b:XB)(K:XB->Option R):Option R:=match b with
 |.box cs=>Ab s φ cs fun l=>K (.box l)
 |.mp wr K0 V es hole (some (h,q))=>match φ h with
  |some h'=>K (.mp wr K0 V es hole (some (h',q)))
  |none=>none
 |b=>K b
def Ga(P:Hd->Nat->Prop):XB->Prop
 |.box cs=>na.ir P cs
 |_=>True
theorem Z1[YL]{s:XS}{b:XB}{K:XB->Option R}{r:R}(q:Ha s φ b K=some r):∃b',K b'=some r/\bp.conv s.er.lk φ b.er=b'.er/\Ga (tp s φ) b'/\b'.kg=b.kg:=by
 unfold Ha at q;split at q
 ·obtain⟨l,q,_,e2,e3⟩:=Bz q;exact⟨_,q,congrArg bp.box e2,e3,rfl⟩
 ·rename_i wr K0 V es hole h cur;split at q
  ·rename_i h' e;refine⟨_,q,?_,trivial,rfl⟩;show bp.conv _ _ (.mp _ _ (CL K0 (some (h,cur))))=.mp _ _ (CL K0 (some (h',cur)));obtain⟨c,rem⟩:=cur;have e0:uc wr K0 V es hole (some (h',c,rem))=uc wr K0 V es hole (some (h,c,rem)):=by cases wr<;>rfl
   show bp.mp _ (uc wr K0 V es hole (some (h,c,rem))) ((some (h,_,_):Option (Hd×List AV×List AV)).bind _)=bp.mp _ (uc wr K0 V es hole (some (h',c,rem))) _;rw[e0];simp only[Option.bind_some,e,Option.map_some];rfl
  ·cases q
 ·rename_i h1 h2;refine⟨_,q,?_,?_,rfl⟩
  ·cases b with
   |box cs=>exact absurd rfl (h1 cs)
   |row=>rfl
   |rb=>rfl
   |arr=>rfl
   |mp wr K0 V es hole i=>cases i with
    |none=>rfl
    |some p=>exact absurd rfl (h2 wr K0 V es hole p.1 p.2)
   |it=>rfl
   |sb=>rfl
  ·cases b with
   |box cs=>exact absurd rfl (h1 cs)
   |_=>trivial
def B3(s:XS)(φ:Hd->Option Hd):List (Option XB)->(List (Option XB)->Option R)->Option R
 |[],K=>K []
 |none::r,K=>B3 s φ r fun l=>K (none::l)
 |some b::r,K=>Ha s φ b fun b'=>B3 s φ r fun l=>K (some b'::l)
def ia(P:Hd->Nat->Prop):List (Option XB)->Prop
 |[]=>True
 |none::r=>ia P r
 |some b::r=>Ga P b/\ia P r
def xU:List (Option XB)->List Nat
 |[]=>[]
 |none::r=>0::xU r
 |some b::r=>b.kg::xU r
theorem FH:∀(l:List (Option XB)) (i:Nat) (b:XB),bP l i=some b->AJ (xU l) i=b.kg
 |[],_,_,h=>by cases h
 |none::r,0,_,h=>by cases h
 |some c::r,0,b,h=>by cases h;rfl
 |none::r,i+1,b,h=>FH r i b h
 |some c::r,i+1,b,h=>FH r i b h
def dw[YL](l:List (Option XB)):List (Option bp):=l.map fun b=>b.map XB.er
theorem EF[YL]{s:XS}{φ:Hd->Option Hd}{r:R}:∀{l:List (Option XB)} {K:List (Option XB)->Option R},B3 s φ l K=some r->∃l',K l'=some r/\(dw l).map (fun b=>b.map (bp.conv s.er.lk φ))=dw l'/\ia (tp s φ) l'/\xU l'=xU l
 |[],K,q=>⟨[],q,rfl,trivial,rfl⟩
 |none::l,K,q=>by
  obtain⟨l',q,e1,e2,e3⟩:=EF (l:=l) q;exact⟨_,q,by show none::(dw l).map _=none::dw l';rw[e1],e2,by show 0::xU l'=0::xU l;rw[e3]⟩
 |some b::l,K,q=>by obtain⟨b',q,f1,f2,f3⟩:=Z1 (b:=b) q;obtain⟨l',q,e1,e2,e3⟩:=EF (l:=l) q;exact⟨_,q,by show some (bp.conv _ _ b.er)::(dw l).map _=some b'.er::dw l';rw[e1,f1],⟨f2,e2⟩,by show b'.kg::xU l'=b.kg::xU l;rw[e3,f3]⟩
def XB.mt(m b:XB):Option (List DS):=match m,b with
 |.box ms,.box cs=>XV.xt ms cs
 |.row mt t _,.row mt' t' xs=>match mt==mt',t'.beq t with
  |true,true=>some [⟨.sl t',xs⟩]
  |_,_=>none
 |.arr mt n k _,.arr mt' n' k' x=>match mt==mt',(Ty.ar n' k').beq (.ar n k)with
  |true,true=>some [⟨.ar n' k',x⟩]
  |_,_=>none
 |.mp wr K V _ none none,.mp wr' K' V' es none none=>match wr==wr',(Ty.p K' V').beq (.p K V)with
  |true,true=>some [⟨.sl (.p K' V'),es⟩]
  |_,_=>none
 |.mp wr K V _ none (some (h,_)),.mp wr' K' V' es none (some (h',none,rem))=>match h.kq h'&&(wr==wr'),(Ty.p K' V').beq (.p K V)with
  |true,true=>some [⟨.sl (.p K' V'),es⟩,⟨.sl K',rem⟩]
  |_,_=>none
 |.rb mt t _,.rb mt' t' x=>match mt==mt',t'.beq t with
  |true,true=>some [⟨t',x⟩]
  |_,_=>none
 |.it,.it=>some []
 |.sb (T,e) _ _,.sb (T',e') us' xs=>match aae T T',aae e e' with
  |true,true=>some [⟨.b,us'⟩,⟨.sl (.i .u8),xs⟩]
  |_,_=>none
 |_,_=>none
theorem Sa[YL]{m b:XB}{l:List DS}(h:m.mt b=some l)(hp:Ga (fun h n=>n=len h) b):l.length=m.cn.length/\∀rest,∃b',m.l9 len (l++rest)=(b',rest)/\b'.er=b.er:=by
 unfold XB.mt at h;split at h
 ·rename_i ms cs;refine⟨B2 h,fun rest=>?_⟩;obtain⟨vs',e1,_,e3⟩:=D0 h hp rest;exact⟨.box vs',by show(XB.box (XV.kx len ms (l++rest)).1,(XV.kx len ms (l++rest)).2)=_;rw[e1],congrArg bp.box e3⟩
 ·split at h
  ·rename_i h1 _;cases h;exact⟨rfl,fun rest=>⟨_,rfl,by rw[eq_of_beq h1];rfl⟩⟩
  ·cases h
 ·split at h
  ·rename_i h1 _;cases h;exact⟨rfl,fun rest=>⟨_,rfl,by rw[eq_of_beq h1];rfl⟩⟩
  ·cases h
 ·split at h
  ·rename_i h1 _;cases h;obtain rfl:=eq_of_beq h1;exact⟨rfl,fun rest=>⟨_,rfl,rfl⟩⟩
  ·cases h
 ·split at h
  ·rename_i h1 _;cases h;rw[μ]at h1;obtain rfl:=Hd.du.1 h1.1;obtain rfl:=eq_of_beq h1.2;refine⟨rfl,fun rest=>⟨_,rfl,?_⟩⟩;show(It _ (XB.mp _ _ _ _ none none) ⟨.sl _,_⟩).er=_;unfold It;simp only[HR,Ty.ny]
  ·cases h
 ·split at h
  ·rename_i h1 _;cases h;exact⟨rfl,fun rest=>⟨_,rfl,by rw[eq_of_beq h1]⟩⟩
  ·cases h
 ·cases h;exact⟨rfl,fun rest=>⟨_,rfl,rfl⟩⟩
 ·split at h
  ·rename_i h1 h2;cases h;obtain rfl:=θ h1;obtain rfl:=θ h2;refine⟨rfl,fun rest=>⟨_,rfl,?_⟩⟩;show(Jm _ ⟨.b,_⟩ ⟨.sl (.i .u8),_⟩).er=_;unfold Jm;simp only[Ty.ny]
  ·cases h
 ·cases h
def ug:List (Option XB)->List (Option XB)->Option (List DS)
 |[],[]=>some []
 |none::ms,none::bs=>ug ms bs
 |some m::ms,some b::bs=>match m.mt b,ug ms bs with
  |some a,some c=>some (a++c)
  |_,_=>none
 |_,_=>none
theorem EE[YL]{len:Hd->Nat}:∀{ms bs:List (Option XB)} {l:List DS},ug ms bs=some l->ia (fun h n=>n=len h) bs->l.length=(xu ms).length/\∀rest,∃bs',rK len ms (l++rest)=(bs',rest)/\dw bs'=dw bs
 |[],[],l,h,hp=>by
  cases h;exact⟨rfl,fun rest=>⟨[],rfl,rfl⟩⟩
 |none::ms,none::bs,l,h,hp=>by
  have h:ug ms bs=some l:=h;obtain⟨h1,h2⟩:=EE h hp;refine⟨h1,fun rest=>?_⟩;obtain⟨bs',e1,e2⟩:=h2 rest;exact⟨none::bs',by unfold rK;rw[e1],by show none::dw bs'=none::dw bs;rw[e2]⟩
 |some m::ms,some b::bs,l,h,hp=>by
  unfold ug at h;split at h
  ·rename_i a c h1 h2;cases h;obtain⟨f1,f2⟩:=Sa h1 hp.1;obtain⟨g1,g2⟩:=EE h2 hp.2;refine⟨by show _=(m.cn++xu ms).length;rw[ε,ε,f1,g1],fun rest=>?_⟩;obtain⟨b',e1,e2⟩:=f2 (c++rest);obtain⟨bs',e3,e4⟩:=g2 rest;refine⟨some b'::bs',?_,by show some b'.er::dw bs'=some b.er::dw bs;rw[e2,e4]⟩;unfold rK;rw[ν,e1];simp only;rw[e3]
  ·cases h
 |[],none::_,l,h,hp=>by cases h
 |[],some _::_,l,h,hp=>by cases h
 |none::_,[],l,h,hp=>by cases h
 |some _::_,[],l,h,hp=>by cases h
 |none::_,some _::_,l,h,hp=>by cases h
 |some _::_,none::_,l,h,hp=>by cases h
theorem bIp{m b:XB}{l:List DS}(h:m.mt b=some l):(∃mt t xs p,m=.row mt t xs/\l=[p]/\DS.kg p=b.kg)\/((∀mt t xs,m≠.row mt t xs)/\b.kg=0):=by
 unfold XB.mt at h;split at h
 ·exact .inr ⟨fun _ _ _ e=>(by cases e),rfl⟩
 ·split at h
  ·cases h;exact .inl ⟨_,_,_,_,rfl,rfl,rfl⟩
  ·cases h
 ·exact .inr ⟨fun _ _ _ e=>(by cases e),rfl⟩
 ·exact .inr ⟨fun _ _ _ e=>(by cases e),rfl⟩
 ·exact .inr ⟨fun _ _ _ e=>(by cases e),rfl⟩
 ·exact .inr ⟨fun _ _ _ e=>(by cases e),rfl⟩
 ·exact .inr ⟨fun _ _ _ e=>(by cases e),rfl⟩
 ·exact .inr ⟨fun _ _ _ e=>(by cases e),rfl⟩
 ·cases h
theorem bKn[YL]{m b:XB}{l:List DS}(h:m.mt b=some l):l.length=m.cn.length:=by
 unfold XB.mt at h;split at h
 ·exact B2 h
 all_goals first|(cases h;rfl;done)|(split at h<;>first|(cases h;rfl;done)|(cases h;done))|(cases h;done)
theorem Eh[YL]:∀{ms bs:List (Option XB)} {l:List DS},ug ms bs=some l->∀rest,pM ms (l++rest)=xU bs
 |[],[],l,h,rest=>rfl
 |none::ms,none::bs,l,h,rest=>by
  have h:ug ms bs=some l:=h;show 0::pM ms (l++rest)=0::xU bs;rw[Eh h]
 |some m::ms,some b::bs,l,h,rest=>by
  unfold ug at h;split at h
  ·rename_i a c h1 h2;cases h;have e1:=bIp h1;have e2:=bKn h1;have e3:=Eh h2 rest;show pM (some m::ms) _=b.kg::xU bs;rcases e1 with⟨mt,t,xs,p,rfl,rfl,hp⟩|⟨hn,e1⟩
   ·show DS.kg p::pM ms (c++rest)=_;rw[hp,e3]
   ·have:pM (some m::ms) (a++c++rest)=0::pM ms ((a++c++rest).drop m.cn.length):=by
     cases m with
     |row mt t xs=>exact absurd rfl (hn mt t xs)
     |_=>rfl
    rw[this,e1,ν,<-e2,adw,e3]
  ·cases h
 |[],none::_,l,h,_=>by cases h
 |[],some _::_,l,h,_=>by cases h
 |none::_,[],l,h,_=>by cases h
 |some _::_,[],l,h,_=>by cases h
 |none::_,some _::_,l,h,_=>by cases h
 |some _::_,none::_,l,h,_=>by cases h
def HC(s:XS)(φ:Hd->Option Hd)(ev:Nat->XV):List (Nat×XV)->(List XV->Option R)->Option R
 |[],K=>K []
 |(n,_)::r,K=>wh s φ (ev n) fun v=>HC s φ ev r fun l=>K (v::l)
theorem OW[YL]{s:XS}{φ:Hd->Option Hd}{ev:Nat->XV}{r:R}:∀{l:List (Nat×XV)} {K:List XV->Option R},HC s φ ev l K=some r->∃vs,K vs=some r/\l.map (fun p=>AV.conv s.er.lk φ (ev p.1).er)=vs.map XV.er/\na.ir (tp s φ) vs
 |[],K,q=>⟨[],q,rfl,trivial⟩
 |(n,m)::l,K,q=>by obtain⟨v,q,f1,_,f3⟩:=I4 (v:=ev n) q;obtain⟨vs,q,e1,e2⟩:=OW (l:=l) q;exact⟨_,q,by show AV.conv _ _ (ev n).er::l.map _=v.er::vs.map XV.er;rw[f1,e1],f3,e2⟩
def Bf:List (Nat×XV)->List XV->Option (List DS)
 |[],[]=>some []
 |(_,m)::ms,v::vs=>match m.mt v,Bf ms vs with
  |some a,some c=>some (a++c)
  |_,_=>none
 |_,_=>none
theorem Ik[YL]{len:Hd->Nat}:∀{ms:List (Nat×XV)} {vs:List XV} {l:List DS},Bf ms vs=some l->na.ir (fun h n=>n=len h) vs->l.length=(yv ms).length/\∀rest,∃e,qh len ms (l++rest)=(e,rest)/\e.map (·.1)=ms.map (·.1)/\e.map (fun p=>p.2.er)=vs.map XV.er
 |[],[],l,h,hp=>by
  cases h;exact⟨rfl,fun rest=>⟨[],rfl,rfl,rfl⟩⟩
 |(n,m)::ms,v::vs,l,h,hp=>by
  unfold Bf at h;split at h
  ·rename_i a c h1 h2;cases h;have f1:=Pw h1 hp.1;obtain⟨g1,g2⟩:=Ik h2 hp.2;refine⟨by show _=(m.cn++yv ms).length;rw[ε,ε,LN h1,g1],fun rest=>?_⟩;obtain⟨v',e1,e2,_⟩:=f1 (c++rest);obtain⟨e,e3,e4,e5⟩:=g2 rest;refine⟨(n,v')::e,?_,by show n::e.map _=n::ms.map _;rw[e4],by show v'.er::e.map _=v.er::vs.map XV.er;rw[e2,e5]⟩;unfold qh;rw[ν,e1];simp only;rw[e3]
  ·cases h
 |[],_::_,l,h,hp=>by cases h
 |_::_,[],l,h,hp=>by cases h
mutual
theorem na.mono[YL]{P Q:Hd->Nat->Prop}(h:∀a n,P a n->Q a n):∀{v:XV},na P v->na Q v
 |.slw _ _ _,hp=>h _ _ hp
 |.agg cs,hp=>ir.mono h (vs:=cs) hp
 |.cr cs,hp=>ir.mono h (vs:=cs) hp
 |.clo _ cs,hp=>ir.mono h (vs:=cs) hp
 |.d _ _,_=>trivial
 |.any,_=>trivial
 |.un,_=>trivial
 |.ab,_=>trivial
 |.ptr _ _,_=>trivial
 |.ept _ _ _ _,_=>trivial
 |.apt _ _,_=>trivial
 |.pa _ _ _,_=>trivial
 |.epa _ _ _ _ _,_=>trivial
 |.rop _ _ _,_=>trivial
 |.fl _ _,_=>trivial
 |.fln _,_=>trivial
 |.nl _,_=>trivial
 |.sl _ _ _ _,_=>trivial
 |.asl _ _ _,_=>trivial
 |.rpt _ _,_=>trivial
 |.rpa _ _ _,_=>trivial
 |.rsl _ _ _ _,_=>trivial
 |.mref _,_=>trivial
 |.itr _ _,_=>trivial
 |.sc,_=>trivial
 |.c _,_=>trivial
 |.yld,_=>trivial
 |.gst _,_=>trivial
theorem ir.mono[YL]{P Q:Hd->Nat->Prop}(h:∀a n,P a n->Q a n):∀{vs:List XV},na.ir P vs->na.ir Q vs
 |[],_=>trivial
 |_::_,hp=>⟨na.mono h hp.1,ir.mono h hp.2⟩
end
theorem ia.mono[YL]{P Q:Hd->Nat->Prop}(h:∀a n,P a n->Q a n):∀{l:List (Option XB)},ia P l->ia Q l
 |[],_=>trivial
 |none::l,hp=>ia.mono h (l:=l) hp
 |some (.box cs)::l,hp=>⟨ir.mono h hp.1,ia.mono h (l:=l) hp.2⟩
 |some (.row _ _ _)::l,hp=>⟨trivial,ia.mono h (l:=l) hp.2⟩
 |some (.rb _ _ _)::l,hp=>⟨trivial,ia.mono h (l:=l) hp.2⟩
 |some (.arr _ _ _ _)::l,hp=>⟨trivial,ia.mono h (l:=l) hp.2⟩
 |some (.mp _ _ _ _ _ _)::l,hp=>⟨trivial,ia.mono h (l:=l) hp.2⟩
 |some .it::l,hp=>⟨trivial,ia.mono h (l:=l) hp.2⟩
 |some (.sb _ _ _)::l,hp=>⟨trivial,ia.mono h (l:=l) hp.2⟩
def Fc(s:XS)(φ:Hd->Option Hd)(m:XS)(ev:Nat->XV)(bl ol:List (Option XB))(K:cr m.cn->Option R):Option R:=
 HC s φ ev m.env fun vs=>B3 s φ bl fun bs=>B3 s φ ol fun os=>match Bf m.env vs,ug m.bs bs,ug m.own os with
  |some l1,some l2,some l3=>match xc m.cn (l1++(l2++l3))with
   |some v=>K v
   |none=>none
  |_,_,_=>none
theorem Nu[YL]{s:XS}{m:XS}{ev:Nat->XV}{bl ol:List (Option XB)}{K:cr m.cn->Option R}{r:R}(hφ:∀h h' b,φ h=some h'->s.lk h=some b->match h' with|.B i=>bP bl i=some b|.O i=>bP ol i=some b)
  (q:Fc s φ m ev bl ol K=some r):∃v,K v=some r/\(m.fill v).env.map (fun p=>(p.1,p.2.er))=m.env.map (fun p=>(p.1,AV.conv s.er.lk φ (ev p.1).er))/\
   dw (m.fill v).bs=(dw bl).map (fun b=>b.map (bp.conv s.er.lk φ))/\dw (m.fill v).own=(dw ol).map (fun b=>b.map (bp.conv s.er.lk φ)):=by
 unfold Fc at q;obtain⟨vs,q,a1,a2⟩:=OW q;obtain⟨bs,q,b1,b2,b3⟩:=EF q;obtain⟨os,q,c1,c2,c3⟩:=EF q;split at q
 ·rename_i l1 l2 l3 h1 h2 h3;split at q
  ·rename_i v hv;refine⟨v,q,?_⟩;have hL:=Gt hv;have hlen:∀h n,tp s φ h n->n=GO (pM m.bs (l2++l3)) (pM m.own (l3++[])) h:=fun h' n ⟨h,mt,t,xs,e1,e2,e3⟩=>by
    have:=hφ h h' _ e1 e2;cases h' with
    |B i=>
     show n=AJ (pM m.bs (l2++l3)) i;rw[Eh h2,b3,FH _ _ _ this];exact e3
    |O i=>
     show n=AJ (pM m.own (l3++[])) i;rw[Eh h3,c3,FH _ _ _ this];exact e3
   obtain⟨x1,x2⟩:=Ik h1 (ir.mono hlen a2);obtain⟨y1,y2⟩:=EE h2 (ia.mono hlen b2);obtain⟨z1,z2⟩:=EE h3 (ia.mono hlen c2);obtain⟨e,x3,x4,x5⟩:=x2 (l2++l3);obtain⟨bs',y3,y4⟩:=y2 l3;obtain⟨os',z3,z4⟩:=z2 [];have hf:m.fill v={env:=e,bs:=bs',own:=os'}:=by show m.l9 (Ar m.cn v)=_;rw[hL];unfold XS.l9;simp only;rw[<-x1,adw,<-y1,adw];rw[aac]at x3 y3 z3;rw[x3];simp only;rw[y3];simp only;rw[z3]
   rw[hf];refine⟨?_,by show dw bs'=_;rw[y4,b1],by show dw os'=_;rw[z4,c1]⟩;show e.map _=_;have e1:e.map (fun p=>(p.1,p.2.er))=(e.map (·.1)).zip (e.map fun p=>p.2.er):=by rw[List.zip_map',]
   have e2:m.env.map (fun p=>(p.1,AV.conv s.er.lk φ (ev p.1).er))=(m.env.map (·.1)).zip (m.env.map fun p=>AV.conv s.er.lk φ (ev p.1).er):=by rw[List.zip_map']
   rw[e1,e2,x4,x5,a1]
  ·cases q
 ·cases q
end
section
variable{R:Type}
theorem Wk.B4(s:aq)(h:Hd){kd:KD}{es:List (AV×MV)}{i i':Option (Hd×List AV×List AV)}(hl:s.lk h=some (.mp kd es i))(hi:i'=none\/∃x cur rem,i=some (x,cur,rem)/\i'=some (x,[],rem)):Wk s (s.az h (some (.mp kd es i'))):=fun E a w ⟨G,m,hA⟩=>by
 have hlk:∀x,(s.az h (some (.mp kd es i'))).lk x=if x=h then some (.mp kd es i')else s.lk x:=fun x=>aQ _ _ _ _
 have henv:(s.az h (some (.mp kd es i'))).env=s.env:=eZ _ _ _;refine⟨G,m,⟨fun x b sz hx=>?_,fun x hx=>?_,hA.e7.dc,hA.e7.gh,fun x hx=>?_,hA.e7.gl,fun x b sz fp hx=>?_⟩,fun u=>by rw[henv];exact hA.env u,hA.size,hA.defers,by rw[henv];exact hA.k6,fun j hj=>hA.fresh j (by rw[cD]at hj;exact hj),hA.frame,hA.base,hA.own,trivial,fun j hj=>kG hA.jc ⟨_,hl⟩ j (by rw[cD]at hj;exact hj)⟩
 ·obtain⟨bl,h1,h2⟩:=hA.e7.fk x b sz hx;rw[hlk];by_cases e:x=h
  ·subst e;rw[hl]at h1;cases h1;exact h2.elim
  ·rw[if_neg e];exact⟨bl,h1,h2⟩
 ·obtain⟨mt,k,h1⟩:=hA.e7.nil x hx;rw[hlk];by_cases e:x=h
  ·subst e;rw[hl]at h1;cases h1
  ·rw[if_neg e];exact⟨mt,k,h1⟩
 ·have h1:=hA.e7.dead x hx;rw[hlk];by_cases e:x=h
  ·subst e;rw[hl]at h1;cases h1
  ·rw[if_neg e];exact h1
 ·obtain⟨bl,h1,h2⟩:=hA.e7.dk x b sz fp hx;rw[hlk];by_cases e:x=h
  ·subst e;rw[hl]at h1;cases h1;rw[if_pos rfl];obtain⟨q1,q2,arr,clk,q3,q4,q5,q6,q7⟩:=h2;refine⟨_,rfl,q1,q2,arr,clk,q3,q4,q5,q6,fun y q hq=>?_⟩;rcases hi with rfl|⟨x',cur,rem,rfl,rfl⟩
   ·cases hq
   ·cases hq;obtain⟨loc,p1,p2⟩:=q7 _ _ rfl;refine⟨loc,p1,fun hd=>?_⟩;obtain⟨bi,sz',fp',seen,l,p3,p4,p5,p6,_⟩:=p2 hd;exact⟨bi,sz',fp',seen,l,p3,p4,p5,p6,fun key e=>by cases e⟩
  ·rw[if_neg e];exact⟨bl,h1,h2⟩
def Ia(keep:Bool)(s:XS)(h:Hd):XS:=match s.lk h with
 |some (.mp false K V es hole (some (x,cur,rem)))=>match keep with
  |true=>match cur with
   |some _=>s.az h (some (.mp false K V es hole (some (x,none,rem))))
   |none=>s
  |false=>s.az h (some (.mp false K V es hole none))
 |_=>s
theorem RX[YL](keep:Bool)(s:XS)(h:Hd):Wk s.er (Ia keep s h).er:=by
 unfold Ia;split
 ·rename_i K V es hole x cur rem hl;have hl':s.er.lk h=some (.mp K.kd (iL false K V es hole) (CL K (some (x,cur,rem)))):=by rw[aU,hl];rfl
  split
  ·split
   ·rw[cJ hl];exact Wk.B4 _ _ hl' (.inr ⟨_,_,_,rfl,rfl⟩)
   ·exact Wk.refl _
  ·rw[cJ hl];exact Wk.B4 _ _ hl' (.inl rfl)
 ·exact Wk.refl _
def FD(s:XS)(h:Hd)(pre:List XV)(t:Ty)(cs:List XV):XS:=(s.put none .un [.row true t []] []).az h (some (.box (pre++.slw (.O s.own.length) t 0::cs)))
theorem Xw{s:XS}{b:XB}(hl:s.lk h=some b)(nbs:List XB):(s.put none .un nbs []).lk h=some b:=by
 cases h with
 |B i=>exact hl
 |O i=>
  show bP (s.own++nbs.map some) i=_;rw[IG,if_pos (pF (l:=s.own) hl)];exact hl
theorem Wm{s:XS}{b0:XB}(hl:s.lk h=some b0)(b:Option XB):(s.az h b).lk h=b:=by
 cases h with
 |B i=>
  show bP (wN s.bs i b) i=b;rw[nG _ _ _ _ (pF (l:=s.bs) hl),if_pos rfl]
 |O i=>
  show bP (wN s.own i b) i=b;rw[nG _ _ _ _ (pF (l:=s.own) hl),if_pos rfl]
theorem Vk[YL]{s:XS}{pre:List XV}{t0:Ty}(hl:s.lk h=some (.box (pre++.fln t0::cs))):Wk s.er (FD s h pre t cs).er/\(FD s h pre t cs).lk h=some (.box (pre++.slw (.O s.own.length) t 0::cs)):=by
 have hl1:=Xw hl [.row true t []];refine⟨?_,Wm hl1 _⟩;have hl':s.er.lk h=some (.box (XV.cf (pre++.fln t0::cs))):=by rw[aU,hl];rfl
 have:=aq.vd s.er h _ (XV.cf pre).length t.n hl' (by rw[pE,aam (me _),acK];rfl);unfold FD;rw[cJ hl1,eV];have e:(some (XB.box (pre++XV.slw (.O s.own.length) t 0::cs))).map XB.er=some (.box ((XV.cf (pre++.fln t0::cs)).set (XV.cf pre).length (.sl (.O s.er.nx) t.n 0 0))):=by show some (bp.box (XV.cf _))=_;rw[pE,pE,List.set_append_right _ _ (me _),acK];rfl
 rw[e];exact this
def Av(h:Hd):List XV->List XV->List XV->XS->XS
 |pre,.slw _ t _::ms,.fln _::cs,s=>Av h (pre++[.slw (.O s.own.length) t 0]) ms cs (FD s h pre t cs)
 |pre,_::ms,v::cs,s=>Av h (pre++[v]) ms cs s
 |_,_,_,s=>s
theorem VV[YL]:∀{ms pre cs:List XV} {s:XS},s.lk h=some (.box (pre++cs))->Wk s.er (Av h pre ms cs s).er:=fun{ms}=>by
 induction ms with
 |nil=>intro pre cs s hl;unfold Av;exact Wk.refl _
 |cons m ms ih=>
  intro pre cs s hl;unfold Av;split
  ·cases‹m::ms=_›;obtain⟨h1,h2⟩:=Vk (t:=_) hl;exact h1.trans (ih (by rw[ν];exact h2))
  ·cases‹m::ms=_›;exact ih (by rw[ν];exact hl)
  ·exact Wk.refl _
theorem Wk.Ca(s:aq)(h:Hd){k:Nat}{es:List (List DV)}(n:Nat)(hl:s.lk h=some (.row true k es)):Wk s (s.az h (some (.row true k (es.take n)))):=fun E a w ⟨G,m,hA⟩=>by
 have hlk:∀x,(s.az h (some (.row true k (es.take n)))).lk x=if x=h then some (.row true k (es.take n))else s.lk x:=fun x=>aQ _ _ _ _
 have henv:(s.az h (some (.row true k (es.take n)))).env=s.env:=eZ _ _ _;refine⟨G,m,⟨fun x b sz hx=>?_,fun x hx=>?_,hA.e7.dc,hA.e7.gh,fun x hx=>?_,hA.e7.gl,fun x b sz fp hx=>?_⟩,fun u=>by rw[henv];exact hA.env u,hA.size,hA.defers,by rw[henv];exact hA.k6,fun j hj=>hA.fresh j (by rw[cD]at hj;exact hj),hA.frame,hA.base,hA.own,trivial,fun j hj=>kG hA.jc ⟨_,hl⟩ j (by rw[cD]at hj;exact hj)⟩
 ·obtain⟨bl,h1,h2⟩:=hA.e7.fk x b sz hx;rw[hlk];by_cases e:x=h
  ·subst e;rw[hl]at h1;cases h1;rw[if_pos rfl];obtain⟨vs,T,q1,q2,q3,q4,q5⟩:=h2;exact⟨_,rfl,vs,T,q1,q2,Nat.le_trans (Nat.mul_le_mul_right k (by rw[List.length_take];exact Nat.min_le_right _ _)) q3,DV.ei n q4,q5⟩
  ·rw[if_neg e];exact⟨bl,h1,h2⟩
 ·obtain⟨mt,k',h1⟩:=hA.e7.nil x hx;rw[hlk];by_cases e:x=h
  ·subst e;rw[hl]at h1;cases h1;rw[if_pos rfl];exact⟨true,k,by rw[List.take_nil]⟩
  ·rw[if_neg e];exact⟨mt,k',h1⟩
 ·have h1:=hA.e7.dead x hx;rw[hlk];by_cases e:x=h
  ·subst e;rw[hl]at h1;cases h1
  ·rw[if_neg e];exact h1
 ·obtain⟨bl,h1,h2⟩:=hA.e7.dk x b sz fp hx;rw[hlk];by_cases e:x=h
  ·subst e;rw[hl]at h1;cases h1;exact h2.elim
  ·rw[if_neg e];exact⟨bl,h1,h2⟩
def Eu(s:XS)(n:Nat)(h:Hd)(t:Ty)(len:Nat):XS:=match s.lk h with
 |some (.row true t' xs)=>match t'.beq t with
  |true=>(s.az h (some (.row true t' (xs.take len)))).put (some n) (.slw h t len) [] []
  |false=>s
 |_=>s
theorem LU[YL]{s:XS}{n:Nat}{len:Nat}(he:aV s.env n=.sl h t 0 len):Wk s.er (Eu s n h t len).er:=by
 unfold Eu;split
 ·rename_i t' xs hl;split
  ·rw[eV,cJ hl];have hl':s.er.lk h=some (.row true t'.n (xs.map t'.ds)):=by rw[aU,hl];rfl
   have h1:=Wk.Ca s.er h len hl';have e1:(some (XB.row true t' (xs.take len))).map XB.er=some (.row true t'.n ((xs.map t'.ds).take len)):=by show some (bp.row true t'.n ((xs.take len).map t'.ds))=_;rw[aaA]
   rw[e1];refine h1.trans ?_;have e2:((s.er.az h (some (.row true t'.n ((xs.map t'.ds).take len)))).put (some n) (XV.slw h t len).er (List.map XB.er []) [])=s.er.az h (some (.row true t'.n ((xs.map t'.ds).take len))):=by
    refine aq.ext' (fun i=>?_) (fun i=>?_) (fun i=>?_) rfl
    ·show gu _ n _ i=_;unfold gu;rw[eZ];by_cases hi:i=n
     ·rw[if_pos hi,hi];show _=(aV s.env n).er;rw[he];rfl
     ·rw[if_neg hi]
    ·rfl
    ·rfl
   rw[e2];exact Wk.refl _
  ·exact Wk.refl _
 ·exact Wk.refl _
def yh:List (Nat×XV)->XS->XS
 |[],s=>s
 |(n,m)::r,s=>match m,aV s.env n with
  |.slw _ t _,.fln _=>yh r (s.put (some n) (.slw (.O s.own.length) t 0) [.row true t []] [])
  |.slw _ _ _,.sl h t 0 len=>yh r (Eu s n h t len)
  |_,_=>yh r s
theorem DE[YL]:∀(l:List (Nat×XV)) (s:XS),Wk s.er (yh l s).er
 |[],s=>Wk.refl _
 |(n,m)::l,s=>by
  unfold yh;split
  ·rename_i h;refine Wk.trans ?_ (DE l _);rw[eV];exact aq.py s.er n _ (by show(aV s.env n).er=_;rw[h];rfl)
  ·rename_i h;exact(LU h).trans (DE l _)
  ·exact DE l s
def LW:List (Option Hd)->Nat->Hd->List (Option Hd)
 |[],_,_=>[]
 |none::r,0,h=>some h::r
 |some x::r,0,_=>some x::r
 |x::r,i+1,h=>x::LW r i h
def wu(l:List (Option Hd))(i:Option Nat)(h:Hd):List (Option Hd):=match i with
 |some i=>LW l i h
 |none=>l
mutual
def Qe(vr:Hd->Option Nat):XV->XV->List (Option Hd)->List (Option Hd)
 |.slw h _ _,v,l=>match v with
  |.slw h' _ _=>wu l (vr h) h'
  |_=>l
 |.ptr h _,v,l=>match v with
  |.ptr h' _=>wu l (vr h) h'
  |_=>l
 |.rpt h _,v,l=>match v with
  |.rpt h' _=>wu l (vr h) h'
  |_=>l
 |.apt h _,v,l=>match v with
  |.apt h' _=>wu l (vr h) h'
  |_=>l
 |.mref h,v,l=>match v with
  |.mref h'=>wu l (vr h) h'
  |_=>l
 |.itr a e,v,l=>match v with
  |.itr a' e'=>wu (wu l (vr a) a') (vr e) e'
  |_=>l
 |.agg ms,v,l=>match v with
  |.agg vs=>By vr ms vs l
  |_=>l
 |.clo _ ms,v,l=>match v with
  |.clo _ vs=>By vr ms vs l
  |_=>l
 |_,_,l=>l
def By(vr:Hd->Option Nat):List XV->List XV->List (Option Hd)->List (Option Hd)
 |m::ms,v::vs,l=>By vr ms vs (Qe vr m v l)
 |_,_,l=>l
end
def CV(vr:Hd->Option Nat)(ev:Nat->XV):List (Nat×XV)->List (Option Hd)->List (Option Hd)
 |[],l=>l
 |(n,m)::r,l=>CV vr ev r (Qe vr m (ev n) l)
structure NZ where
 s:XS
 l:List (Option Hd)
def DD(vr:Hd->Option Nat)(h:Option Hd)(mb:Option XB)(st:NZ):NZ:=match h,mb with
 |some h,some m=>match st.s.lk h,m with
  |some (.box cs),.box ms=>nzB1 vr h ms (Av h [] ms cs st.s) st.l
  |some (.mp _ _ _ _ _ i),.mp _ _ _ _ _ mi=>⟨Ia mi.isSome st.s h,match mi,i with
   |some (x,_),some (y,_)=>wu st.l (vr x) y
   |_,_=>st.l⟩
  |_,_=>st
 |_,_=>st
where nzB1 (vr:Hd->Option Nat) (h:Hd) (ms:List XV) (s:XS) (l:List (Option Hd)):NZ:=⟨s,match s.lk h with
 |some (.box cs)=>By vr ms cs l
 |_=>l⟩
theorem Nd[YL](vr:Hd->Option Nat)(h:Option Hd)(mb:Option XB)(st:NZ):Wk st.s.er (DD vr h mb st).s.er:=by
 unfold DD;split
 ·split
  ·rename_i hl;exact VV (pre:=[]) hl
  ·exact RX _ _ _
  ·exact Wk.refl _
 ·exact Wk.refl _
def Dh(vr:Hd->Option Nat):Nat->List (Option XB)->NZ->NZ
 |_,[],st=>st
 |i,m::r,st=>Dh vr (i+1) r (DD vr (some (.B i)) m st)
def Hj:List (Option Hd)->Nat->Option Hd
 |[],_=>none
 |x::_,0=>x
 |_::r,i+1=>Hj r i
def Ew(vr:Hd->Option Nat):Nat->List (Option XB)->NZ->NZ
 |_,[],st=>st
 |i,m::r,st=>Ew vr (i+1) r (DD vr (Hj st.l i) m st)
theorem II[YL](vr:Hd->Option Nat):∀(l:List (Option XB)) (i:Nat) (st:NZ),Wk st.s.er (Dh vr i l st).s.er
 |[],_,_=>Wk.refl _
 |m::r,i,st=>(Nd vr _ m st).trans (II vr r _ _)
theorem HQ[YL](vr:Hd->Option Nat):∀(l:List (Option XB)) (i:Nat) (st:NZ),Wk st.s.er (Ew vr i l st).s.er
 |[],_,_=>Wk.refl _
 |m::r,i,st=>(Nd vr _ m st).trans (HQ vr r _ _)
def tj:Hd->Option Nat
 |.O i=>some i
 |.B _=>none
def FF:Hd->Option Nat
 |.B i=>some i
 |.O _=>none
def BH:List (Option XB)->List (Option Hd)
 |[]=>[]
 |_::r=>none::BH r
def KE(m:XS)(s:XS):NZ:=⟨s,CV tj (aV s.env) m.env (BH m.own)⟩
def Po(m s:XS):NZ:=Ew tj 0 m.own (Dh tj 0 m.bs (KE m (yh m.env s)))
theorem T1[YL](m s:XS):Wk s.er (Po m s).s.er:=(DE m.env s).trans ((II tj m.bs 0 (KE m (yh m.env s))).trans (HQ tj _ _ _))
def OL:List (Option Hd)->Option (List Nat)
 |[]=>some []
 |some (.O j)::r=>match OL r with
  |some l=>some (j::l)
  |none=>none
 |_=>none
def Fy:List Nat->Bool
 |[]=>true
 |x::l=>(uV x l 0).isNone&&Fy l
theorem Ky:∀{l:List Nat},Fy l=true->l.Nodup
 |[],_=>List.nodup_nil
 |x::l,h=>by unfold Fy at h;rw[μ]at h;exact abh.2 ⟨IM (Option.isNone_iff_eq_none.1 h.1),Ky h.2⟩
def sG(s:XS):List Nat->List (Option XB)
 |[]=>[]
 |j::r=>bP s.own j::sG s r
theorem ID(s:XS):∀(sl:List Nat) (i:Nat),bP (sG s sl) i=(sl[i]?).bind fun j=>bP s.own j
 |[],_=>by simp[sG,bP]
 |j::r,0=>rfl
 |j::r,i+1=>by show bP (sG s r) i=_;rw[ID s r i];simp
def C2(m:XS)(ev:XS->Nat->XV)(st:NZ)(K:cr m.cn->Option R):Option R:=match OL st.l with
 |some sl=>match Fy sl with
  |true=>Fc st.s (j5 sl) m (ev st.s) st.s.bs (sG st.s sl) K
  |false=>none
 |none=>none
def rd(m s:XS)(K:cr m.cn->Option R):Option R:=C2 m (fun s=>aV s.env) (Po m s) K
theorem pC[YL]:∀(l:List (Option XB)) (i:Nat),((dw l)[i]?).join=(bP l i).map XB.er
 |[],_=>by simp[dw,bP]
 |b::r,0=>rfl
 |b::r,i+1=>by have:=pC r i;simpa[dw,bP]using this
theorem O4[YL](i:Nat):∀l:List (Nat×XV),(aV l i).er=tx (l.map fun p=>(p.1,p.2.er)) i
 |[]=>rfl
 |(n,v)::r=>by
  show(if aae i n=true then v else aV r i).er=if i=n then v.er else tx (r.map _) i
  by_cases h:i=n
  ·rw[if_pos h,if_pos (by rw[abA];exact h)]
  ·rw[if_neg h,if_neg (by rw[abA];exact h)];exact O4 i r
theorem bEz{s:XS}:∀h h' b,j5 sl h=some h'->s.lk h=some b->match h' with|.B i=>bP s.bs i=some b|.O i=>bP (sG s sl) i=some b:=fun h h' b e hl=>by
 cases h with
 |B i=>cases e;exact hl
 |O j=>
  have e:(uV j sl 0).map Hd.O=some h':=e;rw[ι]at e;obtain⟨i,hi,rfl⟩:=e;obtain⟨_,h2⟩:=wQ hi;show bP (sG s sl) i=some b;rw[ID,show sl[i]?=some j from h2];exact hl
structure yy [YL] (m s1:XS) (sl:List Nat) (ev:Nat->XV) (f:XS):Prop where
 nd:sl.Nodup
 env:f.env.map (fun p=>(p.1,p.2.er))=m.env.map (fun p=>(p.1,AV.conv s1.er.lk (j5 sl) (ev p.1).er))
 bs:dw f.bs=(dw s1.bs).map (fun b=>b.map (bp.conv s1.er.lk (j5 sl)))
 own:dw f.own=(dw (sG s1 sl)).map (fun b=>b.map (bp.conv s1.er.lk (j5 sl)))
theorem KW[YL]{m:XS}{ev:XS->Nat->XV}{st:NZ}{K:cr m.cn->Option R}{r:R}(h:C2 m ev st K=some r):∃v sl,K v=some r/\yy m st.s sl (ev st.s) (m.fill v):=by
 unfold C2 at h;split at h
 ·rename_i sl _;split at h
  ·rename_i hn;obtain⟨v,h,e1,e2,e3⟩:=Nu bEz h;exact⟨v,sl,h,Ky hn,e1,e2,e3⟩
  ·cases h
 ·cases h
theorem yy.wk[YL]{m s1:XS}{sl:List Nat}{f:XS}(h:yy m s1 sl (aV s1.env) f):Wk s1.er f.er:=by
 have hw:=aq.B8 s1.er (m.env.map (·.1)) h.nd;have e:s1.er.wk (m.env.map (·.1)) sl=f.er:=by
  refine aq.ext' (fun i=>?_) (fun i=>?_) (fun i=>?_) ?_
  ·show tx _ i=(aV f.env i).er;rw[O4,h.env,List.map_map];rfl
  ·show((bP s1.bs i).map XB.er).map _=(bP f.bs i).map XB.er;rw[<-pC,<-pC,h.bs,aaf];cases(dw s1.bs)[i]?<;>rfl
  ·show(sl[i]?).bind _=(bP f.own i).map XB.er;rw[<-pC f.own,h.own,aaf];have:((dw (sG s1 sl))[i]?).join=(sl[i]?).bind fun j=>s1.er.own j:=by rw[pC,ID];cases sl[i]?<;>rfl
   cases hq:(dw (sG s1 sl))[i]?with
   |none=>
    rw[hq]at this;cases hs:sl[i]?with
    |none=>rfl
    |some j=>
     rw[hs]at this;have this:none=s1.er.own j:=this;show(s1.er.own j).map _=_;rw[<-this];rfl
   |some b=>
    rw[hq]at this;cases hs:sl[i]?with
    |none=>
     rw[hs]at this;have this:b=none:=this;subst this;rfl
    |some j=>
     rw[hs]at this;have this:b=s1.er.own j:=this;subst this;rfl
  ·show sl.length=f.own.length;have:=congrArg List.length h.own;rw[κ]at this;have e1:(dw f.own).length=f.own.length:=κ _;have e2:(dw (sG s1 sl)).length=(sG s1 sl).length:=κ _;have e3:∀l:List Nat,(sG s1 l).length=l.length:=fun l=>by
    induction l with
    |nil=>rfl
    |cons x l ih=>exact congrArg (· +1) ih
   rw[e1,e2,e3]at this;exact this.symm
 rw[e]at hw;exact hw
theorem CF[YL]{m s:XS}{K:cr m.cn->Option R}{r:R}(h:rd m s K=some r):∃v,K v=some r/\Wk s.er (m.fill v).er:=by obtain⟨v,sl,h,hr⟩:=KW h;exact⟨v,h,(T1 m s).trans hr.wk⟩
end
end Go.Eng
