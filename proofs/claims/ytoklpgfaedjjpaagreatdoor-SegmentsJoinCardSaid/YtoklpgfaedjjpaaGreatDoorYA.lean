/- The package-level tables of numbers, typed. -/
import Derived.Test.YtoklpgfaedjjpaaGreatDoorEC
open Bool renaming and_eq_true->μ,noConfusion->aaU
open List renaming all_eq_true->aa1,append_assoc->π,append_nil->aag,drop_append->acI,drop_eq_nil_of_le->abv,drop_left->adz,drop_zero->aaB,getElem?_append_right->aal,getElem?_eq_getElem->ν,getElem?_eq_none->aay,getElem?_eq_some_iff->υ,getElem?_map->aac,length_append->ε,length_drop->aat,length_map->κ,map_append->aaw,map_cons->aaM,map_drop->aaI,map_take->aaz,mem_of_getElem?->aar,nil_append->aa8,nodup_cons->abk,replicate->aae,take_of_length_le->aav
open Nat renaming beq->aaa,beq_eq->abn,blt_eq->adB,eq_of_beq_eq_true->θ,le_of_ble_eq_true->abf,le_refl->me,sub_self->ado,zero_le->aba
open Option renaming bind_eq_some_iff->η,isSome_map->abo,ite_none_right_eq_some->ζ,map_eq_some_iff->ι,map_map->ady
set_option linter.all false
namespace Go.Eng
open Go.RowKit
variable{α:Type}{n:Nat}
abbrev cc:=List UInt8
def bf{α:Type}(c:Bool)(a b:Option α):Option α:=match c with
 |true=>a
 |false=>b
def ck{α:Type}(k:IntKind)(n:Int)(a:Option α):Option α:=if k.wrap n=n then a else none
def az{α:Type}(p:Prop)[Decidable p](a:Option α):Option α:=if p then a else none
def aZ{α β:Type}(xs:List α)(j:Int)(f:α->Option β):Option β:=if 0<=j then match xs[j.toNat]?with
 |some x=>f x
 |none=>none else none
def bc{α β:Type}(a:Option α)(f:α->Option β):Option β:=match a with
 |some x=>f x
 |none=>none
def DY{α:Type}[DecidableEq α](a b:Option α):Option α:=if a=b then a else none
theorem Y8{α:Type}[DecidableEq α]{a b:Option α}{r:α}(h:DY a b=some r):a=some r/\b=some r:=by
 unfold DY at h;split at h
 ·rename_i e;exact⟨h,e▸h⟩
 ·cases h
theorem uu{c:Bool}{a b:Option α}{r:α}(h:bf c a b=some r):(c=true/\a=some r)\/(c=false/\b=some r):=by
 cases c
 ·exact .inr ⟨rfl,h⟩
 ·exact .inl ⟨rfl,h⟩
theorem YF{k:IntKind}{n:Int}{a:Option α}{r:α}(h:ck k n a=some r):k.wrap n=n/\a=some r:=by
 unfold ck at h;split at h
 ·exact⟨‹_›,h⟩
 ·cases h
theorem bB{p:Prop}[Decidable p]{a:Option α}{r:α}(h:az p a=some r):p/\a=some r:=by
 unfold az at h;split at h
 ·exact⟨‹_›,h⟩
 ·cases h
theorem BJ{β:Type}{xs:List α}{j:Int}{f:α->Option β}{r:β}(h:aZ xs j f=some r):∃x,0<=j/\xs[j.toNat]?=some x/\f x=some r:=by
 unfold aZ at h;split at h
 ·split at h
  ·exact⟨_,‹_›,‹_›,h⟩
  ·cases h
 ·cases h
theorem Is{β:Type}{a:Option α}{f:α->Option β}{r:β}(h:bc a f=some r):∃x,a=some x/\f x=some r:=by
 unfold bc at h;split at h
 ·exact⟨_,rfl,h⟩
 ·cases h
theorem bSf{k:Nat}{a b:List (List DV)}:js k (a++b)=(js k a/\js k b):=by simp only[js,List.mem_append,eq_iff_iff];exact⟨fun h=>⟨fun e he=>h e (.inl he),fun e he=>h e (.inr he)⟩,fun⟨h1,h2⟩ e he=>he.elim (h1 e) (h2 e)⟩
theorem Vv{f:α->List DV}{k:Nat}(hf:∀x,(f x).length=k){xs:List α}:js k (xs.map f)=True:=by simp only[js,List.mem_map,eq_iff_iff,iff_true];rintro e ⟨x,_,rfl⟩;exact hf x
theorem bJ9{f:α->List DV}(hf:∀x,(f x).all DV.one=true){xs:List α}:qn (xs.map f)=true:=by simp only[qn,aa1,List.mem_map];rintro e ⟨x,_,rfl⟩;exact aa1.1 (hf x)
theorem an.o7(s:an)(t k:Nat)(h:s.env t=.fl []):Wk s (s.xg t k):=fun E a w ⟨G,m,hA⟩=>by
 have hn:m (.O s.nx)=none:=hA.fresh _ (me _);have hle:HM.le m (aJ m (.O s.nx) .none):=fun x loc hx=>by
  unfold aJ;by_cases e:x=.O s.nx
  ·rw[e,hn]at hx;cases hx
  ·rw[if_neg e];exact .inl (.inl hx)
 have hjok:E.J ((s.xg t k).env E.N) w:=by
  show E.J (gb s.env t (.sl (.O s.nx) k 0 0) E.N) w;unfold gb;by_cases e:E.N=t
  ·rw[if_pos e];exact E.IS (.fl []) _ _ rfl (h▸e▸hA.ki)
  ·rw[if_neg e];exact hA.ki
 refine⟨G,aJ m (.O s.nx) .none,hA.ew.rn hn _ _ k,fun u=>?_,hA.size,hA.defers,hjok,fun i hi=>?_,hA.frame,fun i=>?_,fun i b sz hi=>?_,hA.qq,fun i hi=>qI hA.iv i hi⟩
 ·show AV.aq G _ (gb s.env t (.sl (.O s.nx) k 0 0) u) _;unfold gb;by_cases e:u=t
  ·rw[if_pos e];have:=hA.env t;rw[h]at this;unfold AV.aq at this;obtain⟨_,p,hp⟩:=this;rw[e,hp];unfold AV.aq;exact⟨rfl,.none,by unfold aJ;rw[if_pos rfl],fun _=>.inl ⟨p,rfl,rfl⟩⟩
  ·rw[if_neg e];exact AV.aq.mono (Gh.le.refl G) hle _ _ (hA.env u)
 ·have hi':s.nx+1<=i:=hi;unfold aJ;rw[if_neg (fun e=>by cases e;omega)];exact hA.fresh i (by omega)
 ·have:aJ m (.O s.nx) .none (.B i)=m (.B i):=by unfold aJ;rw[if_neg (fun e=>by cases e)]
  rw[this];exact hA.base i
 ·unfold aJ at hi;split at hi
  ·cases hi;exact fun hb=>by cases hb
  ·exact hA.own i b sz hi
def an.l8(s:an)(h:Hd)(cs:List AV)(i k:Nat):an:=(s.put none .un [.row true k []] []).ba h (some (.box (cs.set i (.sl (.O s.nx) k 0 0))))
theorem Qd{G:Gh}{m:HM}:∀{cs:List AV} {vs:List Value} {i:Nat} {a:AV},AV.bb G m cs vs->(∀v,vs[i]?=some v->AV.aq G m a v)->AV.bb G m (cs.set i a) vs
 |[],vs,i,a,h,_=>by simpa using h
 |c::cs,vs,0,a,h,ha=>by
  unfold AV.bb at h;obtain⟨v,vs',rfl,_,h2⟩:=h;simp only[List.set_cons_zero];unfold AV.bb;exact⟨v,vs',rfl,ha v rfl,h2⟩
 |c::cs,vs,i+1,a,h,ha=>by unfold AV.bb at h;obtain⟨v,vs',rfl,h1,h2⟩:=h;simp only[List.set_cons_succ];unfold AV.bb;exact⟨v,vs',rfl,h1,Qd h2 (fun u hu=>ha u (by simpa using hu))⟩
theorem an.uj(s:an)(h:Hd)(cs:List AV)(i k:Nat)(hl:s.lk h=some (.box cs))(hi:cs[i]?=some (.fl [])):Wk s (s.l8 h cs i k):=fun E a w ⟨G,m,hA⟩=>by
 have hn:m (.O s.nx)=none:=hA.fresh _ (me _);have hle:HM.le m (aJ m (.O s.nx) .none):=CT hn;have hne:h≠.O s.nx:=fun e=>by have h0:s.lk (.O s.nx)=none:=hA.iv _ (me _);rw[e,h0]at hl;cases hl
 have hS:=hA.ew.rn hn none .un k;have hlk1:(s.put none .un [.row true k []] []).lk h=some (.box cs):=by
  rw[jZ,eD];cases h with
  |B j=>exact hl
  |O j=>
   show(if s.nx<=j/\j<s.nx+[bn.row true k []].length then _ else s.lk (.O j))=_;rw[if_neg (fun hc=>hne (by congr 1;simp at hc;omega))];exact hl
 have hlk:∀x,(s.l8 h cs i k).lk x=if x=h then some (.box (cs.set i (.sl (.O s.nx) k 0 0)))else(s.put none .un [.row true k []] []).lk x:=fun x=>aQ _ _ _ _
 refine⟨G,aJ m (.O s.nx) .none,⟨fun x b sz hx=>?_,fun x hx=>?_,hS.da,hS.gh,fun x hx=>?_,hS.gl,fun x b sz fp hx=>?_⟩,fun u=>?_,hA.size,hA.defers,?_,fun j hj=>?_,hA.frame,fun j=>?_,fun j b sz hj=>?_,trivial,fun j hj=>?_⟩
 ·obtain⟨bl,h1,h2⟩:=hS.fh x b sz hx;rw[hlk];by_cases e:x=h
  ·subst e;rw[if_pos rfl];rw[hlk1]at h1;cases h1;obtain⟨vs,T,q1,q2,q3,q4⟩:=h2;refine⟨_,rfl,vs,T,q1,q2,Qd q3 (fun v hv=>?_),q4⟩;obtain⟨v',hv',hr⟩:=AV.gf q3 hi;rw[hv]at hv';cases hv';unfold AV.aq at hr;obtain⟨_,p,hp⟩:=hr;subst hp;unfold AV.aq;exact⟨rfl,.none,by unfold aJ;rw[if_pos rfl],fun _=>.inl ⟨p,rfl,rfl⟩⟩
  ·rw[if_neg e];exact⟨bl,h1,h2⟩
 ·obtain⟨mt,k',h1⟩:=hS.nil x hx;rw[hlk];by_cases e:x=h
  ·subst e;rw[hlk1]at h1;cases h1
  ·rw[if_neg e];exact⟨mt,k',h1⟩
 ·have h1:=hS.dead x hx;rw[hlk];by_cases e:x=h
  ·subst e;rw[hlk1]at h1;cases h1
  ·rw[if_neg e];exact h1
 ·obtain⟨bl,h1,h2⟩:=hS.di x b sz fp hx;rw[hlk];by_cases e:x=h
  ·subst e;rw[hlk1]at h1;cases h1;exact h2.elim
  ·rw[if_neg e];exact⟨bl,h1,h2⟩
 ·have:(s.l8 h cs i k).env=s.env:=by unfold an.l8;rw[eO];rfl
  rw[this];exact AV.aq.mono (Gh.le.refl G) hle _ _ (hA.env u)
 ·have:(s.l8 h cs i k).env=s.env:=by unfold an.l8;rw[eO];rfl
  rw[this];exact hA.ki
 ·have hj':s.nx+1<=j:=by
   have:(s.l8 h cs i k).nx=s.nx+1:=by unfold an.l8;rw[cC];rfl
   omega
  unfold aJ;rw[if_neg (fun e=>by cases e;omega)];exact hA.fresh j (by omega)
 ·have:aJ m (.O s.nx) .none (.B j)=m (.B j):=by unfold aJ;rw[if_neg (fun e=>by cases e)]
  rw[this];exact hA.base j
 ·unfold aJ at hj;split at hj
  ·cases hj;exact fun hb=>by cases hb
  ·exact hA.own j b sz hj
 ·have h0:∀j,(s.put none .un [.row true k []] []).nx<=j->(s.put none .un [.row true k []] []).own j=none:=fun j hj=>qI hA.iv j hj;exact jW h0 ⟨_,hlk1⟩ j (by unfold an.l8 at hj;rw[cC]at hj;exact hj)
def vK(mvs:List Nat):Hd->Hd
 |.B j=>match uS j mvs 0 with
  |some i=>.O i
  |none=>.B j
 |.O i=>.O i
def Eo(args:List AV)(bs:List (Option bn))(mvs:List Nat):an:=
 {env:=fun t=>(AV.dh (vK mvs) args).getD t .un,bs:=fun j=>if j∈mvs then none else((bs[j]?).join).map (bn.cg (vK mvs)),own:=fun i=>(mvs[i]?).bind fun j=>((bs[j]?).join).map (bn.cg (vK mvs)),nx:=mvs.length}
theorem OU{j:Nat}:∀{l:List Nat} {n i:Nat},l.Nodup->l[i]?=some j->uS j l n=some (n+i)
 |[],_,_,_,q=>by simp at q
 |x::xs,n,0,_,q=>by
  simp only[List.getElem?_cons_zero,Option.some.injEq]at q;unfold uS;rw[if_pos q];rfl
 |x::xs,n,i+1,hn,q=>by simp only[List.getElem?_cons_succ]at q;unfold uS;rw[if_neg (fun e:x=j=>(abk.1 hn).1 (by rw[e];exact aar q)),OU (abk.1 hn).2 q];congr 1;omega
theorem Rc(ψ:Hd->Hd):AV.cg ψ .un=.un:=rfl
theorem Et{ψ:Hd->Hd}:∀(l:List AV) (t:Nat),(AV.dh ψ l).getD t .un=AV.cg ψ (l.getD t .un)
 |[],t=>by simp[AV.dh,Rc]
 |a::l,0=>by simp[AV.dh]
 |a::l,t+1=>by have:=Et (ψ:=ψ) l t;simpa[AV.dh]using this
theorem XN(args:List AV)(bs:List (Option bn))(mvs:List Nat)(hnd:mvs.Nodup):Wk (entry args bs) (Eo args bs mvs):=fun E a w ⟨G,m,hA⟩=>by
 have hlk:∀j,(entry args bs).lk (.B j)=(bs[j]?).join:=fun j=>rfl;have hO:∀i,m (.O i)=none:=fun i=>hA.fresh i (aba _);obtain⟨m',hm'⟩:∃m':HM,m'=fun x=>match x with
  |.O i=>(mvs[i]?).bind fun j=>m (.B j)
  |.B j=>if j∈mvs then(m (.B j)).map fun _=>.dead else m (.B j):=⟨_,rfl⟩
 have mB:∀j,j∉mvs->m' (.B j)=m (.B j):=fun j hj=>by rw[hm'];exact if_neg hj
 have mBd:∀j,j∈mvs->m' (.B j)=(m (.B j)).map fun _=>.dead:=fun j hj=>by rw[hm'];exact if_pos hj
 have mO:∀i,m' (.O i)=(mvs[i]?).bind fun j=>m (.B j):=fun i=>by rw[hm']
 have hpsi:∀j,j∉mvs->vK mvs (.B j)=.B j:=fun j hj=>by
  cases e:uS j mvs 0 with
  |none=>simp only[vK,e]
  |some i=>obtain⟨_,h⟩:=vO e;exact absurd (aar h) hj
 have hback:∀x loc,m x=some loc->m' (vK mvs x)=some loc:=fun x loc hx=>by
  cases x with
  |O i=>rw[hO i]at hx;cases hx
  |B j=>
   by_cases hj:j∈mvs
   ·obtain⟨i,hi⟩:=List.getElem?_of_mem hj;have:vK mvs (.B j)=.O i:=by simp[vK,OU (n:=0) hnd hi]
    rw[this,mO,hi];exact hx
   ·rw[hpsi j hj,mB j hj];exact hx
 have get:∀x loc,m' x=some loc->loc≠.dead->(∃j,x=.B j/\j∉mvs/\m (.B j)=some loc)\/(∃i j,x=.O i/\mvs[i]?=some j/\m (.B j)=some loc):=fun x loc hx hl=>by
  cases x with
  |B j=>
   by_cases hj:j∈mvs
   ·rw[mBd j hj,ι]at hx;obtain⟨_,_,e⟩:=hx;exact absurd e.symm hl
   ·rw[mB j hj]at hx;exact .inl ⟨j,rfl,hj,hx⟩
  |O i=>
   rw[mO,η]at hx;obtain⟨j,h1,h2⟩:=hx;exact .inr ⟨i,j,rfl,h1,h2⟩
 have lkB:∀j,j∉mvs->(Eo args bs mvs).lk (.B j)=((bs[j]?).join).map (bn.cg (vK mvs)):=fun j hj=>if_neg hj;have lkO:∀i j,mvs[i]?=some j->(Eo args bs mvs).lk (.O i)=((bs[j]?).join).map (bn.cg (vK mvs)):=fun i j hi=>by show(mvs[i]?).bind _=_;rw[hi];rfl
 have hjok:E.J ((Eo args bs mvs).env E.N) w:=by show E.J ((AV.dh (vK mvs) args).getD E.N .un) w;rw[Et];exact E.yd _ _ _ hA.ki
 refine⟨G,m',⟨fun x b sz hx=>?_,fun x hx=>?_,fun x y l l' b hx hy hb hb'=>?_,hA.ew.gh,fun x hx=>?_,hA.ew.gl,fun x b sz fp hx=>?_⟩,fun t=>?_,hA.size,hA.defers,hjok,fun i hi=>?_,hA.frame,fun j=>?_,fun h0 l0 b0 q0=>?_,hA.qq,fun i hi=>?_⟩
 ·rcases get x _ hx (by simp)with⟨j,rfl,hj,h1⟩|⟨i,j,rfl,hi,h1⟩
  ·obtain⟨bl,h2,h3⟩:=hA.ew.fh _ b sz h1;rw[hlk]at h2;exact⟨_,by rw[lkB j hj,h2];rfl,h3.cg hback⟩
  ·obtain⟨bl,h2,h3⟩:=hA.ew.fh _ b sz h1;rw[hlk]at h2;exact⟨_,by rw[lkO i j hi,h2];rfl,h3.cg hback⟩
 ·rcases get x _ hx (by simp)with⟨j,rfl,hj,h1⟩|⟨i,j,rfl,hi,h1⟩
  ·obtain⟨mt,k,h2⟩:=hA.ew.nil _ h1;rw[hlk]at h2;exact⟨mt,k,by rw[lkB j hj,h2];rfl⟩
  ·obtain⟨mt,k,h2⟩:=hA.ew.nil _ h1;rw[hlk]at h2;exact⟨mt,k,by rw[lkO i j hi,h2];rfl⟩
 ·have hne:∀{l:Loc} {b:Nat},b∈l.ga->l≠.dead:=fun h e=>by subst e;cases h
  rcases get x _ hx (hne hb)with⟨j,rfl,hj,h1⟩|⟨i,j,rfl,hi,h1⟩<;>rcases get y _ hy (hne hb')with⟨j',rfl,hj',h1'⟩|⟨i',j',rfl,hi',h1'⟩
  ·exact hA.ew.da _ _ l l' b h1 h1' hb hb'
  ·have:=hA.ew.da _ _ l l' b h1 h1' hb hb';cases this;exact absurd (aar hi') hj
  ·have:=hA.ew.da _ _ l l' b h1 h1' hb hb';cases this;exact absurd (aar hi) hj'
  ·have:=hA.ew.da _ _ l l' b h1 h1' hb hb';cases this;have hlt:=(υ.1 hi).1;rw[(List.getElem?_inj hlt hnd).1 (hi.trans hi'.symm)]
 ·cases x with
  |B j=>
   by_cases hj:j∈mvs
   ·exact if_pos hj
   ·rw[mB j hj]at hx;have:=hA.ew.dead _ hx;rw[hlk]at this;rw[lkB j hj,this];rfl
  |O i=>
   rw[mO,η]at hx;obtain⟨j,h1,h2⟩:=hx;have:=hA.ew.dead _ h2;rw[hlk]at this;rw[lkO i j h1,this];rfl
 ·rcases get x _ hx (by simp)with⟨j,rfl,hj,h1⟩|⟨i,j,rfl,hi,h1⟩
  ·obtain⟨bl,h2,h3⟩:=hA.ew.di _ b sz fp h1;rw[hlk]at h2;exact⟨_,by rw[lkB j hj,h2];rfl,h3.cg hback⟩
  ·obtain⟨bl,h2,h3⟩:=hA.ew.di _ b sz fp h1;rw[hlk]at h2;exact⟨_,by rw[lkO i j hi,h2];rfl,h3.cg hback⟩
 ·show AV.aq G m' ((AV.dh (vK mvs) args).getD t .un) _;rw[Et];exact AV.ko hback _ _ (hA.env t)
 ·have hi:mvs.length<=i:=hi;rw[mO,aay hi];rfl
 ·by_cases hj:j∈mvs
  ·rw[mBd j hj];rcases hA.base j with h1|⟨h1,h2⟩|⟨b,sz,fp,fp',h1,h2⟩
   ·cases e:m (.B j)with
    |none=>left;rw[<-h1,e];rfl
    |some l=>right;left;exact⟨by rw[<-h1,e];simp,rfl⟩
   ·right;left;exact⟨h1,by rw[h2];rfl⟩
   ·right;left;exact⟨by rw[h1];simp,by rw[h2];rfl⟩
  ·rw[mB j hj];exact hA.base j
 ·intro hb;have hne:l0≠.dead:=fun e=>by subst e;cases hb
  rcases get h0 _ q0 hne with⟨j,rfl,_,h2⟩|⟨i,j,rfl,_,h2⟩<;>exact hA.own _ _ _ h2 hb
 ·have hi:mvs.length<=i:=hi;show(mvs[i]?).bind _=none;rw[aay hi];rfl
structure bw (n:Nat)where
 l:List Int
 len:l.length=n
 deriving DecidableEq
instance{n:Nat}:Inhabited (bw n):=⟨⟨aae n 0,by simp⟩⟩
theorem bw.ext:∀{x y:bw n} (_:x.l=y.l),x=y
 |⟨_,_⟩,⟨_,_⟩,rfl=>rfl
def bw.zero(n:Nat):bw n:=⟨aae n 0,by simp⟩
def bw.set{n:Nat}(x:bw n)(i:Nat)(v:Int):bw n:=⟨x.l.set i v,by rw[List.length_set];exact x.len⟩
def bw.wy(n:Nat)(x:List Int)(o:Nat)(ys:List Int):List Int:=if o+ys.length<=n then x.take o++ys++x.drop (o+ys.length)else x
theorem bw.qu{x:List Int}(hx:x.length=n)(o:Nat)(ys:List Int):(bw.wy n x o ys).length=n:=by
 unfold bw.wy;split
 ·simp;omega
 ·exact hx
def bw.put{n:Nat}(x:bw n)(o:Nat)(ys:List Int):bw n:=⟨bw.wy n x.l o ys,bw.qu x.len o ys⟩
def bw.from(l:List Int)(m:Nat):bw m:=⟨l.take m++aae (m-(l.take m).length) 0,by simp;omega⟩
def bw.part{n:Nat}(x:bw n)(o m:Nat):bw m:=bw.from (x.l.drop o) m
theorem bw.vd{x:bw n}{i:Nat}{v:Int}:(x.set i v).l=x.l.set i v:=rfl
theorem bw.rl{x:bw n}{o:Nat}{ys:List Int}(h:o+ys.length<=n):(x.put o ys).l=x.l.take o++ys++x.l.drop (o+ys.length):=if_pos h
theorem bw.ru{l:List Int}{m:Nat}(h:m<=l.length):(bw.from l m).l=l.take m:=by
 show l.take m++aae (m-(l.take m).length) 0=_;have:(l.take m).length=m:=by simp;omega
 simp only[this,ado,List.replicate_zero,aag]
theorem bw.rq{x:bw n}{o m:Nat}(h:o+m<=n):(x.part o m).l=(x.l.drop o).take m:=by unfold bw.part;exact bw.ru (by rw[aat,x.len];omega)
def cJ(t:cc):List Int:=t.map fun c=>(c.toNat:Int)
theorem FC{t:cc}:(cJ t).length=t.length:=κ _
class YL where
 l:Nat
inductive GX where
 |go
 |exit (id:Nat)
 |ret
 deriving Inhabited
def GX.code:GX->Option Code
 |.go=>none
 |.exit id=>some (.exit id)
 |.ret=>some .ret
end Go.Eng
namespace Go.Eng
def B4:Nat→Option (IntKind×List Int)
  |0=>some (.u32,za)
  |_=>none
theorem QY(g:Nat):sw g=(B4 g).map fun p=>p.2.map (DV.I p.1):=by unfold sw B4;split<;>first|rfl|(split<;>first|rfl|(simp_all;done))
end Go.Eng
namespace Go.Eng
open Go.RowKit
variable{off i:Nat}{h:Hd}{φ:Hd->Option Hd}{KP:AV->Prop}{len:Hd->Nat}{k:IntKind}{op:BinOp}{ag:Option Nat}{sl:List Nat}
inductive Ty where
 |u
 |b
 |i (k:IntKind)
 |s
 |p (x y:Ty)
 |w (x:Ty)
 |ar (n:Nat) (k:IntKind)
 |sl (t:Ty)
 |o (t:Ty)
 deriving Inhabited
variable{t:Ty}
def Ty.beq:Ty->Ty->Bool
 |.u,.u=>true
 |.b,.b=>true
 |.i k,.i k'=>decide (k=k')
 |.s,.s=>true
 |.p a e,.p c d=>a.beq c&&e.beq d
 |.w a,.w e=>a.beq e
 |.ar n k,.ar m k'=>aaa n m&&decide (k=k')
 |.sl a,.sl e=>a.beq e
 |.o a,.o e=>a.beq e
 |_,_=>false
theorem Ty.fg{a b:Ty}(h:a.beq b=true):a=b:=by
 induction a generalizing b with
 |p x y ih1 ih2=>cases b<;>first|(simp only[Ty.beq,μ]at h;rw[ih1 h.1,ih2 h.2];done)|exact aaU (show false=true from h)
 |w x ih=>cases b<;>first|exact congrArg Ty.w (ih h)|exact aaU (show false=true from h)
 |o x ih=>cases b<;>first|exact congrArg Ty.o (ih h)|exact aaU (show false=true from h)
 |sl x ih=>cases b<;>first|exact congrArg Ty.sl (ih h)|exact aaU (show false=true from h)
 |ar n k=>cases b<;>first|(simp only[Ty.beq,μ,decide_eq_true_eq]at h;rw[θ h.1,h.2];done)|exact aaU (show false=true from h)
 |i k=>cases b<;>first|exact congrArg Ty.i (of_decide_eq_true h)|exact aaU (show false=true from h)
 |u=>cases b<;>first|rfl|exact aaU (show false=true from h)
 |b=>cases b<;>first|rfl|exact aaU (show false=true from h)
 |s=>cases b<;>first|rfl|exact aaU (show false=true from h)
@[reducible] def Ty.T:Ty->Type
 |.u=>Unit
 |.b=>Bool
 |.i _=>Int
 |.s=>cc
 |.p x y=>x.T×y.T
 |.w x=>x.T
 |.ar n _=>bw n
 |.sl t=>List t.T
 |.o t=>List t.T
def Ty.n:Ty->Nat
 |.u=>0
 |.p x y=>x.n+y.n
 |.w x=>x.n
 |.ar n _=>n
 |_=>1
def Ty.ds:(t:Ty)->t.T->List DV
 |.u,_=>[]
 |.b,x=>[.B x]
 |.i k,n=>[.I k n]
 |.s,t=>[.S t]
 |.p a c,v=>a.ds v.1++c.ds v.2
 |.w a,v=>a.ds v
 |.ar _ k,v=>v.l.map (.I k)
 |.sl t,xs=>[.L (xs.map t.ds)]
 |.o t,xs=>[.L (xs.map t.ds)]
theorem Ty.fk:∀(t:Ty) (x:t.T),(t.ds x).length=t.n
 |.u,_=>rfl
 |.b,_=>rfl
 |.i _,_=>rfl
 |.s,_=>rfl
 |.p a c,v=>by
  show(a.ds v.1++c.ds v.2).length=a.n+c.n;rw[ε,a.fk,c.fk]
 |.w a,v=>a.fk v
 |.ar n k,v=>by
  show(v.l.map (DV.I k)).length=n;rw[κ,v.len]
 |.sl t,xs=>rfl
 |.o _,_=>rfl
theorem Ty.l6:∀(t:Ty) (x:t.T),(t.ds x).all DV.one=true
 |.u,_=>rfl
 |.b,_=>rfl
 |.i _,_=>rfl
 |.s,_=>rfl
 |.p a c,v=>by
  show(a.ds v.1++c.ds v.2).all DV.one=true;rw[List.all_append,a.l6,c.l6];rfl
 |.w a,v=>a.l6 v
 |.ar n k,v=>by
  show(v.l.map (DV.I k)).all DV.one=true;rw[List.all_map,aa1];intro _ _;rfl
 |.sl t,xs=>rfl
 |.o _,_=>rfl
theorem uU(t:Ty)(xs:List t.T):js t.n (xs.map t.ds):=by rw[Vv fun x=>t.fk x];trivial
theorem Dh(t:Ty)(xs:List t.T):qn (xs.map t.ds)=true:=bJ9 fun x=>t.l6 x
@[reducible] def Ty.wo:(t:Ty)->DecidableEq t.T
 |.u=>inferInstanceAs (DecidableEq Unit)
 |.b=>inferInstanceAs (DecidableEq Bool)
 |.i _=>inferInstanceAs (DecidableEq Int)
 |.s=>inferInstanceAs (DecidableEq (List UInt8))
 |.p x y=>@instDecidableEqProd _ _ x.wo y.wo
 |.w x=>x.wo
 |.ar n _=>inferInstanceAs (DecidableEq (bw n))
 |.sl t=>@instDecidableEqList _ t.wo
 |.o t=>@instDecidableEqList _ t.wo
instance(t:Ty):DecidableEq t.T:=t.wo
def Ty.j1(a b:Ty)(x:a.T):Option b.T:=if h:a.beq b=true then some (Ty.fg h▸x)else none
theorem Ty.cq{a b:Ty}{x:a.T}{y:b.T}(h:a.j1 b x=some y):∃e:a=b,e▸x=y:=by
 unfold Ty.j1 at h;split at h
 ·exact⟨Ty.fg ‹_›,Option.some.inj h⟩
 ·cases h
inductive XV where
 |d (t:Ty) (x:t.T)
 |any
 |un
 |ab
 |ptr (h:Hd) (off:Nat)
 |ept (h:Hd) (t:Ty) (ix off:Nat)
 |apt (h:Hd) (ix:Nat)
 |pa (h:Hd) (off j:Nat)
 |epa (h:Hd) (t:Ty) (ix off j:Nat)
 |rpt (h:Hd) (off:Nat)
 |rpa (h:Hd) (off j:Nat)
 |rsl (h:Hd) (off l len:Nat)
 |rop (t:Ty) (x:t.T) (off:Nat)
 |fl (t:Ty) (xs:List t.T)
 |fln (t:Ty)
 |nl (t:Ty)
 |sl (h:Hd) (t:Ty) (off len:Nat)
 |asl (h:Hd) (off len:Nat)
 |slw (h:Hd) (t:Ty) (len:Nat)
 |mref (h:Hd)
 |itr (hm h:Hd)
 |sc
 |agg (cs:List XV)
 |cn (vs:List XV)
 |clo (f:Nat) (caps:List XV)
 |c (v:Value)
 |yld
 |gst (c:GX)
 deriving Inhabited
variable{cs l l2:List XV}{v a:XV}
def dA:(t:Ty)->t.T->AV
 |.b,x=>.D (.B x)
 |.i k,n=>.D (.I k n)
 |.s,t=>.D (.S t)
 |.sl t,xs=>.D (.L (xs.map t.ds))
 |.u,_=>.agg []
 |.p a c,v=>.agg (((Ty.p a c).ds v).map .D)
 |.w a,v=>.agg ((a.ds v).map .D)
 |.ar n k,v=>.agg (((Ty.ar n k).ds v).map .D)
 |.o t,xs=>.D (.L (xs.map t.ds))
mutual
def XV.er[YL]:XV->AV
 |.d t x=>dA t x
 |.any=>.any
 |.un=>.D (.C undef)
 |.ab=>.ab
 |.ptr h off=>.ptr h off
 |.ept h t ix off=>.eptr h t.n ix off
 |.apt h ix=>.eptr h 1 ix 0
 |.pa h off j=>.ptr h (off+j)
 |.rpt h off=>.eptr h 1 off 0
 |.rpa h off j=>.eptr h 1 (off+j) 0
 |.rsl h off l len=>.sl h 1 (off+l) len
 |.epa h t ix off j=>.eptr h t.n ix (off+j)
 |.mref h=>.mref h
 |.itr hm h=>.itr hm h
 |.rop t x off=>.rop ((t.ds x).drop off)
 |.fl t xs=>.fl (xs.map t.ds)
 |.fln _=>.fl []
 |.nl _=>.D (.L [])
 |.sl h t off len=>.sl h t.n off len
 |.asl h off len=>.sl h 1 off len
 |.slw h t len=>.sl h t.n 0 len
 |.sc=>.sc
 |.agg cs=>.agg (XV.bz cs)
 |.cn vs=>.cn (XV.cz vs)
 |.clo f caps=>.clo f (XV.cz caps)
 |.c v=>.D (.C v)
 |.yld=>.yld YL.l
 |.gst q=>.gst q.code
def XV.cz[YL]:List XV->List AV
 |[]=>[]
 |a::as=>a.er::XV.cz as
def XV.fc[YL]:XV->List AV
 |.d t x=>(t.ds x).map .D
 |.agg cs=>XV.bz cs
 |.any=>[.any]
 |.un=>[.D (.C undef)]
 |.ab=>[.ab]
 |.ptr h off=>[.ptr h off]
 |.ept h t ix off=>[.eptr h t.n ix off]
 |.apt h ix=>[.eptr h 1 ix 0]
 |.pa h off j=>[.ptr h (off+j)]
 |.rpt h off=>[.eptr h 1 off 0]
 |.rpa h off j=>[.eptr h 1 (off+j) 0]
 |.rsl h off l len=>[.sl h 1 (off+l) len]
 |.epa h t ix off j=>[.eptr h t.n ix (off+j)]
 |.mref h=>[.mref h]
 |.itr hm h=>[.itr hm h]
 |.rop t x off=>[.rop ((t.ds x).drop off)]
 |.fl t xs=>[.fl (xs.map t.ds)]
 |.fln _=>[.fl []]
 |.nl _=>[.D (.L [])]
 |.sl h t off len=>[.sl h t.n off len]
 |.asl h off len=>[.sl h 1 off len]
 |.slw h t len=>[.sl h t.n 0 len]
 |.sc=>[.sc]
 |.cn vs=>[.cn (XV.cz vs)]
 |.clo f caps=>[.clo f (XV.cz caps)]
 |.c v=>[.D (.C v)]
 |.yld=>[.yld YL.l]
 |.gst q=>[.gst q.code]
def XV.bz[YL]:List XV->List AV
 |[]=>[]
 |a::as=>a.fc++XV.bz as
end
def zz:Ty->List IntKind
 |.i k=>[k]
 |.p x y=>zz x++zz y
 |.ar n k=>aae n k
 |_=>[]
def ub:Ty->Bool
 |.i _=>true
 |.p x y=>ub x&&ub y
 |.ar _ _=>true
 |_=>false
def Ty.kd:Ty->KD
 |.i k=>.i k
 |.ar n k=>.a (aae n k)
 |.w t=>.a (zz t)
 |_=>.s
def yV:Ty->Bool
 |.i _=>true
 |.s=>true
 |.ar _ _=>true
 |.w t=>ub t
 |_=>false
def sF(wr:Bool)(t:Ty)(x:t.T):MV:=match t,x with
 |.o t,x=>match wr with
  |false=>.o t.n (x.map t.ds)
  |true=>.ow t.n (x.map t.ds)
 |t,x=>.v (dA t x)
def AJ(wr:Bool)(t:Ty)(x:t.T):AV:=match wr with
 |false=>dA t x
 |true=>.any
def iF(wr:Bool)(K V:Ty):List (K.T×V.T)->Option K.T->List (AV×MV)
 |[],_=>[]
 |e::es,none=>(dA K e.1,sF wr V e.2)::iF wr K V es none
 |e::es,some y=>if e.1=y then(dA K e.1,.v (AJ wr V e.2))::iF wr K V es none else(dA K e.1,sF wr V e.2)::iF wr K V es (some y)
def FU(K V:Ty):List (K.T×V.T)->List K.T->List (AV×MV)
 |[],_=>[]
 |e::es,l=>if e.1∈l then(dA K e.1,sF true V e.2)::FU K V es (l.erase e.1)else(dA K e.1,.v .any)::FU K V es l
inductive XB where
 |box (cs:List XV)
 |row (mt:Bool) (t:Ty) (xs:List t.T)
 |arr (mt:Bool) (n:Nat) (k:IntKind) (x:bw n)
 |rb (mt:Bool) (t:Ty) (x:t.T)
 |mp (wr:Bool) (K V:Ty) (es:List (K.T×V.T)) (hole:Option K.T) (it:Option (Hd×Option K.T×List K.T))
 |it
 |sb (T:TypeId×TypeId) (us:Bool) (xs:List Int)
 deriving Inhabited
def ib(k:IntKind)(c:Int):List DV:=[.I k c]
def iq(l:List DV):List (List DV):=l.map fun d=>[d]
def Ph{α:Type}:Option α->List α
 |none=>[]
 |some x=>[x]
def A7(K:Ty):Option (Hd×Option K.T×List K.T)->Option (Hd×List AV×List AV)
 |none=>none
 |some (h,cur,rem)=>some (h,(Ph cur).map (dA K),rem.map (dA K))
def sr(wr:Bool)(K V:Ty)(es:List (K.T×V.T))(hole:Option K.T)(i:Option (Hd×Option K.T×List K.T)):List (AV×MV):=match wr,i with
 |true,some (_,cur,rem)=>FU K V es (Ph cur++rem)
 |_,_=>iF wr K V es hole
theorem LP{wr:Bool}{K V:Ty}{es:List (K.T×V.T)}{hole:Option K.T}:sr wr K V es hole none=iF wr K V es hole:=by cases wr<;>rfl
def D6{α:Type}(wr:Bool)(i:Option α):Bool:=!wr||i.isNone
theorem WY{wr:Bool}{K V:Ty}{es:List (K.T×V.T)}{hole:Option K.T}{i:Option (Hd×Option K.T×List K.T)}(h:D6 wr i=true):sr wr K V es hole i=iF wr K V es hole:=by
 cases wr with
 |false=>rfl
 |true=>
  cases i with
  |none=>rfl
  |some _=>cases h
def XB.er[YL]:XB->bn
 |.box cs=>.box (XV.bz cs)
 |.row mt t xs=>.row mt t.n (xs.map t.ds)
 |.arr mt _ k x=>.row mt 1 (x.l.map (ib k))
 |.rb mt t x=>.row mt 1 (iq (t.ds x))
 |.mp wr K V es hole i=>.mp K.kd (sr wr K V es hole i) (A7 K i)
 |.it=>.it
 |.sb T us xs=>.sb T us (xs.map (Ty.i .u8).ds)
structure XS where
 env:List (Nat×XV)
 bs:List (Option XB)
 own:List (Option XB)
def aR:List (Nat×XV)->Nat->XV
 |[],_=>.any
 |(t,v)::r,i=>if aaa i t then v else aR r i
def bN:List (Option XB)->Nat->Option XB
 |[],_=>none
 |b::_,0=>b
 |_::r,i+1=>bN r i
def wF:List (Option XB)->Nat->Option XB->List (Option XB)
 |[],_,_=>[]
 |_::r,0,x=>x::r
 |b::r,i+1,x=>b::wF r i x
def XS.lk(s:XS):Hd->Option XB
 |.B i=>bN s.bs i
 |.O i=>bN s.own i
def XS.er[YL](s:XS):an:={env:=fun i=>(aR s.env i).er,bs:=fun i=>(bN s.bs i).map XB.er,own:=fun i=>(bN s.own i).map XB.er,nx:=s.own.length}
def Hz:Value->XV
 |.bool x=>.d .b x
 |.int k n=>.d (.i k) n
 |.string s=>.d .s s.data.toList
 |.slice none 0 0=>.fln .u
 |.agg cs=>.agg (cs.toList.map fun v=>match v with
  |.bool x=>.d .b x
  |.int k n=>.d (.i k) n
  |.string s=>.d .s s.data.toList
  |.slice none 0 0=>.fln .u
  |v=>.c v)
 |v=>.c v
def XS.ev(s:XS):Operand->XV
 |.tmp t=>aR s.env t
 |.const v=>Hz v
 |.func f=>.clo f []
 |.global g=>match B4 g with
  |some (k,l)=>.rop (.ar l.length k) ⟨l,rfl⟩ 0
  |none=>.any
theorem UX[YL](v:Value):(Hz v).er=jJ v:=by
 unfold Hz jJ;split
 ·rfl
 ·rfl
 ·rfl
 ·rfl
 ·rename_i cs;simp only[XV.er];congr 1;generalize cs.toList=l
  induction l with
  |nil=>rfl
  |cons v l ih=>
   simp only[aaM,XV.bz,ih];cases v with
   |slice a b c=>cases a<;>cases b<;>cases c<;>rfl
   |_=>rfl
 ·rename_i h1 h2 h3 h4 h5;cases v with
  |slice a b c=>
   cases a with
   |some a=>rfl
   |none=>
    cases b with
    |succ b=>rfl
    |zero=>
     cases c with
     |succ c=>rfl
     |zero=>exact absurd rfl h4
  |bool x=>exact absurd rfl (h1 x)
  |int k n=>exact absurd rfl (h2 k n)
  |string x=>exact absurd rfl (h3 x)
  |agg cs=>exact absurd rfl (h5 cs)
  |_=>rfl
theorem aU[YL](s:XS)(h:Hd):s.er.lk h=(s.lk h).map XB.er:=by cases h<;>rfl
section
def aw{α β:Type}(n:Nat)(xs:List α)(a:Option β):Option β:=if n=xs.length then a else none
theorem zh{α β:Type}{n:Nat}{xs:List α}{a:Option β}{r:β}(h:aw n xs a=some r):n=xs.length/\a=some r:=by
 unfold aw at h;split at h
 ·exact⟨‹_›,h⟩
 ·cases h
variable{R:Type}
def vq(k:IntKind)(n:Int)(K:Int->Option R):Option R:=match k.signed with
 |true=>ck k n (K n)
 |false=>K (k.wrap n)
theorem Cp{n:Int}{K:Int->Option R}{r:R}(h:vq k n K=some r):K (k.wrap n)=some r:=by
 unfold vq at h;split at h
 ·obtain⟨e,h⟩:=YF h;rw[e];exact h
 ·exact h
def N1(op:BinOp)(k:IntKind)(x y:Int)(K:XV->Option R):Option R:=
 match op with
 |.add=>vq k (x+y) fun n=>K (.d (.i k) n)
 |.sub=>vq k (x-y) fun n=>K (.d (.i k) n)
 |.mul=>vq k (x*y) fun n=>K (.d (.i k) n)
 |.quo=>az (y≠0) (vq k (x.tdiv y) fun n=>K (.d (.i k) n))
 |.rem=>az (y≠0) (K (.d (.i k) (x.tmod y)))
 |.and=>K (.d (.i k) (bits .and k x y))
 |.or=>K (.d (.i k) (bits .or k x y))
 |.xor=>K (.d (.i k) (bits .xor k x y))
 |.andNot=>K (.d (.i k) (bits .andNot k x y))
 |.eql=>K (.d .b (x==y))
 |.neq=>K (.d .b (x !=y))
 |.lss=>K (.d .b (decide (x<y)))
 |.leq=>K (.d .b (decide (x<=y)))
 |.gtr=>K (.d .b (decide (x>y)))
 |.geq=>K (.d .b (decide (x≥y)))
 |_=>none
def Pf(op:BinOp)(x y:cc)(K:XV->Option R):Option R:=
 match op with
 |.add=>az (x.length+y.length<=9223372036854775807) (K (.d .s (x++y)))
 |.eql=>K (.d .b (x==y))
 |.neq=>K (.d .b (!(x==y)))
 |.lss=>K (.d .b (Op.bytesLess x y))
 |.leq=>K (.d .b (Op.bytesLess x y||x==y))
 |.gtr=>K (.d .b (!(Op.bytesLess x y||x==y)))
 |.geq=>K (.d .b (!Op.bytesLess x y))
 |_=>none
def G8(op:BinOp)(K:XV->Option R):XV->XV->Option R
 |.d (.i k) x,.d (.i k') y=>
  match op with
  |.shl=>az (0<=y) (az (y<=k.bits) (vq k (x*2^y.toNat) fun n=>K (.d (.i k) n)))
  |.shr=>az (0<=y) (az (y<=k.bits) (K (.d (.i k) (x/2^y.toNat))))
  |op=>if k=k' then N1 op k x y K else none
 |.d .s x,.d .s y=>Pf op x y K
 |_,_=>none
def Ja(op:UnOp)(K:XV->Option R):XV->Option R
 |.d .b x=>match op with
  |.not=>K (.d .b (!x))
  |_=>none
 |.d (.i k) x=>match op with
  |.neg=>vq k (-x) fun n=>K (.d (.i k) n)
  |.xor=>K (.d (.i k) (bits .xor k (if k.signed then-1 else k.max) x))
  |_=>none
 |_=>none
theorem Sq[YL]{x y:Int}{K:XV->Option R}{r:R}(h:N1 op k x y K=some r)(hK:∀v,K v=some r->KP v.er):Cy op k x y KP:=by
 cases op<;>first
  |(exact hK _ (Cp (K:=fun n=>K (.d (.i k) n)) h);done)
  |(obtain⟨h1,h⟩:=bB h;exact⟨h1,hK _ (Cp (K:=fun n=>K (.d (.i k) n)) h)⟩;done)
  |(obtain⟨h1,h⟩:=bB h;exact⟨h1,hK _ h⟩;done)
  |(exact hK _ h;done)
  |(cases h;done)
theorem bId[YL]{x y:cc}{K:XV->Option R}{r:R}(h:Pf op x y K=some r)(hK:∀v,K v=some r->KP v.er):D5 op x y KP:=by
 cases op<;>first
  |(obtain⟨h1,h⟩:=bB h;exact⟨h1,hK _ h⟩;done)
  |(exact hK _ h;done)
  |(cases h;done)
theorem R4[YL]{c:XV}{K:XV->Option R}{r:R}(h:G8 op K a c=some r)(hK:∀v,K v=some r->KP v.er):As op KP a.er c.er:=by
 unfold G8 at h;split at h
 ·rename_i k x k' y;simp only[XV.er,dA];unfold As;split at h
  ·obtain⟨h1,h⟩:=bB h;obtain⟨h2,h⟩:=bB h;exact⟨h1,h2,hK _ (Cp (K:=fun n=>K (.d (.i k) n)) h)⟩
  ·obtain⟨h1,h⟩:=bB h;obtain⟨h2,h⟩:=bB h;exact⟨h1,h2,hK _ h⟩
  ·split at h
   ·have:=Sq h hK;cases op<;>first|exact⟨‹_›,this⟩|contradiction
   ·cases h
 ·simp only[XV.er,dA];exact bId h hK
 ·cases h
theorem Xj[YL]{op:UnOp}{K:XV->Option R}{r:R}(h:Ja op K a=some r)(hK:∀v,K v=some r->KP v.er):AN op KP a.er:=by
 unfold Ja at h;split at h
 ·split at h
  ·exact⟨rfl,hK _ h⟩
  ·cases h
 ·rename_i k x;split at h
  ·exact hK _ (Cp (K:=fun n=>K (.d (.i k) n)) h)
  ·exact hK _ h
  ·cases h
 ·cases h
def jb:(t:Ty)->t.T->List XV
 |.u,_=>[]
 |.b,x=>[.d .b x]
 |.i k,x=>[.d (.i k) x]
 |.s,x=>[.d .s x]
 |.p a c,v=>jb a v.1++jb c v.2
 |.w a,v=>jb a v
 |.ar n k,x=>[.d (.ar n k) x]
 |.sl t,x=>[.d (.sl t) x]
 |.o t,x=>[.d (.sl t) x]
theorem oV[YL]:∀(a c:List XV),XV.bz (a++c)=XV.bz a++XV.bz c
 |[],c=>rfl
 |x::a,c=>by show x.fc++XV.bz (a++c)=x.fc++XV.bz a++XV.bz c;rw[oV a c,π]
theorem eN[YL]:∀(t:Ty) (x:t.T),XV.bz (jb t x)=(t.ds x).map .D
 |.u,_=>rfl
 |.b,_=>rfl
 |.i _,_=>rfl
 |.s,_=>rfl
 |.p a c,v=>by
  show XV.bz (jb a v.1++jb c v.2)=(a.ds v.1++c.ds v.2).map .D;rw[oV,eN a,eN c,aaw]
 |.w a,v=>eN a v
 |.ar n k,v=>by
  show((Ty.ar n k).ds v).map AV.D++[]=_;rw[aag]
 |.sl t,v=>rfl
 |.o _,_=>rfl
def XV.sz:XV->Nat
 |.d t _=>t.n
 |.agg cs=>(@XV.bz ⟨0⟩ cs).length
 |_=>1
mutual
theorem Wh(x y:YL):∀v:XV,(@XV.fc x v).length=(@XV.fc y v).length
 |.agg cs=>Gt x y cs
 |.d _ _|.any|.un|.ab|.ptr _ _|.ept _ _ _ _|.apt _ _|.pa _ _ _|.rpt _ _|.rpa _ _ _|.rsl _ _ _ _|.epa _ _ _ _ _|.mref _|.itr _ _|.rop _ _ _|.fl _ _|.fln _|.nl _|.sl _ _ _ _|.asl _ _ _|.slw _ _ _|.sc|.cn _|.clo _ _|.c _|.yld|.gst _=>rfl
theorem Gt(x y:YL):∀l:List XV,(@XV.bz x l).length=(@XV.bz y l).length
 |[]=>rfl
 |v::l=>by show(@XV.fc x v++@XV.bz x l).length=(@XV.fc y v++@XV.bz y l).length;rw[ε,ε,Wh x y v,Gt x y l]
end
def nF:Ty->Bool
 |.b=>true
 |.i _=>true
 |.s=>true
 |.sl _=>true
 |.o _=>true
 |_=>false
def OW:XV->Bool
 |.d t _=>nF t
 |.agg _=>false
 |_=>true
theorem GC[YL]:∀{v:XV},OW v=true->v.fc=[v.er]
 |.d .b _,_=>rfl
 |.d (.i _) _,_=>rfl
 |.d .s _,_=>rfl
 |.d (.sl _) _,_=>rfl
 |.d .u _,h=>by cases h
 |.d (.p _ _) _,h=>by cases h
 |.d (.w _) _,h=>by cases h
 |.d (.ar _ _) _,h=>by cases h
 |.d (.o _) _,_=>rfl
 |.any,_=>rfl
 |.un,_=>rfl
 |.ab,_=>rfl
 |.ptr _ _,_=>rfl
 |.ept _ _ _ _,_=>rfl
 |.apt _ _,_=>rfl
 |.pa _ _ _,_=>rfl
 |.rpt _ _,_=>rfl
 |.rpa _ _ _,_=>rfl
 |.rsl _ _ _ _,_=>rfl
 |.epa _ _ _ _ _,_=>rfl
 |.mref _,_=>rfl
 |.itr _ _,_=>rfl
 |.rop _ _ _,_=>rfl
 |.fl _ _,_=>rfl
 |.fln _,_=>rfl
 |.nl _,_=>rfl
 |.sl _ _ _ _,_=>rfl
 |.asl _ _ _,_=>rfl
 |.slw _ _ _,_=>rfl
 |.sc,_=>rfl
 |.agg _,h=>by cases h
 |.cn _,_=>rfl
 |.clo _ _,_=>rfl
 |.c _,_=>rfl
 |.yld,_=>rfl
 |.gst _,_=>rfl
def wb:List XV->Nat->(XV->Option R)->Option R
 |[],_,_=>none
 |v::r,off,K=>match OW v with
  |true=>match off with
   |0=>K v
   |off+1=>wb r off K
  |false=>match v with
   |.d (.ar n k) x=>match Nat.blt off n with
    |true=>aZ x.l (off:Int) fun c=>K (.d (.i k) c)
    |false=>wb r (off-n) K
   |_=>none
theorem yl[YL]{r:R}{K:XV->Option R}:∀{cs:List XV} {off:Nat},wb cs off K=some r->∃v,(XV.bz cs)[off]?=some v.er/\K v=some r
 |[],_,h=>by cases h
 |v::cs,off,h=>by
  unfold wb at h;show∃u:XV,(v.fc++XV.bz cs)[off]?=some u.er/\_;split at h
  ·rename_i h1;rw[GC h1];split at h
   ·exact⟨v,rfl,h⟩
   ·rename_i off;obtain⟨u,e,hu⟩:=yl h;exact⟨u,by simpa using e,hu⟩
  ·split at h
   ·rename_i n k x _;have hl:(((Ty.ar n k).ds x).map AV.D).length=n:=by rw[κ,Ty.fk];rfl
    split at h
    ·rename_i hb;rw[adB]at hb;obtain⟨c,_,hc,h⟩:=BJ h;refine⟨.d (.i k) c,?_,h⟩;show(((Ty.ar n k).ds x).map AV.D++XV.bz cs)[off]?=_;rw[List.getElem?_append_left (by omega)];show((x.l.map (DV.I k)).map AV.D)[off]?=_;rw[Int.toNat_natCast]at hc;rw[aac,aac,hc];rfl
    ·rename_i hb;have hb:¬off<n:=fun h=>by rw[<-adB]at h;rw[h]at hb;cases hb
     obtain⟨u,e,hu⟩:=yl h;refine⟨u,?_,hu⟩;show(((Ty.ar n k).ds x).map AV.D++XV.bz cs)[off]?=_;rw[aal (by omega),hl];exact e
   ·cases h
end
section
variable{R:Type}
theorem A8[YL]:∀(v:XV),v.fc.length=v.sz
 |.d t x=>by show((t.ds x).map AV.D).length=t.n;rw[κ,Ty.fk]
 |.agg cs=>Gt _ _ cs
 |.any=>rfl
 |.un=>rfl
 |.ab=>rfl
 |.ptr _ _=>rfl
 |.ept _ _ _ _=>rfl
 |.apt _ _=>rfl
 |.pa _ _ _=>rfl
 |.rpt _ _=>rfl
 |.rpa _ _ _=>rfl
 |.rsl _ _ _ _=>rfl
 |.epa _ _ _ _ _=>rfl
 |.mref _=>rfl
 |.itr _ _=>rfl
 |.rop _ _ _=>rfl
 |.fl _ _=>rfl
 |.fln _=>rfl
 |.nl _=>rfl
 |.sl _ _ _ _=>rfl
 |.asl _ _ _=>rfl
 |.slw _ _ _=>rfl
 |.sc=>rfl
 |.cn _=>rfl
 |.clo _ _=>rfl
 |.c _=>rfl
 |.yld=>rfl
 |.gst _=>rfl
def BE:List XV->Nat->Option (List XV)
 |cs,0=>some cs
 |[],_+1=>none
 |v::r,n+1=>match Nat.ble v.sz (n+1)with
  |true=>BE r (n+1-v.sz)
  |false=>none
def tk:List XV->Nat->Option (List XV)
 |_,0=>some []
 |[],_+1=>none
 |v::r,n+1=>match Nat.ble v.sz (n+1)with
  |true=>match tk r (n+1-v.sz)with
   |some l=>some (v::l)
   |none=>none
  |false=>none
theorem Iy[YL]:∀{cs:List XV} {n:Nat} {l:List XV},BE cs n=some l->XV.bz l=(XV.bz cs).drop n/\n<=(XV.bz cs).length
 |cs,0,l,h=>by
  have h:some cs=some l:=by cases cs<;>exact h
  cases h;exact⟨rfl,aba _⟩
 |[],n+1,l,h=>by cases h
 |v::r,n+1,l,h=>by
  unfold BE at h;split at h
  ·rename_i hb;have hb:=abf hb;obtain⟨h1,h2⟩:=Iy h;show XV.bz l=(v.fc++XV.bz r).drop (n+1)/\n+1<=(v.fc++XV.bz r).length;have hl:=A8 v;constructor
   ·rw[h1,acI,abv (as:=v.fc) (by omega),aa8,hl]
   ·rw[ε];omega
  ·cases h
theorem IJ[YL]:∀{cs:List XV} {n:Nat} {l:List XV},tk cs n=some l->XV.bz l=(XV.bz cs).take n/\n<=(XV.bz cs).length
 |cs,0,l,h=>by
  have h:some []=some l:=by cases cs<;>exact h
  cases h;exact⟨by rw[List.take_zero];rfl,aba _⟩
 |[],n+1,l,h=>by cases h
 |v::r,n+1,l,h=>by
  unfold tk at h;split at h
  ·rename_i hb;have hb:=abf hb;split at h
   ·rename_i l' hl';cases h;obtain⟨h1,h2⟩:=IJ hl';show v.fc++XV.bz l'=(v.fc++XV.bz r).take (n+1)/\n+1<=(v.fc++XV.bz r).length;have hl:=A8 v;constructor
    ·rw[h1,List.take_append,aav (l:=v.fc) (by omega),hl]
    ·rw[ε];omega
   ·cases h
  ·cases h
def ua(cs:List XV)(off n:Nat):Option (List XV):=match BE cs off with
 |some l=>tk l n
 |none=>none
theorem Fo[YL]{n:Nat}(h:ua cs off n=some l):off+n<=(XV.bz cs).length/\XV.bz l=((XV.bz cs).drop off).take n:=by
 unfold ua at h;split at h
 ·rename_i l' hl';obtain⟨h1,h2⟩:=Iy hl';obtain⟨h3,h4⟩:=IJ h;rw[h1,aat]at h4;rw[h1]at h3;exact⟨by omega,h3⟩
 ·cases h
def uk(cs:List XV)(off:Nat)(ys:List XV)(sz:Nat):Option (List XV):=match tk cs off,BE cs (off+sz)with
 |some a,some c=>some (a++(ys++c))
 |_,_=>none
theorem vR[YL]{ys:List XV}{sz:Nat}(h:uk cs off ys sz=some l):off+sz<=(XV.bz cs).length/\XV.bz l=(XV.bz cs).take off++XV.bz ys++(XV.bz cs).drop (off+sz):=by
 unfold uk at h;split at h
 ·rename_i a c ha hc;cases h;obtain⟨h1,_⟩:=IJ ha;obtain⟨h2,h3⟩:=Iy hc;exact⟨h3,by rw[oV,oV,h1,h2,π]⟩
 ·cases h
def H4:XV->Bool
 |.any=>false
 |.agg _=>false
 |.cn _=>false
 |.un=>false
 |.ab=>true
 |.c v=>v.oneCell'
 |.yld=>false
 |.gst _=>false
 |_=>true
theorem Bx:∀(a c:List AV),AV.cx (a++c)=(AV.cx a&&AV.cx c)
 |[],c=>rfl
 |x::a,c=>by show(AV.one x&&AV.cx (a++c))=(AV.one x&&AV.cx a&&AV.cx c);rw[Bx a c,Bool.and_assoc]
theorem uL:∀(t:Ty) (x:t.T),AV.cx ((t.ds x).map .D)=true
 |.u,_=>rfl
 |.b,_=>rfl
 |.i _,_=>rfl
 |.s,_=>rfl
 |.p a c,v=>by
  show AV.cx ((a.ds v.1++c.ds v.2).map .D)=true;rw[aaw,Bx,uL a,uL c];rfl
 |.w a,v=>uL a v
 |.ar n k,v=>by
  show AV.cx ((v.l.map (DV.I k)).map .D)=true;generalize v.l=l
  induction l with
  |nil=>rfl
  |cons x l ih=>exact ih
 |.sl t,v=>rfl
 |.o _,_=>rfl
theorem Pd[YL]:∀{v:XV},H4 v=true->AV.cx v.fc=true
 |.d t x,_=>uL t x
 |.any,h=>by cases h
 |.agg _,h=>by cases h
 |.cn _,h=>by cases h
 |.un,h=>by cases h
 |.ab,_=>rfl
 |.c v,h=>by show(AV.one (.D (.C v))&&true)=true;rw[Bool.and_true];exact h
 |.yld,h=>by cases h
 |.gst _,h=>by cases h
 |.ptr _ _,_=>rfl
 |.ept _ _ _ _,_=>rfl
 |.apt _ _,_=>rfl
 |.pa _ _ _,_=>rfl
 |.rpt _ _,_=>rfl
 |.rpa _ _ _,_=>rfl
 |.rsl _ _ _ _,_=>rfl
 |.epa _ _ _ _ _,_=>rfl
 |.mref _,_=>rfl
 |.itr _ _,_=>rfl
 |.rop _ _ _,_=>rfl
 |.fl _ _,_=>rfl
 |.fln _,_=>rfl
 |.nl _,_=>rfl
 |.sl _ _ _ _,_=>rfl
 |.asl _ _ _,_=>rfl
 |.slw _ _ _,_=>rfl
 |.sc,_=>rfl
 |.clo _ _,_=>rfl
def Cn:List XV->Bool
 |[]=>true
 |v::r=>H4 v&&Cn r
theorem Ou[YL]:∀{cs:List XV},Cn cs=true->AV.cx (XV.bz cs)=true
 |[],_=>rfl
 |v::r,h=>by unfold Cn at h;rw[μ]at h;show AV.cx (v.fc++XV.bz r)=true;rw[Bx,Pd h.1,Ou h.2];rfl
def uD:XV->Option (List XV)
 |.agg cs=>if Cn cs=true then some cs else none
 |.d (.ar n k) x=>some [.d (.ar n k) x]
 |.d t x=>if nF t=true then some [.d t x]else none
 |v=>if H4 v=true then some [v]else none
theorem Ku{a:AV}(h:AV.cx [a]=true):a.cells?=some [a]:=by
 have h1:AV.one a=true:=by have:(AV.one a&&true)=true:=h;rwa[Bool.and_true]at this
 unfold AV.cells?;split
 ·cases h1
 ·rw[if_pos h1]
theorem oF[YL](h:uD v=some cs):v.er.cells?=some (XV.bz cs):=by
 unfold uD at h;split at h
 ·rename_i l;rw[ζ]at h;obtain⟨h1,h⟩:=h;cases h;show(if AV.cx (XV.bz cs)=true then some (XV.bz cs)else none)=_;rw[if_pos (Ou h1)]
 ·rename_i n k x;cases h;show(if AV.cx (((Ty.ar n k).ds x).map AV.D)=true then some (((Ty.ar n k).ds x).map AV.D)else none)=some (((Ty.ar n k).ds x).map AV.D++[]);rw[if_pos (uL _ _),aag]
 ·rename_i t x _;rw[ζ]at h;obtain⟨h1,h⟩:=h;cases h;have e:=GC (v:=.d t x) h1;show _=some ((XV.d t x).fc++[]);rw[aag,e];exact Ku (by rw[<-e];exact uL t x)
 ·rename_i h2 _ h3;rw[ζ]at h;obtain⟨h1,h⟩:=h;cases h;have e:v.fc=[v.er]:=GC (by
   cases v with
   |d t x=>exact absurd rfl (h3 t x)
   |agg cs=>exact absurd rfl (h2 cs)
   |_=>rfl)
  show _=some (v.fc++[]);rw[aag,e];exact Ku (by rw[<-e];exact Pd h1)
end
section
variable{R:Type}
def Hd.j9:Hd->Hd->Bool
 |.B i,.B j=>aaa i j
 |.O i,.O j=>aaa i j
 |_,_=>false
theorem Hd.dn:∀{a c:Hd},a.j9 c=true↔a=c
 |.B i,.B j=>by simp[Hd.j9,abn]
 |.O i,.O j=>by simp[Hd.j9,abn]
 |.B _,.O _=>by simp[Hd.j9]
 |.O _,.B _=>by simp[Hd.j9]
def gk(h:Hd):List Hd->Bool
 |[]=>false
 |x::r=>h.j9 x||gk h r
theorem vQ{h:Hd}:∀{l:List Hd},gk h l=true↔h∈l
 |[]=>by simp[gk]
 |x::r=>by simp[gk,Hd.dn,vQ (l:=r)]
def XB.jo:XB->XB
 |.row _ t xs=>.row false t xs
 |.arr _ n k x=>.arr false n k x
 |.rb _ t x=>.rb false t x
 |b=>b
theorem Ln[YL]:∀(b:XB),b.jo.er=b.er.jo
 |.row _ _ _=>rfl
 |.arr _ _ _ _=>rfl
 |.rb _ _ _=>rfl
 |.box _=>rfl
 |.mp _ _ _ _ _ _=>rfl
 |.it=>rfl
 |.sb _ _ _=>rfl
def nn(mk:Nat->Hd)(fz:List Hd):Nat->List (Option XB)->List (Option XB)
 |_,[]=>[]
 |i,b::r=>(match gk (mk i) fz with|true=>b.map XB.jo|false=>b)::nn mk fz (i+1) r
theorem Gp(mk:Nat->Hd)(fz:List Hd):∀(l:List (Option XB)) (n i:Nat),bN (nn mk fz n l) i=if mk (n+i)∈fz then(bN l i).map XB.jo else bN l i
 |[],n,i=>by simp[nn,bN]
 |b::r,n,0=>by
  show(match gk (mk n) fz with|true=>b.map XB.jo|false=>b)=_;rw[Nat.add_zero];cases hq:gk (mk n) fz with
  |true=>rw[if_pos (vQ.1 hq)];rfl
  |false=>rw[if_neg (fun h=>by rw[vQ.2 h]at hq;cases hq)];rfl
 |b::r,n,i+1=>by show bN (nn mk fz (n+1) r) i=_;rw[Gp mk fz r (n+1) i,show n+1+i=n+(i+1) by omega];rfl
theorem yL(mk:Nat->Hd)(fz:List Hd):∀(l:List (Option XB)) (n:Nat),(nn mk fz n l).length=l.length
 |[],_=>rfl
 |b::r,n=>by show(nn mk fz (n+1) r).length+1=r.length+1;rw[yL mk fz r]
theorem Hj:∀(a c:List (Option XB)) (i:Nat),bN (a++c) i=if i<a.length then bN a i else bN c (i-a.length)
 |[],c,i=>by simp
 |x::a,c,0=>by simp[bN]
 |x::a,c,i+1=>by show bN (a++c) i=_;rw[Hj a c i];simp only[List.length_cons,Nat.add_lt_add_iff_right,Nat.add_sub_add_right];rfl
theorem MZ:∀(l:List XB) (i:Nat),bN (l.map some) i=l[i]?
 |[],_=>rfl
 |x::l,0=>rfl
 |x::l,i+1=>by show bN (l.map some) i=_;rw[MZ l i];simp
theorem Ei:∀(l:List (Option XB)) (i:Nat),l.length<=i->bN l i=none
 |[],_,_=>rfl
 |x::l,0,h=>by simp at h
 |x::l,i+1,h=>Ei l i (by simpa using h)
def XS.put(s:XS)(dst:Option Nat)(v:XV)(nbs:List XB)(fz:List Hd):XS:=
 {env:=match dst with
   |some d=>(d,v)::s.env
   |none=>s.env
  bs:=match fz with
   |[]=>s.bs
   |fz=>nn .B fz 0 s.bs
  own:=(match fz with
   |[]=>s.own
   |fz=>nn .O fz 0 s.own)++nbs.map some}
theorem an.ext'{s s':an}(h1:∀i,s.env i=s'.env i)(h2:∀i,s.bs i=s'.bs i)(h3:∀i,s.own i=s'.own i)(h4:s.nx=s'.nx):s=s':=by obtain⟨a,c,d,e⟩:=s;obtain⟨a',c',d',e'⟩:=s';obtain rfl:a=a':=funext h1;obtain rfl:c=c':=funext h2;obtain rfl:d=d':=funext h3;obtain rfl:e=e':=h4;rfl
theorem eS[YL](s:XS)(dst:Option Nat)(v:XV)(nbs:List XB)(fz:List Hd):(s.put dst v nbs fz).er=s.er.put dst v.er (nbs.map XB.er) fz:=by
 have hlen:(match fz with|[]=>s.own|fz=>nn .O fz 0 s.own).length=s.own.length:=by
  cases fz with
  |nil=>rfl
  |cons x r=>exact yL _ _ _ _
 refine an.ext' (fun i=>?_) (fun i=>?_) (fun i=>?_) ?_
 ·show(aR _ i).er=dE s.er.env dst v.er i;cases dst with
  |none=>rfl
  |some d=>
   show(if aaa i d=true then v else aR s.env i).er=if i=d then v.er else(aR s.env i).er
   by_cases h:i=d
   ·rw[if_pos h,if_pos (by rw[abn];exact h)]
   ·rw[if_neg h,if_neg (by rw[abn];exact h)]
 ·show(bN _ i).map XB.er=DQ s.er.bs fz i;cases fz with
  |nil=>rfl
  |cons x r=>
   show(bN (nn .B (x::r) 0 s.bs) i).map XB.er=if Hd.B i∈x::r then((bN s.bs i).map XB.er).map bn.jo else(bN s.bs i).map XB.er
   rw[Gp,Nat.zero_add];split
   ·rw[ady,ady];congr 1;funext b;exact Ln b
   ·rfl
 ·show(bN (_++nbs.map some) i).map XB.er=sP (u7 s.er.own fz) s.own.length (nbs.map XB.er) i;rw[sS,Hj,hlen,κ];by_cases h1:i<s.own.length
  ·rw[if_pos h1,if_neg (by omega)];cases fz with
   |nil=>rfl
   |cons x r=>
    show(bN (nn .O (x::r) 0 s.own) i).map XB.er=if Hd.O i∈x::r then((bN s.own i).map XB.er).map bn.jo else(bN s.own i).map XB.er
    rw[Gp,Nat.zero_add];split
    ·rw[ady,ady];congr 1;funext b;exact Ln b
    ·rfl
  ·rw[if_neg h1,MZ];by_cases h2:i<s.own.length+nbs.length
   ·rw[if_pos ⟨by omega,h2⟩,aac]
   ·rw[if_neg (by omega),aay (by omega)];have:bN s.own i=none:=Ei _ _ (by omega);have e:s.er.own i=none:=by show(bN s.own i).map XB.er=none;rw[this];rfl
    show none=u7 s.er.own fz i;unfold u7;cases fz with
    |nil=>exact e.symm
    |cons x r=>simp[e]
 ·cases fz with
  |nil=>
   show(s.own++nbs.map some).length=s.own.length+(nbs.map XB.er).length;rw[ε,κ,κ]
  |cons x r=>
   show(nn .O (x::r) 0 s.own++nbs.map some).length=s.own.length+(nbs.map XB.er).length;rw[ε,yL,κ,κ]
def XS.ba(s:XS)(h:Hd)(b:Option XB):XS:=match h with
 |.B i=>{s with bs:=wF s.bs i b}
 |.O i=>{s with own:=wF s.own i b}
theorem nJ:∀(l:List (Option XB)) (i:Nat) (b:Option XB) (j:Nat),i<l.length->bN (wF l i b) j=if j=i then b else bN l j
 |[],i,b,j,h=>by simp at h
 |x::l,0,b,0,_=>rfl
 |x::l,0,b,j+1,_=>by simp[wF,bN]
 |x::l,i+1,b,0,_=>by simp[wF,bN]
 |x::l,i+1,b,j+1,h=>by show bN (wF l i b) j=_;rw[nJ l i b j (by simpa using h)];simp only[Nat.add_right_cancel_iff];rfl
theorem zA:∀(l:List (Option XB)) (i:Nat) (b:Option XB),(wF l i b).length=l.length
 |[],_,_=>rfl
 |_::_,0,_=>rfl
 |x::l,i+1,b=>by show(wF l i b).length+1=_;rw[zA l i b];rfl
theorem pD:∀{l:List (Option XB)} {i:Nat} {b:XB},bN l i=some b->i<l.length
 |[],_,_,h=>by cases h
 |_::_,0,_,_=>Nat.succ_pos _
 |_::l,i+1,_,h=>Nat.succ_lt_succ (pD (l:=l) h)
theorem cH[YL]{s:XS}{b0:XB}(hl:s.lk h=some b0)(b:Option XB):(s.ba h b).er=s.er.ba h (b.map XB.er):=by
 cases h with
 |B i=>
  have hi:=pD (l:=s.bs) hl;refine an.ext' (fun _=>rfl) (fun j=>?_) (fun _=>rfl) rfl;show(bN (wF s.bs i b) j).map XB.er=if j=i then b.map XB.er else(bN s.bs j).map XB.er
  rw[nJ _ _ _ _ hi];split<;>rfl
 |O i=>
  have hi:=pD (l:=s.own) hl;refine an.ext' (fun _=>rfl) (fun _=>rfl) (fun j=>?_) (zA _ _ _);show(bN (wF s.own i b) j).map XB.er=if j=i then b.map XB.er else(bN s.own j).map XB.er
  rw[nJ _ _ _ _ hi];split<;>rfl
theorem Y4[YL](s:XS)(x:Operand):(s.ev x).er=s.er.ev x:=by
 cases x with
 |tmp t=>rfl
 |const v=>exact UX v
 |func f=>rfl
 |global g=>
  show(match B4 g with
   |some (k,l)=>XV.rop (.ar l.length k) ⟨l,rfl⟩ 0
   |none=>.any).er=(match sw g with
   |some ds=>AV.rop ds
   |none=>.any)
  rw[QY];cases B4 g<;>rfl
def Ec:Operand->Bool
 |_=>true
theorem ui[YL](s:XS){x:Operand}(_:Ec x=true):s.er.ev x=(s.ev x).er:=(Y4 s x).symm
end
section
variable{R:Type}
def cr{α β:Type}(xs:List α)(i:Nat)(f:α->Option β):Option β:=match xs[i]?with
 |some x=>f x
 |none=>none
theorem wm{α β:Type}{xs:List α}{f:α->Option β}{r:β}(h:cr xs i f=some r):∃x,xs[i]?=some x/\f x=some r:=by
 unfold cr at h;split at h
 ·exact⟨_,‹_›,h⟩
 ·cases h
def Cm(K:XV->Option R):Option (List XV)->Option R
 |some l=>K (.agg l)
 |none=>none
def ug(ag:Option Nat)(cs:List XV)(off:Nat)(K:XV->Option R):Option R:=match ag with
 |none=>wb cs off K
 |some n=>Cm K (ua cs off n)
theorem zw[YL]{K:XV->Option R}{r:R}(h:ug ag cs off K=some r):
  ∃v,K v=some r/\match ag with
   |none=>(XV.bz cs)[off]?=some v.er
   |some n=>off+n<=(XV.bz cs).length/\v.er=.agg (((XV.bz cs).drop off).take n):=by
 unfold ug at h;cases ag with
 |none=>
  obtain⟨v,h1,h2⟩:=yl h;exact⟨v,h2,h1⟩
 |some n=>
  have h:Cm K (ua cs off n)=some r:=h;cases hc:ua cs off n with
  |none=>rw[hc]at h;cases h
  |some l=>
   rw[hc]at h;obtain⟨h1,h2⟩:=Fo hc;exact⟨.agg l,h,h1,by show AV.agg (XV.bz l)=_;rw[h2]⟩
def JS(k:IntKind)(K:XV->Option R){n:Nat}(x:bw n):Option Nat->Nat->Option R
 |none,off=>cr x.l off fun c=>K (.d (.i k) c)
 |some m,0=>match aaa m n with
  |true=>K (.d (.ar n k) x)
  |false=>none
 |_,_=>none
def GV(ag:Option Nat)(off:Nat)(K:XV->Option R):(t:Ty)->t.T->Option R
 |.ar _ k,x=>JS k K x ag off
 |t,x=>ug ag (jb t x) off K
structure j6 where
 n:Nat
 k:IntKind
 x:bw n
def om:List XV->Nat->Option j6
 |[],_=>none
 |v::r,0=>match v with
  |.d (.ar n k) x=>some ⟨n,k,x⟩
  |_=>none
 |v::r,off+1=>match Nat.ble v.sz (off+1)with
  |true=>om r (off+1-v.sz)
  |false=>none
theorem B2[YL]:∀{cs:List XV} {off:Nat} {a:j6},om cs off=some a->((XV.bz cs).drop off).take a.n=(a.x.l.map (DV.I a.k)).map .D/\off+a.n<=(XV.bz cs).length
 |[],_,_,h=>by cases h
 |v::r,0,a,h=>by
  unfold om at h;show((v.fc++XV.bz r).drop 0).take a.n=_/\0+a.n<=(v.fc++XV.bz r).length;split at h
  ·rename_i n k x;cases h;have hl:(XV.d (.ar n k) x).fc.length=n:=A8 _;rw[ε,hl];refine⟨?_,by show 0+n<=_;omega⟩;rw[aaB];show((XV.d (.ar n k) x).fc++XV.bz r).take n=_;rw[List.take_append_of_le_length (by omega),aav (by omega)];rfl
  ·cases h
 |v::r,off+1,a,h=>by
  unfold om at h;show((v.fc++XV.bz r).drop (off+1)).take a.n=_/\off+1+a.n<=(v.fc++XV.bz r).length;split at h
  ·rename_i hb;have hb:=abf hb;obtain⟨h1,h2⟩:=B2 h;have hl:=A8 v;rw[ε];refine⟨?_,by omega⟩;rw[acI,abv (as:=v.fc) (by omega),aa8,hl];exact h1
  ·cases h
theorem Th[YL]{a:j6}(h:om cs off=some a){j:Nat}{c:Int}(hc:a.x.l[j]?=some c):(XV.bz cs)[off+j]?=some (.D (.I a.k c)):=by obtain⟨h1,h2⟩:=B2 h;have hlt:=(υ.1 hc).1;rw[a.x.len]at hlt;have:=congrArg (fun l=>l[j]?) h1;simp only[List.getElem?_take_of_lt hlt,List.getElem?_drop,aac,hc]at this;exact this
def A0(cs:List XV)(off j:Nat)(K:XV->Option R):Option R:=match om cs off with
 |some a=>cr a.x.l j fun c=>K (.d (.i a.k) c)
 |none=>wb cs (off+j) K
theorem FN[YL]{j:Nat}{K:XV->Option R}{r:R}(h:A0 cs off j K=some r):∃v,(XV.bz cs)[off+j]?=some v.er/\K v=some r:=by
 unfold A0 at h;split at h
 ·rename_i a ha;obtain⟨c,hc,h⟩:=wm h;exact⟨.d (.i a.k) c,Th ha hc,h⟩
 ·exact yl h
def DP(s:XS)(ag:Option Nat)(K:XV->Option R):XV->Option R
 |.ptr h off=>match s.lk h with
  |some (.box cs)=>ug ag cs off K
  |_=>none
 |.ept h t ix off=>match s.lk h with
  |some (.row _ t' xs)=>match t'.beq t with
   |true=>cr xs ix fun x=>match ag with
    |none=>wb (jb t' x) off K
    |some n=>match aaa t'.n 1 with
     |true=>match aaa n 1&&aaa off 0 with
      |true=>K (.agg (jb t' x))
      |false=>none
     |false=>Cm K (ua (jb t' x) off n)
   |false=>none
  |_=>none
 |.apt h ix=>match s.lk h with
  |some (.arr _ n k x)=>match ag with
   |none=>cr x.l ix fun c=>K (.d (.i k) c)
   |some m=>match ix,aaa m n&&Nat.blt 0 n with
    |0,true=>K (.d (.ar n k) x)
    |ix,_=>az (ix+m<=n) (az (0<m) (K (.d (.ar m k) (x.part ix m))))
  |_=>none
 |.pa h off j=>match s.lk h,ag with
  |some (.box cs),none=>A0 cs off j K
  |_,_=>none
 |.epa h t ix off j=>match s.lk h,ag with
  |some (.row _ t' xs),none=>match t'.beq t with
   |true=>cr xs ix fun x=>A0 (jb t' x) off j K
   |false=>none
  |_,_=>none
 |.rpt h off=>match s.lk h with
  |some (.rb _ t x)=>match ag with
   |none=>wb (jb t x) off K
   |some n=>match Nat.blt 0 n with
    |true=>Cm K (ua (jb t x) off n)
    |false=>none
  |_=>none
 |.rpa h off j=>match s.lk h,ag with
  |some (.rb _ t x),none=>A0 (jb t x) off j K
  |_,_=>none
 |.rop t x off=>GV ag off K t x
 |_=>none
theorem DZ{l:List DV}{d:DV}(h:l[i]?=some d):(iq l)[i]?=some [d]:=by unfold iq;rw[aac,h];rfl
theorem Ho:∀l:List DV,(iq l).flatten=l
 |[]=>rfl
 |x::l=>by show[x]++(iq l).flatten=_;rw[Ho l];rfl
theorem Fj(l:List DV)(a n:Nat):((iq l).drop a).take n=iq ((l.drop a).take n):=by unfold iq;rw[aaz,aaI]
theorem Aw(l:List DV):(iq l).length=l.length:=κ _
theorem vF{l:List DV}{v:AV}(h:(l.map AV.D)[i]?=some v):∃x,l[i]?=some x/\v=.D x:=by
 rw[aac]at h;cases hx:l[i]?with
 |none=>rw[hx]at h;cases h
 |some x=>rw[hx]at h;cases h;exact⟨x,rfl,rfl⟩
theorem Dp(k:IntKind):∀l:List Int,(l.map (ib k)).flatten=l.map (DV.I k)
 |[]=>rfl
 |x::l=>by show[DV.I k x]++(l.map (ib k)).flatten=_;rw[Dp k l];rfl
def N6(ag:Option Nat)(off:Nat)(l:List AV)(v:AV):Prop:=match ag with
 |none=>l[off]?=some v
 |some n=>off+n<=l.length/\v=.agg ((l.drop off).take n)
theorem bEy[YL]{K:XV->Option R}{n:Nat}{x:bw n}{r:R}:∀{ag:Option Nat} {off:Nat},JS k K x ag off=some r->∃v,K v=some r/\N6 ag off ((x.l.map (DV.I k)).map AV.D) v.er
 |none,off,h=>by
  obtain⟨c,hc,h⟩:=wm h;exact⟨_,h,by show((x.l.map (DV.I k)).map AV.D)[off]?=_;rw[aac,aac,hc];rfl⟩
 |some m,0,h=>by
  have h:(match aaa m n with
   |true=>K (.d (.ar n k) x)
   |false=>none)=some r:=h
  split at h
  ·rename_i hb;obtain rfl:=θ hb;have hl:((x.l.map (DV.I k)).map AV.D).length=m:=by rw[κ,κ,x.len]
   refine⟨_,h,?_,?_⟩
   ·show 0+m<=((x.l.map (DV.I k)).map AV.D).length;rw[hl];omega
   ·show AV.agg ((x.l.map (DV.I k)).map AV.D)=.agg ((((x.l.map (DV.I k)).map AV.D).drop 0).take m);rw[aaB,aav (by omega)]
  ·cases h
 |some m,_+1,h=>by have h:none=some r:=h;cases h
theorem Qw[YL]{K:XV->Option R}{r:R}{x:t.T}(h:GV ag off K t x=some r):∃v,K v=some r/\N6 ag off ((t.ds x).map AV.D) v.er:=by
 cases t with
 |ar n k=>
  obtain⟨v,h1,h2⟩:=bEy h;exact⟨v,h1,h2⟩
 |_=>
  obtain⟨v,h1,h2⟩:=zw h;rw[eN]at h2;exact⟨v,h1,by cases ag<;>exact h2⟩
theorem Gg[YL]{s:XS}{K:XV->Option R}{r:R}(h:DP s ag K a=some r)(hK:∀v,K v=some r->KP v.er):rO s.er.lk ag KP a.er:=by
 unfold DP at h;split at h
 ·rename_i hd off;split at h
  ·rename_i cs hl;obtain⟨v,h1,h2⟩:=zw h;refine⟨XV.bz cs,by rw[aU,hl];rfl,?_⟩;cases ag with
   |none=>exact⟨_,h2,hK _ h1⟩
   |some n=>exact⟨h2.1,by rw[<-h2.2];exact hK _ h1⟩
  ·cases h
 ·rename_i hd t ix off;split at h
  ·rename_i mt t' xs hl;split at h
   ·rename_i hb;obtain rfl:=Ty.fg hb
    replace h:=wm h
    obtain⟨x,hx,h⟩:=h;refine⟨mt,xs.map t'.ds,t'.ds x,by rw[aU,hl];rfl,by rw[aac,hx];rfl,?_⟩;cases ag with
    |none=>
     obtain⟨v,h1,h2⟩:=yl h;rw[eN]at h1;obtain⟨d,h3,h4⟩:=vF h1;exact⟨d,h3,by rw[<-h4];exact hK _ h2⟩
    |some n=>
     show if t'.n=1 then _ else _
     simp only at h;split at h
     ·rename_i h1;have h1:=θ h1;rw[if_pos h1];split at h
      ·rename_i h2;rw[μ]at h2;obtain rfl:=θ h2.1;obtain rfl:=θ h2.2;have hlt:=(υ.1 hx).1;refine⟨rfl,by rw[κ];omega,?_⟩;have e:(((xs.map t'.ds).drop ix).take 1).flatten=t'.ds x:=by rw[List.take_one,List.head?_drop,aac,hx];simp
       rw[e];have:=hK _ h;simp only[XV.er,eN]at this;exact this
      ·cases h
     ·rename_i h1;rw[if_neg (fun e=>by rw[e]at h1;cases h1)];cases hc:ua (jb t' x) off n with
      |none=>rw[hc]at h;cases h
      |some l=>
       rw[hc]at h;obtain⟨h2,h3⟩:=Fo hc;rw[eN]at h2 h3;rw[κ]at h2;refine⟨h2,?_⟩;have:=hK _ h;simp only[XV.er,h3]at this;rw[aaz,aaI];exact this
   ·cases h
  ·cases h
 ·rename_i hd ix;split at h
  ·rename_i mt n k x hl;cases ag with
   |none=>
    obtain⟨c,hc,h⟩:=wm h;exact⟨mt,x.l.map (ib k),ib k c,by rw[aU,hl];rfl,by rw[aac,hc];rfl,.I k c,rfl,hK _ h⟩
   |some m=>
    simp only at h;split at h
    ·rename_i hb;rw[μ,adB]at hb;obtain rfl:=θ hb.1;have hlen:=x.len;obtain⟨c,hc⟩:∃c,x.l[0]?=some c:=⟨x.l[0]'(by omega),ν (by omega)⟩;refine⟨mt,x.l.map (ib k),ib k c,by rw[aU,hl];rfl,by rw[aac,hc];rfl,?_⟩;show if 1=1 then _ else _
     rw[if_pos rfl];refine⟨rfl,by rw[κ];omega,?_⟩;rw[aaB,aav (by rw[κ];omega),Dp];exact hK _ h
    ·rename_i ix _ _ _;obtain⟨h1,h⟩:=bB h;obtain⟨h2,h⟩:=bB h;have hlen:=x.len;obtain⟨c,hc⟩:∃c,x.l[ix]?=some c:=⟨x.l[ix]'(by omega),ν (by omega)⟩;refine⟨mt,x.l.map (ib k),ib k c,by rw[aU,hl];rfl,by rw[aac,hc];rfl,?_⟩;show if 1=1 then _ else _
     rw[if_pos rfl];refine⟨rfl,by rw[κ];omega,?_⟩;rw[<-aaI,<-aaz,Dp,<-bw.rq h1];exact hK _ h
  ·cases h
 ·rename_i hd off j;split at h
  ·rename_i cs hl;obtain⟨v,h1,h2⟩:=FN h;exact⟨XV.bz cs,by rw[aU,hl];rfl,_,h1,hK _ h2⟩
  ·cases h
 ·rename_i hd t ix off j;split at h
  ·rename_i mt t' xs hl;split at h
   ·rename_i hb;obtain rfl:=Ty.fg hb;obtain⟨x,hx,h⟩:=wm h;obtain⟨v,h1,h2⟩:=FN h;rw[eN]at h1;obtain⟨d,h3,h4⟩:=vF h1;exact⟨mt,xs.map t'.ds,t'.ds x,by rw[aU,hl];rfl,by rw[aac,hx];rfl,d,h3,by rw[<-h4];exact hK _ h2⟩
   ·cases h
  ·cases h
 ·rename_i hd off;split at h
  ·rename_i mt t x hl;cases ag with
   |none=>
    obtain⟨v,h1,h2⟩:=yl h;rw[eN]at h1;obtain⟨d,h3,h4⟩:=vF h1;exact⟨mt,iq (t.ds x),[d],by rw[aU,hl];rfl,DZ h3,d,rfl,by rw[<-h4];exact hK _ h2⟩
   |some n=>
    simp only at h;split at h
    rotate_left
    ·cases h
    rename_i h0;have h0:=abf h0;cases hc:ua (jb t x) off n with
    |none=>rw[hc]at h;cases h
    |some l=>
     rw[hc]at h;obtain⟨h2,h3⟩:=Fo hc;rw[eN]at h2 h3;rw[κ]at h2
     ·have hlt:off<(t.ds x).length:=by omega
      refine⟨mt,iq (t.ds x),[(t.ds x)[off]],by rw[aU,hl];rfl,DZ (ν hlt),?_⟩;show if(1:Nat)=1 then _ else _
      rw[if_pos rfl];refine⟨rfl,by rw[Aw];omega,?_⟩;rw[Fj,Ho];have:=hK _ h;simp only[XV.er,h3]at this;rw[aaz,aaI];exact this
  ·cases h
 ·rename_i hd off j;split at h
  ·rename_i mt t x hl;obtain⟨v,h1,h2⟩:=FN h;rw[eN]at h1;obtain⟨d,h3,h4⟩:=vF h1;exact⟨mt,iq (t.ds x),[d],by rw[aU,hl];rfl,DZ h3,d,rfl,by rw[<-h4];exact hK _ h2⟩
  ·cases h
 ·rename_i t x off;obtain⟨v,h1,h2⟩:=Qw h;simp only[XV.er];cases ag with
  |none=>
   obtain⟨d,h3,h4⟩:=vF h2;exact⟨d,by rw[<-h3];simp,by rw[<-h4];exact hK _ h1⟩
  |some n=>
   obtain⟨h3,h4⟩:=h2;rw[κ]at h3;refine⟨by rw[aat];omega,?_⟩;rw[aaz,aaI,<-h4];exact hK _ h1
 ·cases h
def qE(s:XS)(x:Option Operand)(dflt:Nat)(K:Nat->Option R):Option R:=match x with
 |none=>K dflt
 |some x=>match Ec x with
  |true=>match s.ev x with
   |.d (.i _) n=>az (0<=n) (K n.toNat)
   |_=>none
  |false=>none
theorem eM[YL]{s:XS}{x:Option Operand}{d:Nat}{K:Nat->Option R}{KP:Nat->Prop}{r:R}(h:qE s x d K=some r)(hK:∀v,K v=some r->KP v):gJ s.er.ev x d KP:=by
 unfold qE at h;split at h
 ·exact hK _ h
 ·rename_i x;split at h
  ·rename_i hx;split at h
   ·rename_i k n hn;obtain⟨h1,h⟩:=bB h;exact⟨k,n,by rw[ui s hx,hn];rfl,h1,hK _ h⟩
   ·cases h
  ·cases h
def yg(str:Bool):XV->Option Nat
 |.d (.sl _) xs=>match str with
  |false=>some xs.length
  |true=>none
 |.fl _ xs=>match str with
  |false=>some xs.length
  |true=>none
 |.fln _=>match str with
  |false=>some 0
  |true=>none
 |.nl _=>match str with
  |false=>some 0
  |true=>none
 |.sl _ _ _ len=>match str with
  |false=>some len
  |true=>none
 |.asl _ _ len=>match str with
  |false=>some len
  |true=>none
 |.rsl _ _ _ len=>match str with
  |false=>some len
  |true=>none
 |.slw _ _ len=>match str with
  |false=>some len
  |true=>none
 |.d .s t=>match str with
  |true=>some t.length
  |false=>none
 |_=>none
theorem GY[YL]{str:Bool}{m:Nat}(h:yg str v=some m):v.er.k6 str=some m:=by
 unfold yg at h;split at h<;>first|(cases h;done)|(split at h<;>first|(cases h;done)|skip)
 ·cases h;show some (List.length (List.map _ _))=_;rw[κ]
 ·cases h;show some (List.length (List.map _ _))=_;rw[κ]
 ·cases h;rfl
 ·cases h;rfl
 ·cases h;rfl
 ·cases h;rfl
 ·cases h;rfl
 ·cases h;rfl
 ·cases h;rfl
def uP(s:XS):XV->Bool
 |.ptr h _=>(s.lk h).isSome
 |.ept h _ _ _=>(s.lk h).isSome
 |.apt h _=>(s.lk h).isSome
 |.pa h _ _=>(s.lk h).isSome
 |.rpt h _=>(s.lk h).isSome
 |.rpa h _ _=>(s.lk h).isSome
 |.rsl h _ _ _=>(s.lk h).isSome
 |.epa h _ _ _ _=>(s.lk h).isSome
 |.sl h _ _ _=>(s.lk h).isSome
 |.asl h _ _=>(s.lk h).isSome
 |.slw h _ _=>(s.lk h).isSome
 |_=>true
theorem iV[YL]{s:XS}(h:uP s v=true):v.er.live s.er.lk=true:=by
 cases v with
 |d t x=>cases t<;>rfl
 |ptr hd off=>show(s.er.lk hd).isSome=true;rw[aU,abo];exact h
 |ept hd t ix off=>show(s.er.lk hd).isSome=true;rw[aU,abo];exact h
 |pa hd off j=>show(s.er.lk hd).isSome=true;rw[aU,abo];exact h
 |rpt hd off=>show(s.er.lk hd).isSome=true;rw[aU,abo];exact h
 |rpa hd off j=>show(s.er.lk hd).isSome=true;rw[aU,abo];exact h
 |rsl hd off l len=>show(s.er.lk hd).isSome=true;rw[aU,abo];exact h
 |epa hd t ix off j=>show(s.er.lk hd).isSome=true;rw[aU,abo];exact h
 |apt hd ix=>show(s.er.lk hd).isSome=true;rw[aU,abo];exact h
 |sl hd t off len=>show(s.er.lk hd).isSome=true;rw[aU,abo];exact h
 |slw hd t len=>show(s.er.lk hd).isSome=true;rw[aU,abo];exact h
 |asl hd off len=>show(s.er.lk hd).isSome=true;rw[aU,abo];exact h
 |_=>rfl
end
section
variable{R:Type}
def qb(l:List Int)(off len n:Nat):List Int:=match off,aaa len n with
 |0,true=>l
 |off,_=>(l.drop off).take len
theorem Co{l:List Int}{len n:Nat}(hl:l.length=n):qb l off len n=(l.drop off).take len:=by
 unfold qb;split
 ·rename_i hb;have hb:=θ hb;rw[aaB,aav (by omega)]
 ·rfl
theorem nE:∀{a b:List DV},a.map AV.D=b.map AV.D->a=b
 |[],[],_=>rfl
 |[],_::_,h=>by cases h
 |_::_,[],h=>by cases h
 |x::a,y::b,h=>by
  rw[aaM,aaM]at h;injection h with h1 h2
  injection h1 with h1
  rw[h1,nE h2]
theorem EP{x:t.T}{l len:Nat}{a:j6}(ha:om (jb t x) off=some a)(h:l+len<=a.n):off+l+len<=(iq (t.ds x)).length/\((iq (t.ds x)).drop (off+l)).take len=(qb a.x.l l len a.n).map (Ty.i a.k).ds:=by
 obtain⟨h1,h2⟩:=@B2 ⟨0⟩ _ _ _ ha;rw[@eN ⟨0⟩]at h1 h2;rw[κ]at h2;have e:((t.ds x).drop off).take a.n=a.x.l.map (DV.I a.k):=by rw[<-aaI,<-aaz]at h1;exact nE h1
 have hl:a.x.l.length=a.n:=a.x.len;refine⟨by rw[Aw];omega,?_⟩;rw[Fj,Co hl];have e2:((t.ds x).drop (off+l)).take len=((a.x.l.drop l).take len).map (DV.I a.k):=by rw[aaz,aaI,<-e,List.drop_take,List.drop_drop,List.take_take,Nat.min_eq_left (by omega)]
 rw[e2];show List.map _ (List.map _ _)=_;rw[List.map_map];rfl
def pP(s:XS)(t:Ty)(v:XV)(K:t.T->Option R):Option R:=match v with
 |.d t' x=>match t'.j1 t x with
  |some y=>K y
  |none=>none
 |.fl t' xs=>match(Ty.sl t').j1 t xs with
  |some y=>K y
  |none=>none
 |.fln _=>match t,K with
  |.sl _,K=>K []
  |.o _,K=>K []
  |_,_=>none
 |.nl _=>match t,K with
  |.sl _,K=>K []
  |.o _,K=>K []
  |_,_=>none
 |.slw h t' len=>match s.lk h with
  |some (.row _ t2 xs)=>match t2.beq t' with
   |true=>match(Ty.sl t2).j1 t xs with
    |some y=>aw len xs (K y)
    |none=>none
   |false=>none
  |_=>none
 |.sl h t' off len=>match s.lk h with
  |some (.row _ t2 xs)=>match t2.beq t' with
   |true=>match(Ty.sl t2).j1 t ((xs.drop off).take len)with
    |some y=>az (off+len<=xs.length) (K y)
    |none=>none
   |false=>none
  |_=>none
 |.asl h off len=>match s.lk h with
  |some (.arr _ n k x)=>match(Ty.sl (.i k)).j1 t (qb x.l off len n)with
   |some y=>az (off+len<=n) (K y)
   |none=>none
  |_=>none
 |.rsl h off l len=>match s.lk h with
  |some (.rb _ t' x)=>match om (jb t' x) off with
   |some a=>match(Ty.sl (.i a.k)).j1 t (qb a.x.l l len a.n)with
    |some y=>az (l+len<=a.n) (K y)
    |none=>none
   |none=>none
  |_=>none
 |_=>none
theorem zc[YL]{s:XS}(hφ:∀h b,s.lk h=some b->φ h=none){K:t.T->Option R}{r:R}(h:pP s t v K=some r):
  ∃x,K x=some r/\AV.bq s.er.lk φ v.fc=(t.ds x).map .D/\(nF t=true->AV.conv s.er.lk φ v.er=dA t x):=by
 have hc:∀(l:List DV),AV.bq s.er.lk φ (l.map .D)=l.map .D:=fun l=>by
  induction l with
  |nil=>rfl
  |cons x l ih=>show AV.conv _ _ (.D x)::AV.bq _ _ (l.map .D)=_;rw[ih];rfl
 unfold pP at h;split at h
 ·rename_i t' x;split at h
  ·rename_i y hy;obtain⟨e,rfl⟩:=Ty.cq hy;subst e;refine⟨x,h,hc _,fun hl=>?_⟩;cases t'<;>first|rfl|(cases hl;done)
  ·cases h
 ·rename_i t' xs;split at h
  ·rename_i y hy;obtain⟨e,rfl⟩:=Ty.cq hy;subst e;exact⟨xs,h,rfl,fun _=>rfl⟩
  ·cases h
 ·split at h
  ·exact⟨[],h,rfl,fun _=>rfl⟩
  ·exact⟨[],h,rfl,fun _=>rfl⟩
  ·cases h
 ·split at h
  ·exact⟨[],h,rfl,fun _=>rfl⟩
  ·exact⟨[],h,rfl,fun _=>rfl⟩
  ·cases h
 ·rename_i hd t' len;split at h
  ·rename_i mt t2 xs hl;split at h
   ·rename_i hb;obtain rfl:=Ty.fg hb;split at h
    ·rename_i y hy;obtain⟨e,rfl⟩:=Ty.cq hy;subst e
     replace h:=zh h
     obtain⟨rfl,h⟩:=h;have e:AV.conv s.er.lk φ (.sl hd t2.n 0 xs.length)=.D (.L (xs.map t2.ds)):=by unfold AV.conv;rw[hφ _ _ hl,aU,hl];show(if t2.n=t2.n/\0+xs.length<=(xs.map t2.ds).length then AV.D (.L (((xs.map t2.ds).drop 0).take xs.length))else .sc)=_;rw[if_pos ⟨rfl,by rw[κ];omega⟩,aaB,aav (by rw[κ];exact me _)]
     exact⟨xs,h,by show[AV.conv _ _ _]=_;rw[e];rfl,fun _=>e⟩
    ·cases h
   ·cases h
  ·cases h
 ·rename_i hd t' off len;split at h
  ·rename_i mt t2 xs hl;split at h
   ·rename_i hb;obtain rfl:=Ty.fg hb;split at h
    ·rename_i y hy;obtain⟨e,rfl⟩:=Ty.cq hy;subst e;obtain⟨h1,h⟩:=bB h;have e:AV.conv s.er.lk φ (.sl hd t2.n off len)=.D (.L (((xs.drop off).take len).map t2.ds)):=by unfold AV.conv;rw[hφ _ _ hl,aU,hl];show(if t2.n=t2.n/\off+len<=(xs.map t2.ds).length then AV.D (.L (((xs.map t2.ds).drop off).take len))else .sc)=_;rw[if_pos ⟨rfl,by rw[κ];exact h1⟩,aaz,aaI]
     exact⟨_,h,by show[AV.conv _ _ _]=_;rw[e];rfl,fun _=>e⟩
    ·cases h
   ·cases h
  ·cases h
 ·rename_i hd off len;split at h
  ·rename_i mt n k x hl;split at h
   ·rename_i y hy;obtain⟨e,rfl⟩:=Ty.cq hy;subst e;obtain⟨h1,h⟩:=bB h;have e:AV.conv s.er.lk φ (.sl hd 1 off len)=.D (.L ((qb x.l off len n).map (Ty.i k).ds)):=by unfold AV.conv;rw[hφ _ _ hl,aU,hl,Co x.len];show(if 1=1/\off+len<=(x.l.map (ib k)).length then AV.D (.L (((x.l.map (ib k)).drop off).take len))else .sc)=AV.D (.L (((x.l.drop off).take len).map (ib k)));rw[if_pos ⟨rfl,by rw[κ,x.len];exact h1⟩,aaz,aaI]
    exact⟨_,h,by show[AV.conv _ _ _]=_;rw[e];rfl,fun _=>e⟩
   ·cases h
  ·cases h
 ·rename_i hd off l len;split at h
  ·rename_i mt t2 x hl;split at h
   ·rename_i a ha;split at h
    ·rename_i y hy;obtain⟨e,rfl⟩:=Ty.cq hy;subst e;obtain⟨h1,h⟩:=bB h;obtain⟨c1,c2⟩:=EP ha h1;have e:AV.conv s.er.lk φ (.sl hd 1 (off+l) len)=.D (.L ((qb a.x.l l len a.n).map (Ty.i a.k).ds)):=by unfold AV.conv;rw[hφ _ _ hl,aU,hl];show(if 1=1/\off+l+len<=(iq (t2.ds x)).length then AV.D (.L (((iq (t2.ds x)).drop (off+l)).take len))else .sc)=_;rw[if_pos ⟨rfl,c1⟩,c2]
     exact⟨_,h,by show[AV.conv _ _ _]=_;rw[e];rfl,fun _=>e⟩
    ·cases h
   ·cases h
  ·cases h
 ·cases h
def yi(s:XS):(t:Ty)->List XV->(t.T->List XV->Option R)->Option R
 |.u,l,K=>K () l
 |.p a c,l,K=>yi s a l fun x l=>yi s c l fun y l=>K (x,y) l
 |.w a,l,K=>yi s a l K
 |.b,v::l,K=>pP s .b v fun x=>K x l
 |.i k,v::l,K=>pP s (.i k) v fun x=>K x l
 |.s,v::l,K=>pP s .s v fun x=>K x l
 |.ar n k,v::l,K=>pP s (.ar n k) v fun x=>K x l
 |.sl t,v::l,K=>pP s (.sl t) v fun x=>K x l
 |.o t,v::l,K=>pP s (.o t) v fun x=>K x l
 |_,[],_=>none
theorem vA(lk:bJ)(φ:Hd->Option Hd):∀(a c:List AV),AV.bq lk φ (a++c)=AV.bq lk φ a++AV.bq lk φ c
 |[],c=>rfl
 |x::a,c=>by show AV.conv lk φ x::AV.bq lk φ (a++c)=_;rw[vA lk φ a c];rfl
theorem BO[YL]{s:XS}{φ:Hd->Option Hd}(hφ:∀h b,s.lk h=some b->φ h=none){r:R}:∀{t:Ty} {l:List XV} {K:t.T->List XV->Option R},yi s t l K=some r->∃x l1 l2,l=l1++l2/\K x l2=some r/\AV.bq s.er.lk φ (XV.bz l1)=(t.ds x).map .D
 |.u,l,K,h=>⟨(),[],l,rfl,h,rfl⟩
 |.p a c,l,K,h=>by
  obtain⟨x,l1,l2,rfl,h,e1⟩:=BO hφ (t:=a) h;obtain⟨y,l3,l4,rfl,h,e2⟩:=BO hφ (t:=c) h;refine⟨(x,y),l1++l3,l4,by rw[π],h,?_⟩;rw[oV,vA,e1,e2,<-aaw];rfl
 |.w a,l,K,h=>BO hφ (t:=a) h
 |.b,v::l,K,h=>by
  obtain⟨x,h,e,_⟩:=zc hφ h;exact⟨x,[v],l,rfl,h,by show AV.bq _ _ (v.fc++[])=_;rw[aag];exact e⟩
 |.i k,v::l,K,h=>by
  obtain⟨x,h,e,_⟩:=zc hφ h;exact⟨x,[v],l,rfl,h,by show AV.bq _ _ (v.fc++[])=_;rw[aag];exact e⟩
 |.s,v::l,K,h=>by
  obtain⟨x,h,e,_⟩:=zc hφ h;exact⟨x,[v],l,rfl,h,by show AV.bq _ _ (v.fc++[])=_;rw[aag];exact e⟩
 |.ar n k,v::l,K,h=>by
  obtain⟨x,h,e,_⟩:=zc hφ h;exact⟨x,[v],l,rfl,h,by show AV.bq _ _ (v.fc++[])=_;rw[aag];exact e⟩
 |.sl t,v::l,K,h=>by
  obtain⟨x,h,e,_⟩:=zc hφ h;exact⟨x,[v],l,rfl,h,by show AV.bq _ _ (v.fc++[])=_;rw[aag];exact e⟩
 |.b,[],K,h=>by cases h
 |.i _,[],K,h=>by cases h
 |.s,[],K,h=>by cases h
 |.ar _ _,[],K,h=>by cases h
 |.sl _,[],K,h=>by cases h
 |.o t,v::l,K,h=>by
  obtain⟨x,h,e,_⟩:=zc hφ h;exact⟨x,[v],l,rfl,h,by show AV.bq _ _ (v.fc++[])=_;rw[aag];exact e⟩
 |.o _,[],K,h=>by cases h
theorem nL:∀{t:Ty} (x:t.T),nF t=false->dA t x=.agg ((t.ds x).map .D)
 |.u,_,_=>rfl
 |.p _ _,_,_=>rfl
 |.w _,_,_=>rfl
 |.ar _ _,_,_=>rfl
 |.b,_,h=>by cases h
 |.i _,_,h=>by cases h
 |.s,_,h=>by cases h
 |.sl _,_,h=>by cases h
 |.o _,_,h=>by cases h
theorem Bg(lk:bJ)(φ:Hd->Option Hd):∀l:List DV,AV.bq lk φ (l.map .D)=l.map .D
 |[]=>rfl
 |x::l=>by show AV.conv _ _ (.D x)::AV.bq _ _ (l.map .D)=_;rw[Bg lk φ l];rfl
theorem Wo(lk:bJ)(φ:Hd->Option Hd)(x:t.T):AV.conv lk φ (dA t x)=dA t x:=by
 cases hl:nF t with
 |true=>cases t<;>first|rfl|(cases hl;done)
 |false=>
  rw[nL x hl];show AV.agg (AV.bq lk φ _)=_;rw[Bg]
def sa(φ:Hd->Option Hd)(h:Hd)(f:Hd->XV)(K:XV->Option R):Option R:=match φ h with
 |some h'=>K (f h')
 |none=>K .sc
mutual
def tz(s:XS)(φ:Hd->Option Hd):XV->(XV->Option R)->Option R
 |.ptr h off,K=>sa φ h (.ptr · off) K
 |.ept h t ix off,K=>sa φ h (.ept · t ix off) K
 |.apt h ix,K=>sa φ h (.apt · ix) K
 |.pa h off j,K=>sa φ h (.pa · off j) K
 |.rpt h off,K=>sa φ h (.rpt · off) K
 |.rpa h off j,K=>sa φ h (.rpa · off j) K
 |.epa h t ix off j,K=>sa φ h (.epa · t ix off j) K
 |.mref h,K=>sa φ h .mref K
 |.itr hm h,K=>match φ hm,φ h with
  |some a,some c=>K (.itr a c)
  |_,_=>K .sc
 |.fl t xs,K=>K (.d (.sl t) xs)
 |.fln t,K=>K (.nl t)
 |.slw h t len,K=>match s.lk h with
  |some (.row _ t2 xs)=>match t2.beq t with
   |true=>match φ h with
    |some h'=>aw len xs (K (.slw h' t2 xs.length))
    |none=>aw len xs (K (.d (.sl t2) xs))
   |false=>none
  |_=>none
 |.sl h t off len,K=>match φ h with
  |some h'=>K (.sl h' t off len)
  |none=>match s.lk h with
   |some (.row _ t2 xs)=>match t2.beq t with
    |true=>az (off+len<=xs.length) (K (.d (.sl t2) ((xs.drop off).take len)))
    |false=>none
   |_=>none
 |.asl h off len,K=>match φ h with
  |some h'=>K (.asl h' off len)
  |none=>match s.lk h with
   |some (.arr _ n k x)=>az (off+len<=n) (K (.d (.sl (.i k)) (qb x.l off len n)))
   |_=>none
 |.rsl h off l len,K=>match φ h with
  |some h'=>K (.rsl h' off l len)
  |none=>match s.lk h with
   |some (.rb _ t x)=>match om (jb t x) off with
    |some a=>az (l+len<=a.n) (K (.d (.sl (.i a.k)) (qb a.x.l l len a.n)))
    |none=>none
   |_=>none
 |.agg cs,K=>yw s φ cs fun l=>K (.agg l)
 |.cn cs,K=>yw s φ cs fun l=>K (.cn l)
 |.clo f cs,K=>yw s φ cs fun l=>K (.clo f l)
 |.d t x,K=>K (.d t x)
 |.any,K=>K .any
 |.un,K=>K .un
 |.ab,K=>K .ab
 |.sc,K=>K .sc
 |.nl t,K=>K (.nl t)
 |.rop t x off,K=>K (.rop t x off)
 |.c v,K=>K (.c v)
 |.yld,K=>K .yld
 |.gst q,K=>K (.gst q)
def yw(s:XS)(φ:Hd->Option Hd):List XV->(List XV->Option R)->Option R
 |[],K=>K []
 |v::vs,K=>tz s φ v fun v'=>yw s φ vs fun l=>K (v'::l)
end
def mf(P:Hd->Nat->Prop):XV->Prop
 |.slw h _ n=>P h n
 |.agg cs=>ig P cs
 |.cn cs=>ig P cs
 |.clo _ cs=>ig P cs
 |_=>True
where ig (P:Hd->Nat->Prop):List XV->Prop
 |[]=>True
 |v::vs=>mf P v/\ig P vs
def r9(s:XS)(φ:Hd->Option Hd)(h':Hd)(n:Nat):Prop:=∃h mt t xs,φ h=some h'/\s.lk h=some (.row mt t xs)/\n=xs.length
def jz[YL](s:XS)(φ:Hd->Option Hd)(v v':XV):Prop:=AV.conv s.er.lk φ v.er=v'.er/\AV.bq s.er.lk φ v.fc=v'.fc/\mf (r9 s φ) v'
theorem jz.kb[YL]{s:XS}{v':XV}(h1:v.fc=[v.er])(h2:v'.fc=[v'.er])(h:AV.conv s.er.lk φ v.er=v'.er)(hp:mf (r9 s φ) v':=by exact trivial):jz s φ v v':=⟨h,by rw[h1,h2];show[AV.conv _ _ v.er]=_;rw[h],hp⟩
theorem u6[YL]{s:XS}{f:Hd->XV}{K:XV->Option R}{r:R}(hf:∀h,(f h).fc=[(f h).er])(hc:∀h',φ h=some h'->AV.conv s.er.lk φ (f h).er=(f h').er)(hn:φ h=none->AV.conv s.er.lk φ (f h).er=.sc)(q:sa φ h f K=some r)(hp:∀h,mf (r9 s φ) (f h):=by exact fun _=>trivial):
  ∃v',K v'=some r/\jz s φ (f h) v':=by
 unfold sa at q;split at q
 ·rename_i h' e;exact⟨_,q,.kb (hf _) (hf _) (hc _ e) (hp _)⟩
 ·rename_i e;exact⟨_,q,.kb (hf _) rfl (hn e)⟩
mutual
theorem Gi[YL]{s:XS}{φ:Hd->Option Hd}{r:R}:∀{v:XV} {K:XV->Option R},tz s φ v K=some r->∃v',K v'=some r/\jz s φ v v'
 |.ptr h off,K,q=>u6 (f:=(.ptr · off)) (fun _=>rfl) (fun h' e=>by show AV.conv _ _ (.ptr h off)=_;unfold AV.conv;rw[e];rfl) (fun e=>by show AV.conv _ _ (.ptr h off)=_;unfold AV.conv;rw[e]) q
 |.ept h t ix off,K,q=>u6 (f:=(.ept · t ix off)) (fun _=>rfl) (fun h' e=>by show AV.conv _ _ (.eptr h t.n ix off)=_;unfold AV.conv;rw[e];rfl) (fun e=>by show AV.conv _ _ (.eptr h t.n ix off)=_;unfold AV.conv;rw[e]) q
 |.apt h ix,K,q=>u6 (f:=(.apt · ix)) (fun _=>rfl) (fun h' e=>by show AV.conv _ _ (.eptr h 1 ix 0)=_;unfold AV.conv;rw[e];rfl) (fun e=>by show AV.conv _ _ (.eptr h 1 ix 0)=_;unfold AV.conv;rw[e]) q
 |.pa h off j,K,q=>u6 (f:=(.pa · off j)) (fun _=>rfl) (fun h' e=>by show AV.conv _ _ (.ptr h (off+j))=_;unfold AV.conv;rw[e];rfl) (fun e=>by show AV.conv _ _ (.ptr h (off+j))=_;unfold AV.conv;rw[e]) q
 |.rpt h off,K,q=>u6 (f:=(.rpt · off)) (fun _=>rfl) (fun h' e=>by show AV.conv _ _ (.eptr h 1 off 0)=_;unfold AV.conv;rw[e];rfl) (fun e=>by show AV.conv _ _ (.eptr h 1 off 0)=_;unfold AV.conv;rw[e]) q
 |.rpa h off j,K,q=>u6 (f:=(.rpa · off j)) (fun _=>rfl) (fun h' e=>by show AV.conv _ _ (.eptr h 1 (off+j) 0)=_;unfold AV.conv;rw[e];rfl) (fun e=>by show AV.conv _ _ (.eptr h 1 (off+j) 0)=_;unfold AV.conv;rw[e]) q
 |.epa h t ix off j,K,q=>u6 (f:=(.epa · t ix off j)) (fun _=>rfl) (fun h' e=>by show AV.conv _ _ (.eptr h t.n ix (off+j))=_;unfold AV.conv;rw[e];rfl) (fun e=>by show AV.conv _ _ (.eptr h t.n ix (off+j))=_;unfold AV.conv;rw[e]) q
 |.mref h,K,q=>u6 (f:=.mref) (fun _=>rfl) (fun h' e=>by show AV.conv _ _ (.mref h)=_;unfold AV.conv;rw[e];rfl) (fun e=>by show AV.conv _ _ (.mref h)=_;unfold AV.conv;rw[e]) q
 |.itr hm h,K,q=>by
  unfold tz at q;split at q
  ·rename_i a c e1 e2;exact⟨_,q,.kb rfl rfl (by show AV.conv _ _ (.itr hm h)=_;unfold AV.conv;rw[e1,e2];rfl)⟩
  ·rename_i e;refine⟨_,q,.kb rfl rfl ?_⟩;show AV.conv _ _ (.itr hm h)=_;unfold AV.conv;split
   ·rename_i e1 e2;exact(e _ _ e1 e2).elim
   ·rfl
 |.fl t xs,K,q=>⟨_,q,.kb rfl rfl rfl⟩
 |.fln t,K,q=>⟨_,q,.kb rfl rfl rfl⟩
 |.slw h t len,K,q=>by
  unfold tz at q;split at q
  ·rename_i mt t2 xs hl;split at q
   ·rename_i hb;obtain rfl:=Ty.fg hb;split at q
    ·rename_i h' e
     replace q:=zh q;obtain⟨rfl,q⟩:=q
     exact⟨_,q,.kb rfl rfl (by show AV.conv _ _ (.sl h t2.n 0 xs.length)=_;unfold AV.conv;rw[e];rfl) ⟨h,mt,t2,xs,e,hl,rfl⟩⟩
    ·rename_i e
     replace q:=zh q;obtain⟨rfl,q⟩:=q
     refine⟨_,q,.kb rfl rfl ?_⟩;show AV.conv _ _ (.sl h t2.n 0 xs.length)=.D (.L (xs.map t2.ds));unfold AV.conv;rw[e,aU,hl];show(if t2.n=t2.n/\0+xs.length<=(xs.map t2.ds).length then AV.D (.L (((xs.map t2.ds).drop 0).take xs.length))else .sc)=_;rw[if_pos ⟨rfl,by rw[κ];omega⟩,aaB,aav (by rw[κ];exact me _)]
   ·cases q
  ·cases q
 |.sl h t off len,K,q=>by
  unfold tz at q;split at q
  ·rename_i h' e;exact⟨_,q,.kb rfl rfl (by show AV.conv _ _ (.sl h t.n off len)=_;unfold AV.conv;rw[e];rfl)⟩
  ·rename_i e;split at q
   ·rename_i mt t2 xs hl;split at q
    ·rename_i hb;obtain rfl:=Ty.fg hb;obtain⟨h1,q⟩:=bB q;refine⟨_,q,.kb rfl rfl ?_⟩;show AV.conv _ _ (.sl h t2.n off len)=.D (.L (((xs.drop off).take len).map t2.ds));unfold AV.conv;rw[e,aU,hl];show(if t2.n=t2.n/\off+len<=(xs.map t2.ds).length then AV.D (.L (((xs.map t2.ds).drop off).take len))else .sc)=_;rw[if_pos ⟨rfl,by rw[κ];exact h1⟩,aaz,aaI]
    ·cases q
   ·cases q
 |.asl h off len,K,q=>by
  unfold tz at q;split at q
  ·rename_i h' e;exact⟨_,q,.kb rfl rfl (by show AV.conv _ _ (.sl h 1 off len)=_;unfold AV.conv;rw[e];rfl)⟩
  ·rename_i e;split at q
   ·rename_i mt n k x hl;obtain⟨h1,q⟩:=bB q;refine⟨_,q,.kb rfl rfl ?_⟩;show AV.conv _ _ (.sl h 1 off len)=.D (.L ((qb x.l off len n).map (Ty.i k).ds));unfold AV.conv;rw[e,aU,hl,Co x.len];show(if 1=1/\off+len<=(x.l.map (ib k)).length then AV.D (.L (((x.l.map (ib k)).drop off).take len))else .sc)=AV.D (.L (((x.l.drop off).take len).map (ib k)));rw[if_pos ⟨rfl,by rw[κ,x.len];exact h1⟩,aaz,aaI]
   ·cases q
 |.rsl h off l len,K,q=>by
  unfold tz at q;split at q
  ·rename_i h' e;exact⟨_,q,.kb rfl rfl (by show AV.conv _ _ (.sl h 1 (off+l) len)=_;unfold AV.conv;rw[e];rfl)⟩
  ·rename_i e;split at q
   ·rename_i mt t x hl;split at q
    ·rename_i a ha;obtain⟨h1,q⟩:=bB q;obtain⟨c1,c2⟩:=EP ha h1;refine⟨_,q,.kb rfl rfl ?_⟩;show AV.conv _ _ (.sl h 1 (off+l) len)=.D (.L ((qb a.x.l l len a.n).map (Ty.i a.k).ds));unfold AV.conv;rw[e,aU,hl];show(if 1=1/\off+l+len<=(iq (t.ds x)).length then AV.D (.L (((iq (t.ds x)).drop (off+l)).take len))else .sc)=_;rw[if_pos ⟨rfl,c1⟩,c2]
    ·cases q
   ·cases q
 |.agg cs,K,q=>by
  obtain⟨l,q,e1,e2,e3⟩:=B5 (vs:=cs) q;exact⟨_,q,congrArg AV.agg e2,e2,e3⟩
 |.cn cs,K,q=>by
  obtain⟨l,q,e1,e2,e3⟩:=B5 (vs:=cs) q;exact⟨_,q,.kb rfl rfl (congrArg AV.cn e1) e3⟩
 |.clo f cs,K,q=>by
  obtain⟨l,q,e1,e2,e3⟩:=B5 (vs:=cs) q;exact⟨_,q,.kb rfl rfl (congrArg (AV.clo f) e1) e3⟩
 |.d t x,K,q=>⟨_,q,Wo _ _ _,Bg _ _ _,trivial⟩
 |.any,K,q=>⟨_,q,.kb rfl rfl rfl⟩
 |.un,K,q=>⟨_,q,.kb rfl rfl rfl⟩
 |.ab,K,q=>⟨_,q,.kb rfl rfl rfl⟩
 |.sc,K,q=>⟨_,q,.kb rfl rfl rfl⟩
 |.nl t,K,q=>⟨_,q,.kb rfl rfl rfl⟩
 |.rop t x off,K,q=>⟨_,q,.kb rfl rfl rfl⟩
 |.c v,K,q=>⟨_,q,.kb rfl rfl rfl⟩
 |.yld,K,q=>⟨_,q,.kb rfl rfl rfl⟩
 |.gst _,K,q=>⟨_,q,.kb rfl rfl rfl⟩
theorem B5[YL]{s:XS}{φ:Hd->Option Hd}{r:R}:∀{vs:List XV} {K:List XV->Option R},yw s φ vs K=some r->∃vs',K vs'=some r/\AV.bq s.er.lk φ (XV.cz vs)=XV.cz vs'/\AV.bq s.er.lk φ (XV.bz vs)=XV.bz vs'/\mf.ig (r9 s φ) vs'
 |[],K,q=>⟨[],q,rfl,rfl,trivial⟩
 |v::vs,K,q=>by
  obtain⟨v',q,e1,e2,e5⟩:=Gi (v:=v) q;obtain⟨l,q,e3,e4,e6⟩:=B5 (vs:=vs) q;refine⟨_,q,?_,?_,e5,e6⟩
  ·show AV.conv _ _ v.er::AV.bq _ _ (XV.cz vs)=v'.er::XV.cz l;rw[e1,e3]
  ·show AV.bq _ _ (v.fc++XV.bz vs)=v'.fc++XV.bz l;rw[vA,e2,e4]
end
end
section
variable{R:Type}
mutual
def XV.cg(ψ:Hd->Hd):XV->XV
 |.ptr h off=>.ptr (ψ h) off
 |.ept h t ix off=>.ept (ψ h) t ix off
 |.apt h ix=>.apt (ψ h) ix
 |.pa h off j=>.pa (ψ h) off j
 |.epa h t ix off j=>.epa (ψ h) t ix off j
 |.sl h t off len=>.sl (ψ h) t off len
 |.slw h t len=>.slw (ψ h) t len
 |.asl h off len=>.asl (ψ h) off len
 |.rpt h off=>.rpt (ψ h) off
 |.rpa h off j=>.rpa (ψ h) off j
 |.rsl h off l len=>.rsl (ψ h) off l len
 |.mref h=>.mref (ψ h)
 |.itr hm h=>.itr (ψ hm) (ψ h)
 |.agg cs=>.agg (XV.dh ψ cs)
 |.cn cs=>.cn (XV.dh ψ cs)
 |.clo f cs=>.clo f (XV.dh ψ cs)
 |.d t x=>.d t x
 |.any=>.any
 |.un=>.un
 |.ab=>.ab
 |.sc=>.sc
 |.rop t x off=>.rop t x off
 |.fl t xs=>.fl t xs
 |.fln t=>.fln t
 |.nl t=>.nl t
 |.c v=>.c v
 |.yld=>.yld
 |.gst q=>.gst q
def XV.dh(ψ:Hd->Hd):List XV->List XV
 |[]=>[]
 |v::vs=>XV.cg ψ v::XV.dh ψ vs
end
theorem I9(ψ:Hd->Hd):∀l:List DV,AV.dh ψ (l.map .D)=l.map .D
 |[]=>rfl
 |x::l=>by show AV.cg ψ (.D x)::AV.dh ψ (l.map .D)=_;rw[I9 ψ l];rfl
theorem O9(ψ:Hd->Hd):∀a c:List AV,AV.dh ψ (a++c)=AV.dh ψ a++AV.dh ψ c
 |[],_=>rfl
 |x::a,c=>by show AV.cg ψ x::AV.dh ψ (a++c)=_;rw[O9 ψ a c];rfl
theorem Tv(ψ:Hd->Hd)(x:t.T):AV.cg ψ (dA t x)=dA t x:=by
 cases hl:nF t with
 |true=>cases t<;>first|rfl|(cases hl;done)
 |false=>
  rw[nL x hl];show AV.agg (AV.dh ψ _)=_;rw[I9]
mutual
theorem DI[YL](ψ:Hd->Hd):∀v:XV,(v.cg ψ).er=AV.cg ψ v.er
 |.d t x=>(Tv ψ x).symm
 |.agg cs=>congrArg AV.agg (Ex ψ cs)
 |.cn cs=>congrArg AV.cn (Bn ψ cs)
 |.clo f cs=>congrArg (AV.clo f) (Bn ψ cs)
 |.ptr _ _=>rfl
 |.ept _ _ _ _=>rfl
 |.apt _ _=>rfl
 |.pa _ _ _=>rfl
 |.epa _ _ _ _ _=>rfl
 |.sl _ _ _ _=>rfl
 |.slw _ _ _=>rfl
 |.asl _ _ _=>rfl
 |.rpt _ _=>rfl
 |.rpa _ _ _=>rfl
 |.rsl _ _ _ _=>rfl
 |.mref _=>rfl
 |.itr _ _=>rfl
 |.any=>rfl
 |.un=>rfl
 |.ab=>rfl
 |.sc=>rfl
 |.rop _ _ _=>rfl
 |.fl _ _=>rfl
 |.fln _=>rfl
 |.nl _=>rfl
 |.c _=>rfl
 |.yld=>rfl
 |.gst _=>rfl
theorem ZE[YL](ψ:Hd->Hd):∀v:XV,(v.cg ψ).fc=AV.dh ψ v.fc
 |.d t x=>(I9 ψ _).symm
 |.agg cs=>Ex ψ cs
 |.cn cs=>congrArg (fun l=>[AV.cn l]) (Bn ψ cs)
 |.clo f cs=>congrArg (fun l=>[AV.clo f l]) (Bn ψ cs)
 |.ptr _ _=>rfl
 |.ept _ _ _ _=>rfl
 |.apt _ _=>rfl
 |.pa _ _ _=>rfl
 |.epa _ _ _ _ _=>rfl
 |.sl _ _ _ _=>rfl
 |.slw _ _ _=>rfl
 |.asl _ _ _=>rfl
 |.rpt _ _=>rfl
 |.rpa _ _ _=>rfl
 |.rsl _ _ _ _=>rfl
 |.mref _=>rfl
 |.itr _ _=>rfl
 |.any=>rfl
 |.un=>rfl
 |.ab=>rfl
 |.sc=>rfl
 |.rop _ _ _=>rfl
 |.fl _ _=>rfl
 |.fln _=>rfl
 |.nl _=>rfl
 |.c _=>rfl
 |.yld=>rfl
 |.gst _=>rfl
theorem Bn[YL](ψ:Hd->Hd):∀vs:List XV,XV.cz (XV.dh ψ vs)=AV.dh ψ (XV.cz vs)
 |[]=>rfl
 |v::vs=>by show(v.cg ψ).er::XV.cz (XV.dh ψ vs)=AV.cg ψ v.er::AV.dh ψ (XV.cz vs);rw[DI ψ v,Bn ψ vs]
theorem Ex[YL](ψ:Hd->Hd):∀vs:List XV,XV.bz (XV.dh ψ vs)=AV.dh ψ (XV.bz vs)
 |[]=>rfl
 |v::vs=>by show(v.cg ψ).fc++XV.bz (XV.dh ψ vs)=AV.dh ψ (v.fc++XV.bz vs);rw[O9,ZE ψ v,Ex ψ vs]
end
def XB.cg(ψ:Hd->Hd):XB->XB
 |.box cs=>.box (XV.dh ψ cs)
 |.row mt t xs=>.row mt t xs
 |.rb mt t x=>.rb mt t x
 |.arr mt n k x=>.arr mt n k x
 |.mp wr K V es hole i=>.mp wr K V es hole (match i with
  |some (h,q)=>some (ψ h,q)
  |none=>none)
 |.it=>.it
 |.sb T us xs=>.sb T us xs
theorem GO[YL](ψ:Hd->Hd):∀b:XB,(b.cg ψ).er=bn.cg ψ b.er
 |.box cs=>congrArg bn.box (Ex ψ cs)
 |.row _ _ _=>rfl
 |.rb _ _ _=>rfl
 |.arr _ _ _ _=>rfl
 |.mp wr K V es hole none=>by cases wr<;>rfl
 |.mp wr K V es hole (some (h,cur,rem))=>by cases wr<;>rfl
 |.it=>rfl
 |.sb _ _ _=>rfl
def vv(t:Ty):List XV->Option (t.T×List XV)
 |.d t' x::l=>match t'.j1 t x with
  |some y=>some (y,l)
  |none=>none
 |.nl _::l=>match t with
  |.sl _=>some ([],l)
  |.o _=>some ([],l)
  |_=>none
 |_=>none
theorem Ak[YL]{x:t.T}(h:vv t l=some (x,l2)):∃v,l=v::l2/\v.fc=(t.ds x).map .D:=by
 unfold vv at h;split at h
 ·split at h
  ·rename_i y hy;obtain⟨e,rfl⟩:=Ty.cq hy;subst e;cases h;exact⟨_,rfl,rfl⟩
  ·cases h
 ·split at h
  ·cases h;exact⟨_,rfl,rfl⟩
  ·cases h;exact⟨_,rfl,rfl⟩
  ·cases h
 ·cases h
def o0:(t:Ty)->List XV->Option (t.T×List XV)
 |.u,l=>some ((),l)
 |.p a c,l=>match o0 a l with
  |some (x,l)=>match o0 c l with
   |some (y,l)=>some ((x,y),l)
   |none=>none
  |none=>none
 |.w a,l=>o0 a l
 |.b,l=>vv .b l
 |.i k,l=>vv (.i k) l
 |.s,l=>vv .s l
 |.ar n k,l=>vv (.ar n k) l
 |.sl t,l=>vv (.sl t) l
 |.o t,l=>vv (.o t) l
theorem zg[YL]{x:t.T}:(∃v:XV,l=v::l2/\v.fc=(t.ds x).map .D)->∃l1,l=l1++l2/\XV.bz l1=(t.ds x).map .D
 |⟨v,h1,h2⟩=>⟨[v],h1,by show v.fc++[]=_;rw[aag,h2]⟩
theorem pT[YL]:∀{t:Ty} {l l2:List XV} {x:t.T},o0 t l=some (x,l2)->∃l1,l=l1++l2/\XV.bz l1=(t.ds x).map .D
 |.u,l,l2,x,h=>by cases h;exact⟨[],rfl,rfl⟩
 |.p a c,l,l2,x,h=>by
  unfold o0 at h;split at h
  ·rename_i x1 l1 h1;split at h
   ·rename_i y1 l3 h3;cases h;obtain⟨a1,rfl,e1⟩:=pT h1;obtain⟨a2,rfl,e2⟩:=pT h3;exact⟨a1++a2,by rw[π],by rw[oV,e1,e2,<-aaw];rfl⟩
   ·cases h
  ·cases h
 |.w a,l,l2,x,h=>pT (t:=a) h
 |.b,l,l2,x,h=>zg (Ak (t:=.b) h)
 |.i k,l,l2,x,h=>zg (Ak (t:=.i k) h)
 |.s,l,l2,x,h=>zg (Ak (t:=.s) h)
 |.ar n k,l,l2,x,h=>zg (Ak (t:=.ar n k) h)
 |.sl t,l,l2,x,h=>zg (Ak (t:=.sl t) h)
 |.o t,l,l2,x,h=>zg (Ak (t:=.o t) h)
@[reducible] def cn:List Ty->Type
 |[]=>Unit
 |t::ts=>t.T×cn ts
@[reducible] def qo:List Ty->Type
 |[]=>Unit
 |[t]=>t.T
 |t::ts=>t.T×qo ts
@[reducible] def ke:List Ty->Type->Type
 |[],R=>Option R
 |.u::ts,R=>Unit->ke ts R
 |.b::ts,R=>Bool->ke ts R
 |.i _::ts,R=>Int->ke ts R
 |.s::ts,R=>cc->ke ts R
 |.p x y::ts,R=>x.T×y.T->ke ts R
 |.w x::ts,R=>x.T->ke ts R
 |.ar n _::ts,R=>bw n->ke ts R
 |.sl t::ts,R=>List t.T->ke ts R
 |.o t::ts,R=>List t.T->ke ts R
def iz{R:Type}:(ts:List Ty)->ke ts R->cn ts->Option R
 |[],f,_=>f
 |.u::ts,f,a=>iz ts (f a.1) a.2
 |.b::ts,f,a=>iz ts (f a.1) a.2
 |.i _::ts,f,a=>iz ts (f a.1) a.2
 |.s::ts,f,a=>iz ts (f a.1) a.2
 |.p _ _::ts,f,a=>iz ts (f a.1) a.2
 |.w _::ts,f,a=>iz ts (f a.1) a.2
 |.ar _ _::ts,f,a=>iz ts (f a.1) a.2
 |.sl _::ts,f,a=>iz ts (f a.1) a.2
 |.o _::ts,f,a=>iz ts (f a.1) a.2
def kj{R:Type}:(ts:List Ty)->(cn ts->Option R)->ke ts R
 |[],f=>f ()
 |.u::ts,f=>fun x=>kj ts fun y=>f (x,y)
 |.b::ts,f=>fun x=>kj ts fun y=>f (x,y)
 |.i _::ts,f=>fun x=>kj ts fun y=>f (x,y)
 |.s::ts,f=>fun x=>kj ts fun y=>f (x,y)
 |.p _ _::ts,f=>fun x=>kj ts fun y=>f (x,y)
 |.w _::ts,f=>fun x=>kj ts fun y=>f (x,y)
 |.ar _ _::ts,f=>fun x=>kj ts fun y=>f (x,y)
 |.sl _::ts,f=>fun x=>kj ts fun y=>f (x,y)
 |.o _::ts,f=>fun x=>kj ts fun y=>f (x,y)
theorem fH{R:Type}:∀(ts:List Ty) (f:cn ts->Option R) (a:cn ts),iz ts (kj ts f) a=f a
 |[],f,()=>rfl
 |.u::ts,f,a=>fH ts (fun y=>f (a.1,y)) a.2
 |.b::ts,f,a=>fH ts (fun y=>f (a.1,y)) a.2
 |.i _::ts,f,a=>fH ts (fun y=>f (a.1,y)) a.2
 |.s::ts,f,a=>fH ts (fun y=>f (a.1,y)) a.2
 |.p _ _::ts,f,a=>fH ts (fun y=>f (a.1,y)) a.2
 |.w _::ts,f,a=>fH ts (fun y=>f (a.1,y)) a.2
 |.ar _ _::ts,f,a=>fH ts (fun y=>f (a.1,y)) a.2
 |.sl _::ts,f,a=>fH ts (fun y=>f (a.1,y)) a.2
 |.o _::ts,f,a=>fH ts (fun y=>f (a.1,y)) a.2
def ln:(ts:List Ty)->cn ts->qo ts
 |[],_=>()
 |[_],a=>a.1
 |_::t2::ts,a=>(a.1,ln (t2::ts) a.2)
def nc:(ts:List Ty)->qo ts->cn ts
 |[],_=>()
 |[_],a=>(a,())
 |_::t2::ts,a=>(a.1,nc (t2::ts) a.2)
theorem vU:∀(ts:List Ty) (a:cn ts),nc ts (ln ts a)=a
 |[],()=>rfl
 |[_],(_,())=>rfl
 |_::t2::ts,a=>by show(a.1,nc (t2::ts) (ln (t2::ts) a.2))=a;rw[vU]
abbrev DS:=Sigma Ty.T
def yn:(ts:List Ty)->cn ts->List DS
 |[],_=>[]
 |t::ts,v=>⟨t,v.1⟩::yn ts v.2
def u3:(ts:List Ty)->List DS->Option (cn ts)
 |[],[]=>some ()
 |t::ts,p::l=>match p.1.j1 t p.2,u3 ts l with
  |some y,some v=>some (y,v)
  |_,_=>none
 |_,_=>none
theorem IG:∀{ts:List Ty} {l:List DS} {v:cn ts},u3 ts l=some v->yn ts v=l
 |[],[],_,h=>rfl
 |t::ts,p::l,v,h=>by
  unfold u3 at h;split at h
  ·rename_i y v' h1 h2;cases h;obtain⟨e,rfl⟩:=Ty.cq h1;obtain⟨t',x⟩:=p;have e:t'=t:=e;subst e;show(⟨t',x⟩:DS)::yn ts v'=_;rw[IG h2]
  ·cases h
 |[],_::_,_,h=>by cases h
 |_::_,[],_,h=>by cases h
def s8(t:Ty)(x:t.T):XV:=match t,x with
 |.w a,x=>.agg (jb (.w a) x)
 |.p a c,x=>.agg (jb (.p a c) x)
 |.u,_=>.agg []
 |t,x=>.d t x
theorem DN[YL](t:Ty)(x:t.T):(s8 t x).er=dA t x:=by cases t<;>first|rfl|(show AV.agg (XV.bz (jb _ x))=_;rw[eN];rfl)
theorem O5[YL](t:Ty)(x:t.T):(s8 t x).fc=(t.ds x).map .D:=by cases t<;>first|rfl|(show XV.bz (jb _ x)=_;rw[eN])
def DS.nat:DS->Nat
 |⟨.i _,n⟩=>n.toNat
 |_=>0
mutual
def XV.cj:XV->List Ty
 |.d t _=>[t]
 |.sl _ _ _ _=>[.i .i64,.i .i64]
 |.agg cs=>XV.px cs
 |.clo _ cs=>XV.px cs
 |_=>[]
def XV.px:List XV->List Ty
 |[]=>[]
 |v::vs=>v.cj++XV.px vs
end
mutual
def XV.lf(len:Hd->Nat):XV->List DS->XV×List DS
 |.d t x,l=>match l with
  |p::l=>(s8 p.1 p.2,l)
  |[]=>(.d t x,[])
 |.slw h t _,l=>(.slw h t (len h),l)
 |.sl h t o n,l=>match l with
  |p::q::l=>(.sl h t p.nat q.nat,l)
  |l=>(.sl h t o n,l)
 |.agg cs,l=>(.agg (XV.kc len cs l).1,(XV.kc len cs l).2)
 |.clo f cs,l=>(.clo f (XV.kc len cs l).1,(XV.kc len cs l).2)
 |v,l=>(v,l)
def XV.kc(len:Hd->Nat):List XV->List DS->List XV×List DS
 |[],l=>([],l)
 |v::vs,l=>((XV.lf len v l).1::(XV.kc len vs (XV.lf len v l).2).1,(XV.kc len vs (XV.lf len v l).2).2)
end
def bQz(mt:Bool)(t:Ty):DS->XB
 |⟨.sl t',xs⟩=>.row mt t' xs
 |_=>.row mt t []
def Z6(mt:Bool)(n:Nat)(k:IntKind):DS->XB
 |⟨.ar n' k',x⟩=>.arr mt n' k' x
 |_=>.arr mt n k (bw.zero n)
def EW(wr:Bool)(K V:Ty):DS->XB
 |⟨.sl (.p K' V'),es⟩=>.mp wr K' V' es none none
 |_=>.mp wr K V [] none none
def IH(h:Hd):XB->DS->XB
 |.mp wr K V es hole _,⟨.sl K',rem⟩=>match(Ty.sl K').j1 (.sl K) rem with
  |some rem=>.mp wr K V es hole (some (h,none,rem))
  |none=>.mp wr K V es hole none
 |b,_=>b
def Gk(T:TypeId×TypeId):DS->DS->XB
 |⟨.b,us⟩,⟨.sl t,xs⟩=>match(Ty.sl t).j1 (.sl (.i .u8)) xs with
  |some ys=>.sb T us ys
  |none=>.sb T us []
 |_,_=>.sb T false []
def XB.cj:XB->List Ty
 |.box cs=>XV.px cs
 |.row _ t _=>[.sl t]
 |.rb _ t _=>[t]
 |.arr _ n k _=>[.ar n k]
 |.mp _ K V _ _ none=>[.sl (.p K V)]
 |.mp _ K V _ _ (some _)=>[.sl (.p K V),.sl K]
 |.it=>[]
 |.sb _ _ _=>[.b,.sl (.i .u8)]
def XB.lf(len:Hd->Nat):XB->List DS->XB×List DS
 |.box cs,l=>(.box (XV.kc len cs l).1,(XV.kc len cs l).2)
 |.row mt t xs,p::l=>(bQz mt t p,l)
 |.rb mt _ _,p::l=>(.rb mt p.1 p.2,l)
 |.arr mt n k x,p::l=>(Z6 mt n k p,l)
 |.sb T _ _,p::q::l=>(Gk T p q,l)
 |.mp wr K V _ _ none,p::l=>(EW wr K V p,l)
 |.mp wr K V _ _ (some (h,_)),p::q::l=>(IH h (EW wr K V p) q,l)
 |b,l=>(b,l)
def vk:List (Option XB)->List Ty
 |[]=>[]
 |some b::r=>b.cj++vk r
 |none::r=>vk r
def rX(len:Hd->Nat):List (Option XB)->List DS->List (Option XB)×List DS
 |[],l=>([],l)
 |some b::r,l=>(some (b.lf len l).1::(rX len r (b.lf len l).2).1,(rX len r (b.lf len l).2).2)
 |none::r,l=>(none::(rX len r l).1,(rX len r l).2)
def xe:List (Nat×XV)->List Ty
 |[]=>[]
 |(_,v)::r=>v.cj++xe r
def pf(len:Hd->Nat):List (Nat×XV)->List DS->List (Nat×XV)×List DS
 |[],l=>([],l)
 |(n,v)::r,l=>((n,(v.lf len l).1)::(pf len r (v.lf len l).2).1,(pf len r (v.lf len l).2).2)
def XS.cj(m:XS):List Ty:=xe m.env++(vk m.bs++vk m.own)
def XB.j3:XB->Nat
 |.row _ _ xs=>xs.length
 |_=>0
def DS.j3:DS->Nat
 |⟨.sl _,xs⟩=>xs.length
 |_=>0
def pH:List (Option XB)->List DS->List Nat
 |[],_=>[]
 |none::r,l=>0::pH r l
 |some (.row _ _ _)::r,l=>(match l with
  |p::_=>DS.j3 p
  |[]=>0)::pH r (l.drop 1)
 |some b::r,l=>0::pH r (l.drop b.cj.length)
def An:List Nat->Nat->Nat
 |[],_=>0
 |x::_,0=>x
 |_::l,i+1=>An l i
def H8(lb lo:List Nat):Hd->Nat
 |.B i=>An lb i
 |.O i=>An lo i
def XS.lf(m:XS)(l:List DS):XS:=
 let l0:=l.drop (xe m.env).length;let len:=H8 (pH m.bs l0) (pH m.own (l0.drop (vk m.bs).length));let e:=pf len m.env l;let b:=rX len m.bs e.2
 {env:=e.1,bs:=b.1,own:=(rX len m.own b.2).1}
def XS.fill(m:XS)(v:cn m.cj):XS:=m.lf (yn m.cj v)
end
section
variable{R:Type}
theorem Ty.beq_refl:∀t:Ty,t.beq t=true
 |.u=>rfl
 |.b=>rfl
 |.i k=>decide_eq_true rfl
 |.s=>rfl
 |.p a c=>by show(a.beq a&&c.beq c)=true;rw[Ty.beq_refl a,Ty.beq_refl c];rfl
 |.w a=>Ty.beq_refl a
 |.ar n k=>by show(aaa n n&&decide (k=k))=true;rw[Nat.beq_refl,decide_eq_true rfl];rfl
 |.sl t=>Ty.beq_refl t
 |.o t=>Ty.beq_refl t
theorem Ty.mr(t:Ty)(x:t.T):t.j1 t x=some x:=by unfold Ty.j1;rw[dif_pos (Ty.beq_refl t)]
def Ic(t:Ty):XV->Option DS
 |.d t' x=>match t'.beq t with
  |true=>some ⟨t',x⟩
  |false=>none
 |.nl _=>match t with
  |.sl u=>some ⟨.sl u,[]⟩
  |.o u=>some ⟨.o u,[]⟩
  |_=>none
 |.agg cs=>match nF t with
  |true=>none
  |false=>match o0 t cs with
   |some (x,[])=>some ⟨t,x⟩
   |_=>none
 |_=>none
theorem XO[YL]{p:DS}(h:Ic t v=some p):(s8 p.1 p.2).er=v.er/\(s8 p.1 p.2).fc=v.fc:=by
 unfold Ic at h;split at h
 ·split at h
  ·cases h;exact⟨DN _ _,O5 _ _⟩
  ·cases h
 ·split at h
  ·cases h;exact⟨rfl,rfl⟩
  ·cases h;exact⟨rfl,rfl⟩
  ·cases h
 ·split at h
  ·cases h
  ·rename_i cs _ hl;split at h
   ·rename_i x hp;cases h;obtain⟨l1,e1,e2⟩:=pT hp;rw[aag]at e1;subst e1;refine⟨?_,?_⟩
    ·rw[DN,nL x hl];show _=AV.agg (XV.bz _);rw[e2]
    ·rw[O5];exact e2.symm
   ·cases h
 ·cases h
def AT:Value->Value->Bool
 |.pointer none,.pointer none=>true
 |.map none,.map none=>true
 |_,_=>false
theorem MQ{v w:Value}(h:AT v w=true):v=w:=by
 unfold AT at h;split at h
 ·rfl
 ·rfl
 ·cases h
def GX.j9:GX->GX->Bool
 |.go,.go=>true
 |.exit a,.exit b=>aaa a b
 |.ret,.ret=>true
 |_,_=>false
theorem GX.wu:∀{a b:GX},a.j9 b=true->a=b
 |.go,.go,_=>rfl
 |.exit a,.exit b,h=>congrArg GX.exit (θ h)
 |.ret,.ret,_=>rfl
 |.go,.exit _,h=>by cases h
 |.go,.ret,h=>by cases h
 |.exit _,.go,h=>by cases h
 |.exit _,.ret,h=>by cases h
 |.ret,.go,h=>by cases h
 |.ret,.exit _,h=>by cases h
def uf(b:Bool):Option (List DS):=match b with
 |true=>some []
 |false=>none
mutual
def XV.mt:XV->XV->Option (List DS)
 |.d t _,v=>match Ic t v with
  |some p=>some [p]
  |none=>none
 |.slw h t _,v=>match v with
  |.slw h' t' _=>uf (h.j9 h'&&t.beq t')
  |_=>none
 |.sl h t _ _,v=>match v with
  |.sl h' t' o n=>match h.j9 h'&&t.beq t' with
   |true=>some [⟨.i .i64,(o:Int)⟩,⟨.i .i64,(n:Int)⟩]
   |false=>none
  |_=>none
 |.ptr h o,v=>match v with
  |.ptr h' o'=>uf (h.j9 h'&&aaa o o')
  |_=>none
 |.rpt h o,v=>match v with
  |.rpt h' o'=>uf (h.j9 h'&&aaa o o')
  |_=>none
 |.apt h o,v=>match v with
  |.apt h' o'=>uf (h.j9 h'&&aaa o o')
  |_=>none
 |.mref h,v=>match v with
  |.mref h'=>uf (h.j9 h')
  |_=>none
 |.itr a e,v=>match v with
  |.itr a' e'=>uf (a.j9 a'&&e.j9 e')
  |_=>none
 |.agg cs,v=>match v with
  |.agg ds=>XV.uz cs ds
  |_=>none
 |.clo f cs,v=>match v with
  |.clo g ds=>match aaa f g with
   |true=>XV.uz cs ds
   |false=>none
  |_=>none
 |.fln _,v=>match v with
  |.fln _=>some []
  |_=>none
 |.nl _,v=>match v with
  |.nl _=>some []
  |_=>none
 |.un,v=>match v with
  |.un=>some []
  |_=>none
 |.sc,v=>match v with
  |.sc=>some []
  |_=>none
 |.c x,v=>match v with
  |.c y=>uf (AT x y)
  |_=>none
 |.yld,v=>match v with
  |.yld=>some []
  |_=>none
 |.gst q,v=>match v with
  |.gst q'=>uf (q.j9 q')
  |_=>none
 |_,_=>none
def XV.uz:List XV->List XV->Option (List DS)
 |[],[]=>some []
 |m::ms,v::vs=>match m.mt v,XV.uz ms vs with
  |some a,some y=>some (a++y)
  |_,_=>none
 |_,_=>none
end
theorem lC{b:Bool}{l:List DS}(h:uf b=some l):b=true/\l=[]:=by
 cases b
 ·cases h
 ·cases h;exact⟨rfl,rfl⟩
def HQ[YL](len:Hd->Nat)(m v:XV)(l:List DS):Prop:=∀rest,∃v',m.lf len (l++rest)=(v',rest)/\v'.er=v.er/\v'.fc=v.fc
theorem HQ.c[YL]{m:XV}(h:∀l,m.lf len l=(v,l)):HQ len m v []:=fun rest=>⟨v,h rest,rfl,rfl⟩
mutual
theorem Md[YL]{len:Hd->Nat}:∀{m v:XV} {l:List DS},m.mt v=some l->mf (fun h n=>n=len h) v->HQ len m v l
 |.d t x,v,l,h,hp=>by
  unfold XV.mt at h;split at h
  ·rename_i p hm;cases h;obtain⟨h1,h2⟩:=XO hm;exact fun rest=>⟨_,rfl,h1,h2⟩
  ·cases h
 |.slw hd t n,v,l,h,hp=>by
  unfold XV.mt at h;split at h
  ·obtain⟨hh,rfl⟩:=lC h;replace h:=hh;rw[μ]at h;obtain rfl:=Hd.dn.1 h.1;obtain rfl:=Ty.fg h.2;have hp:_=len hd:=hp;subst hp;exact .c fun _=>rfl
  ·cases h
 |.fln t,v,l,h,hp=>by
  unfold XV.mt at h;split at h
  ·cases h;exact fun rest=>⟨.fln t,rfl,rfl,rfl⟩
  ·cases h
 |.sl hd t o n,v,l,h,hp=>by
  unfold XV.mt at h;split at h
  ·split at h
   ·rename_i hh;cases h;rw[μ]at hh;obtain rfl:=Hd.dn.1 hh.1;obtain rfl:=Ty.fg hh.2;exact fun rest=>⟨_,rfl,rfl,rfl⟩
   ·cases h
  ·cases h
 |.ptr hd o,v,l,h,hp=>by
  unfold XV.mt at h;split at h
  ·obtain⟨hh,rfl⟩:=lC h;replace h:=hh;rw[μ]at h;obtain rfl:=Hd.dn.1 h.1;obtain rfl:=θ h.2;exact .c fun _=>rfl
  ·cases h
 |.rpt hd o,v,l,h,hp=>by
  unfold XV.mt at h;split at h
  ·obtain⟨hh,rfl⟩:=lC h;replace h:=hh;rw[μ]at h;obtain rfl:=Hd.dn.1 h.1;obtain rfl:=θ h.2;exact .c fun _=>rfl
  ·cases h
 |.apt hd o,v,l,h,hp=>by
  unfold XV.mt at h;split at h
  ·obtain⟨hh,rfl⟩:=lC h;replace h:=hh;rw[μ]at h;obtain rfl:=Hd.dn.1 h.1;obtain rfl:=θ h.2;exact .c fun _=>rfl
  ·cases h
 |.mref hd,v,l,h,hp=>by
  unfold XV.mt at h;split at h
  ·obtain⟨hh,rfl⟩:=lC h;replace h:=hh;obtain rfl:=Hd.dn.1 h;exact .c fun _=>rfl
  ·cases h
 |.itr a c,v,l,h,hp=>by
  unfold XV.mt at h;split at h
  ·obtain⟨hh,rfl⟩:=lC h;replace h:=hh;rw[μ]at h;obtain rfl:=Hd.dn.1 h.1;obtain rfl:=Hd.dn.1 h.2;exact .c fun _=>rfl
  ·cases h
 |.agg cs,v,l,h,hp=>by
  unfold XV.mt at h;split at h
  ·have:=EC (ms:=cs) h hp;intro rest;obtain⟨vs',h1,_,h3⟩:=this rest;refine⟨.agg vs',?_,congrArg AV.agg h3,h3⟩;unfold XV.lf;rw[h1]
  ·cases h
 |.clo f cs,v,l,h,hp=>by
  unfold XV.mt at h;split at h
  ·split at h
   ·rename_i hb;obtain rfl:=θ hb;have:=EC (ms:=cs) h hp;intro rest;obtain⟨vs',h1,h2,_⟩:=this rest;refine⟨.clo f vs',?_,congrArg (AV.clo f) h2,congrArg (fun l=>[AV.clo f l]) h2⟩;unfold XV.lf;rw[h1]
   ·cases h
  ·cases h
 |.nl t,v,l,h,hp=>by
  unfold XV.mt at h;split at h
  ·cases h;exact fun rest=>⟨_,rfl,rfl,rfl⟩
  ·cases h
 |.un,v,l,h,hp=>by
  unfold XV.mt at h;split at h
  ·cases h;exact .c fun _=>rfl
  ·cases h
 |.sc,v,l,h,hp=>by
  unfold XV.mt at h;split at h
  ·cases h;exact .c fun _=>rfl
  ·cases h
 |.c x,v,l,h,hp=>by
  unfold XV.mt at h;split at h
  ·obtain⟨hh,rfl⟩:=lC h;replace h:=hh;obtain rfl:=MQ h;exact .c fun _=>rfl
  ·cases h
 |.yld,v,l,h,hp=>by
  unfold XV.mt at h;split at h
  ·cases h;exact .c fun _=>rfl
  ·cases h
 |.gst q,v,l,h,hp=>by
  unfold XV.mt at h;split at h
  ·obtain⟨hh,rfl⟩:=lC h;replace h:=hh;obtain rfl:=GX.wu h;exact .c fun _=>rfl
  ·cases h
 |.any,v,l,h,hp=>by cases h
 |.ab,v,l,h,hp=>by cases h
 |.ept _ _ _ _,v,l,h,hp=>by cases h
 |.pa _ _ _,v,l,h,hp=>by cases h
 |.epa _ _ _ _ _,v,l,h,hp=>by cases h
 |.rop _ _ _,v,l,h,hp=>by cases h
 |.fl _ _,v,l,h,hp=>by cases h
 |.asl _ _ _,v,l,h,hp=>by cases h
 |.rpa _ _ _,v,l,h,hp=>by cases h
 |.rsl _ _ _ _,v,l,h,hp=>by cases h
 |.cn _,v,l,h,hp=>by cases h
theorem EC[YL]{len:Hd->Nat}:∀{ms vs:List XV} {l:List DS},XV.uz ms vs=some l->mf.ig (fun h n=>n=len h) vs->∀rest,∃vs',XV.kc len ms (l++rest)=(vs',rest)/\XV.cz vs'=XV.cz vs/\XV.bz vs'=XV.bz vs
 |[],[],l,h,hp=>by
  cases h;exact fun rest=>⟨[],rfl,rfl,rfl⟩
 |m::ms,v::vs,l,h,hp=>by
  unfold XV.uz at h;split at h
  ·rename_i a c h1 h2;cases h;have f1:=Md h1 hp.1;have f2:=EC h2 hp.2;intro rest;obtain⟨v',e1,e2,e3⟩:=f1 (c++rest);obtain⟨vs',e4,e5,e6⟩:=f2 rest;refine⟨v'::vs',?_,?_,?_⟩
   ·unfold XV.kc;rw[π,e1];simp only;rw[e4]
   ·show v'.er::XV.cz vs'=v.er::XV.cz vs;rw[e2,e5]
   ·show v'.fc++XV.bz vs'=v.fc++XV.bz vs;rw[e3,e6]
  ·cases h
 |[],_::_,l,h,hp=>by cases h
 |_::_,[],l,h,hp=>by cases h
end
mutual
theorem LI[YL]:∀{m v:XV} {l:List DS},m.mt v=some l->l.length=m.cj.length
 |.d t x,v,l,h=>by
  unfold XV.mt at h;split at h
  ·cases h;rfl
  ·cases h
 |.agg cs,v,l,h=>by
  unfold XV.mt at h;split at h
  ·exact A1 (ms:=cs) h
  ·cases h
 |.clo f cs,v,l,h=>by
  unfold XV.mt at h;split at h
  ·split at h
   ·exact A1 (ms:=cs) h
   ·cases h
  ·cases h
 |.fln t,v,l,h=>by
  unfold XV.mt at h;split at h
  ·cases h;rfl
  ·cases h
 |.sl hd t o n,v,l,h=>by
  unfold XV.mt at h;split at h
  ·split at h
   ·cases h;rfl
   ·cases h
  ·cases h
 |.slw hd t n,v,l,h=>by unfold XV.mt at h;split at h<;>first|(obtain⟨_,rfl⟩:=lC h;rfl)|cases h
 |.ptr hd o,v,l,h=>by unfold XV.mt at h;split at h<;>first|(obtain⟨_,rfl⟩:=lC h;rfl)|cases h
 |.rpt hd o,v,l,h=>by unfold XV.mt at h;split at h<;>first|(obtain⟨_,rfl⟩:=lC h;rfl)|cases h
 |.apt hd o,v,l,h=>by unfold XV.mt at h;split at h<;>first|(obtain⟨_,rfl⟩:=lC h;rfl)|cases h
 |.mref hd,v,l,h=>by unfold XV.mt at h;split at h<;>first|(obtain⟨_,rfl⟩:=lC h;rfl)|cases h
 |.itr a c,v,l,h=>by unfold XV.mt at h;split at h<;>first|(obtain⟨_,rfl⟩:=lC h;rfl)|cases h
 |.c x,v,l,h=>by unfold XV.mt at h;split at h<;>first|(obtain⟨_,rfl⟩:=lC h;rfl)|cases h
 |.nl t,v,l,h=>by unfold XV.mt at h;split at h<;>first|(cases h;rfl;done)|(cases h;done)
 |.un,v,l,h=>by unfold XV.mt at h;split at h<;>first|(cases h;rfl;done)|(cases h;done)
 |.sc,v,l,h=>by unfold XV.mt at h;split at h<;>first|(cases h;rfl;done)|(cases h;done)
 |.yld,v,l,h=>by unfold XV.mt at h;split at h<;>first|(cases h;rfl;done)|(cases h;done)
 |.gst _,v,l,h=>by unfold XV.mt at h;split at h<;>first|(obtain⟨_,rfl⟩:=lC h;rfl)|cases h
 |.any,v,l,h=>by cases h
 |.ab,v,l,h=>by cases h
 |.ept _ _ _ _,v,l,h=>by cases h
 |.pa _ _ _,v,l,h=>by cases h
 |.epa _ _ _ _ _,v,l,h=>by cases h
 |.rop _ _ _,v,l,h=>by cases h
 |.fl _ _,v,l,h=>by cases h
 |.asl _ _ _,v,l,h=>by cases h
 |.rpa _ _ _,v,l,h=>by cases h
 |.rsl _ _ _ _,v,l,h=>by cases h
 |.cn _,v,l,h=>by cases h
theorem A1[YL]:∀{ms vs:List XV} {l:List DS},XV.uz ms vs=some l->l.length=(XV.px ms).length
 |[],[],l,h=>by cases h;rfl
 |m::ms,v::vs,l,h=>by
  unfold XV.uz at h;split at h
  ·rename_i a c h1 h2;cases h;show _=(m.cj++XV.px ms).length;rw[ε,ε,LI h1,A1 h2]
  ·cases h
 |[],_::_,l,h=>by cases h
 |_::_,[],l,h=>by cases h
end
def Gs(s:XS)(φ:Hd->Option Hd)(b:XB)(K:XB->Option R):Option R:=match b with
 |.box cs=>yw s φ cs fun l=>K (.box l)
 |.mp wr K0 V es hole (some (h,q))=>match φ h with
  |some h'=>K (.mp wr K0 V es hole (some (h',q)))
  |none=>none
 |b=>K b
def Gf(P:Hd->Nat->Prop):XB->Prop
 |.box cs=>mf.ig P cs
 |_=>True
theorem Uh[YL]{s:XS}{b:XB}{K:XB->Option R}{r:R}(q:Gs s φ b K=some r):∃b',K b'=some r/\bn.conv s.er.lk φ b.er=b'.er/\Gf (r9 s φ) b'/\b'.j3=b.j3:=by
 unfold Gs at q;split at q
 ·obtain⟨l,q,_,e2,e3⟩:=B5 q;exact⟨_,q,congrArg bn.box e2,e3,rfl⟩
 ·rename_i wr K0 V es hole h cur;split at q
  ·rename_i h' e;refine⟨_,q,?_,trivial,rfl⟩;show bn.conv _ _ (.mp _ _ (A7 K0 (some (h,cur))))=.mp _ _ (A7 K0 (some (h',cur)));obtain⟨c,rem⟩:=cur;have e0:sr wr K0 V es hole (some (h',c,rem))=sr wr K0 V es hole (some (h,c,rem)):=by cases wr<;>rfl
   show bn.mp _ (sr wr K0 V es hole (some (h,c,rem))) ((some (h,_,_):Option (Hd×List AV×List AV)).bind _)=bn.mp _ (sr wr K0 V es hole (some (h',c,rem))) _;rw[e0];simp only[Option.bind_some,e,Option.map_some];rfl
  ·cases q
 ·rename_i h1 h2;refine⟨_,q,?_,?_,rfl⟩
  ·cases b with
   |box cs=>exact absurd rfl (h1 cs)
   |row=>rfl
   |rb=>rfl
   |arr=>rfl
   |mp wr K0 V es hole i=>cases i with
    |none=>rfl
    |some p=>exact absurd rfl (h2 wr K0 V es hole p.1 p.2)
   |it=>rfl
   |sb=>rfl
  ·cases b with
   |box cs=>exact absurd rfl (h1 cs)
   |_=>trivial
def AM(s:XS)(φ:Hd->Option Hd):List (Option XB)->(List (Option XB)->Option R)->Option R
 |[],K=>K []
 |none::r,K=>AM s φ r fun l=>K (none::l)
 |some b::r,K=>Gs s φ b fun b'=>AM s φ r fun l=>K (some b'::l)
def gm(P:Hd->Nat->Prop):List (Option XB)->Prop
 |[]=>True
 |none::r=>gm P r
 |some b::r=>Gf P b/\gm P r
def xI:List (Option XB)->List Nat
 |[]=>[]
 |none::r=>0::xI r
 |some b::r=>b.j3::xI r
theorem zY:∀(l:List (Option XB)) (i:Nat) (b:XB),bN l i=some b->An (xI l) i=b.j3
 |[],_,_,h=>by cases h
 |none::r,0,_,h=>by cases h
 |some c::r,0,b,h=>by cases h;rfl
 |none::r,i+1,b,h=>zY r i b h
 |some c::r,i+1,b,h=>zY r i b h
def du[YL](l:List (Option XB)):List (Option bn):=l.map fun b=>b.map XB.er
theorem CG[YL]{s:XS}{φ:Hd->Option Hd}{r:R}:∀{l:List (Option XB)} {K:List (Option XB)->Option R},AM s φ l K=some r->∃l',K l'=some r/\(du l).map (fun b=>b.map (bn.conv s.er.lk φ))=du l'/\gm (r9 s φ) l'/\xI l'=xI l
 |[],K,q=>⟨[],q,rfl,trivial,rfl⟩
 |none::l,K,q=>by
  obtain⟨l',q,e1,e2,e3⟩:=CG (l:=l) q;exact⟨_,q,by show none::(du l).map _=none::du l';rw[e1],e2,by show 0::xI l'=0::xI l;rw[e3]⟩
 |some b::l,K,q=>by obtain⟨b',q,f1,f2,f3⟩:=Uh (b:=b) q;obtain⟨l',q,e1,e2,e3⟩:=CG (l:=l) q;exact⟨_,q,by show some (bn.conv _ _ b.er)::(du l).map _=some b'.er::du l';rw[e1,f1],⟨f2,e2⟩,by show b'.j3::xI l'=b.j3::xI l;rw[e3,f3]⟩
def XB.mt(m b:XB):Option (List DS):=match m,b with
 |.box ms,.box cs=>XV.uz ms cs
 |.row mt t _,.row mt' t' xs=>match mt==mt',t'.beq t with
  |true,true=>some [⟨.sl t',xs⟩]
  |_,_=>none
 |.arr mt n k _,.arr mt' n' k' x=>match mt==mt',(Ty.ar n' k').beq (.ar n k)with
  |true,true=>some [⟨.ar n' k',x⟩]
  |_,_=>none
 |.mp wr K V _ none none,.mp wr' K' V' es none none=>match wr==wr',(Ty.p K' V').beq (.p K V)with
  |true,true=>some [⟨.sl (.p K' V'),es⟩]
  |_,_=>none
 |.mp wr K V _ none (some (h,_)),.mp wr' K' V' es none (some (h',none,rem))=>match h.j9 h'&&(wr==wr'),(Ty.p K' V').beq (.p K V)with
  |true,true=>some [⟨.sl (.p K' V'),es⟩,⟨.sl K',rem⟩]
  |_,_=>none
 |.rb mt t _,.rb mt' t' x=>match mt==mt',t'.beq t with
  |true,true=>some [⟨t',x⟩]
  |_,_=>none
 |.it,.it=>some []
 |.sb (T,e) _ _,.sb (T',e') us' xs=>match aaa T T',aaa e e' with
  |true,true=>some [⟨.b,us'⟩,⟨.sl (.i .u8),xs⟩]
  |_,_=>none
 |_,_=>none
theorem bOb[YL]{m b:XB}{l:List DS}(h:m.mt b=some l)(hp:Gf (fun h n=>n=len h) b):l.length=m.cj.length/\∀rest,∃b',m.lf len (l++rest)=(b',rest)/\b'.er=b.er:=by
 unfold XB.mt at h;split at h
 ·rename_i ms cs;refine⟨A1 h,fun rest=>?_⟩;obtain⟨vs',e1,_,e3⟩:=EC h hp rest;exact⟨.box vs',by show(XB.box (XV.kc len ms (l++rest)).1,(XV.kc len ms (l++rest)).2)=_;rw[e1],congrArg bn.box e3⟩
 ·split at h
  ·rename_i h1 _;cases h;exact⟨rfl,fun rest=>⟨_,rfl,by rw[eq_of_beq h1];rfl⟩⟩
  ·cases h
 ·split at h
  ·rename_i h1 _;cases h;exact⟨rfl,fun rest=>⟨_,rfl,by rw[eq_of_beq h1];rfl⟩⟩
  ·cases h
 ·split at h
  ·rename_i h1 _;cases h;obtain rfl:=eq_of_beq h1;exact⟨rfl,fun rest=>⟨_,rfl,rfl⟩⟩
  ·cases h
 ·split at h
  ·rename_i h1 _;cases h;rw[μ]at h1;obtain rfl:=Hd.dn.1 h1.1;obtain rfl:=eq_of_beq h1.2;refine⟨rfl,fun rest=>⟨_,rfl,?_⟩⟩;show(IH _ (XB.mp _ _ _ _ none none) ⟨.sl _,_⟩).er=_;unfold IH;simp only[EW,Ty.mr]
  ·cases h
 ·split at h
  ·rename_i h1 _;cases h;exact⟨rfl,fun rest=>⟨_,rfl,by rw[eq_of_beq h1]⟩⟩
  ·cases h
 ·cases h;exact⟨rfl,fun rest=>⟨_,rfl,rfl⟩⟩
 ·split at h
  ·rename_i h1 h2;cases h;obtain rfl:=θ h1;obtain rfl:=θ h2;refine⟨rfl,fun rest=>⟨_,rfl,?_⟩⟩;show(Gk _ ⟨.b,_⟩ ⟨.sl (.i .u8),_⟩).er=_;unfold Gk;simp only[Ty.mr]
  ·cases h
 ·cases h
def sy:List (Option XB)->List (Option XB)->Option (List DS)
 |[],[]=>some []
 |none::ms,none::bs=>sy ms bs
 |some m::ms,some b::bs=>match m.mt b,sy ms bs with
  |some a,some c=>some (a++c)
  |_,_=>none
 |_,_=>none
theorem Ds[YL]{len:Hd->Nat}:∀{ms bs:List (Option XB)} {l:List DS},sy ms bs=some l->gm (fun h n=>n=len h) bs->l.length=(vk ms).length/\∀rest,∃bs',rX len ms (l++rest)=(bs',rest)/\du bs'=du bs
 |[],[],l,h,hp=>by
  cases h;exact⟨rfl,fun rest=>⟨[],rfl,rfl⟩⟩
 |none::ms,none::bs,l,h,hp=>by
  have h:sy ms bs=some l:=h;obtain⟨h1,h2⟩:=Ds h hp;refine⟨h1,fun rest=>?_⟩;obtain⟨bs',e1,e2⟩:=h2 rest;exact⟨none::bs',by unfold rX;rw[e1],by show none::du bs'=none::du bs;rw[e2]⟩
 |some m::ms,some b::bs,l,h,hp=>by
  unfold sy at h;split at h
  ·rename_i a c h1 h2;cases h;obtain⟨f1,f2⟩:=bOb h1 hp.1;obtain⟨g1,g2⟩:=Ds h2 hp.2;refine⟨by show _=(m.cj++vk ms).length;rw[ε,ε,f1,g1],fun rest=>?_⟩;obtain⟨b',e1,e2⟩:=f2 (c++rest);obtain⟨bs',e3,e4⟩:=g2 rest;refine⟨some b'::bs',?_,by show some b'.er::du bs'=some b.er::du bs;rw[e2,e4]⟩;unfold rX;rw[π,e1];simp only;rw[e3]
  ·cases h
 |[],none::_,l,h,hp=>by cases h
 |[],some _::_,l,h,hp=>by cases h
 |none::_,[],l,h,hp=>by cases h
 |some _::_,[],l,h,hp=>by cases h
 |none::_,some _::_,l,h,hp=>by cases h
 |some _::_,none::_,l,h,hp=>by cases h
theorem ZL{m b:XB}{l:List DS}(h:m.mt b=some l):(∃mt t xs p,m=.row mt t xs/\l=[p]/\DS.j3 p=b.j3)\/((∀mt t xs,m≠.row mt t xs)/\b.j3=0):=by
 unfold XB.mt at h;split at h
 ·exact .inr ⟨fun _ _ _ e=>(by cases e),rfl⟩
 ·split at h
  ·cases h;exact .inl ⟨_,_,_,_,rfl,rfl,rfl⟩
  ·cases h
 ·exact .inr ⟨fun _ _ _ e=>(by cases e),rfl⟩
 ·exact .inr ⟨fun _ _ _ e=>(by cases e),rfl⟩
 ·exact .inr ⟨fun _ _ _ e=>(by cases e),rfl⟩
 ·exact .inr ⟨fun _ _ _ e=>(by cases e),rfl⟩
 ·exact .inr ⟨fun _ _ _ e=>(by cases e),rfl⟩
 ·exact .inr ⟨fun _ _ _ e=>(by cases e),rfl⟩
 ·cases h
theorem QD[YL]{m b:XB}{l:List DS}(h:m.mt b=some l):l.length=m.cj.length:=by
 unfold XB.mt at h;split at h
 ·exact A1 h
 all_goals first|(cases h;rfl;done)|(split at h<;>first|(cases h;rfl;done)|(cases h;done))|(cases h;done)
theorem CC[YL]:∀{ms bs:List (Option XB)} {l:List DS},sy ms bs=some l->∀rest,pH ms (l++rest)=xI bs
 |[],[],l,h,rest=>rfl
 |none::ms,none::bs,l,h,rest=>by
  have h:sy ms bs=some l:=h;show 0::pH ms (l++rest)=0::xI bs;rw[CC h]
 |some m::ms,some b::bs,l,h,rest=>by
  unfold sy at h;split at h
  ·rename_i a c h1 h2;cases h;have e1:=ZL h1;have e2:=QD h1;have e3:=CC h2 rest;show pH (some m::ms) _=b.j3::xI bs;rcases e1 with⟨mt,t,xs,p,rfl,rfl,hp⟩|⟨hn,e1⟩
   ·show DS.j3 p::pH ms (c++rest)=_;rw[hp,e3]
   ·have:pH (some m::ms) (a++c++rest)=0::pH ms ((a++c++rest).drop m.cj.length):=by
     cases m with
     |row mt t xs=>exact absurd rfl (hn mt t xs)
     |_=>rfl
    rw[this,e1,π,<-e2,adz,e3]
  ·cases h
 |[],none::_,l,h,_=>by cases h
 |[],some _::_,l,h,_=>by cases h
 |none::_,[],l,h,_=>by cases h
 |some _::_,[],l,h,_=>by cases h
 |none::_,some _::_,l,h,_=>by cases h
 |some _::_,none::_,l,h,_=>by cases h
def Io(s:XS)(φ:Hd->Option Hd)(ev:Nat->XV):List (Nat×XV)->(List XV->Option R)->Option R
 |[],K=>K []
 |(n,_)::r,K=>tz s φ (ev n) fun v=>Io s φ ev r fun l=>K (v::l)
theorem Lx[YL]{s:XS}{φ:Hd->Option Hd}{ev:Nat->XV}{r:R}:∀{l:List (Nat×XV)} {K:List XV->Option R},Io s φ ev l K=some r->∃vs,K vs=some r/\l.map (fun p=>AV.conv s.er.lk φ (ev p.1).er)=vs.map XV.er/\mf.ig (r9 s φ) vs
 |[],K,q=>⟨[],q,rfl,trivial⟩
 |(n,m)::l,K,q=>by obtain⟨v,q,f1,_,f3⟩:=Gi (v:=ev n) q;obtain⟨vs,q,e1,e2⟩:=Lx (l:=l) q;exact⟨_,q,by show AV.conv _ _ (ev n).er::l.map _=v.er::vs.map XV.er;rw[f1,e1],f3,e2⟩
def Aq:List (Nat×XV)->List XV->Option (List DS)
 |[],[]=>some []
 |(_,m)::ms,v::vs=>match m.mt v,Aq ms vs with
  |some a,some c=>some (a++c)
  |_,_=>none
 |_,_=>none
theorem F2[YL]{len:Hd->Nat}:∀{ms:List (Nat×XV)} {vs:List XV} {l:List DS},Aq ms vs=some l->mf.ig (fun h n=>n=len h) vs->l.length=(xe ms).length/\∀rest,∃e,pf len ms (l++rest)=(e,rest)/\e.map (·.1)=ms.map (·.1)/\e.map (fun p=>p.2.er)=vs.map XV.er
 |[],[],l,h,hp=>by
  cases h;exact⟨rfl,fun rest=>⟨[],rfl,rfl,rfl⟩⟩
 |(n,m)::ms,v::vs,l,h,hp=>by
  unfold Aq at h;split at h
  ·rename_i a c h1 h2;cases h;have f1:=Md h1 hp.1;obtain⟨g1,g2⟩:=F2 h2 hp.2;refine⟨by show _=(m.cj++xe ms).length;rw[ε,ε,LI h1,g1],fun rest=>?_⟩;obtain⟨v',e1,e2,_⟩:=f1 (c++rest);obtain⟨e,e3,e4,e5⟩:=g2 rest;refine⟨(n,v')::e,?_,by show n::e.map _=n::ms.map _;rw[e4],by show v'.er::e.map _=v.er::vs.map XV.er;rw[e2,e5]⟩;unfold pf;rw[π,e1];simp only;rw[e3]
  ·cases h
 |[],_::_,l,h,hp=>by cases h
 |_::_,[],l,h,hp=>by cases h
mutual
theorem mf.mono[YL]{P Q:Hd->Nat->Prop}(h:∀a n,P a n->Q a n):∀{v:XV},mf P v->mf Q v
 |.slw _ _ _,hp=>h _ _ hp
 |.agg cs,hp=>ig.mono h (vs:=cs) hp
 |.cn cs,hp=>ig.mono h (vs:=cs) hp
 |.clo _ cs,hp=>ig.mono h (vs:=cs) hp
 |.d _ _,_=>trivial
 |.any,_=>trivial
 |.un,_=>trivial
 |.ab,_=>trivial
 |.ptr _ _,_=>trivial
 |.ept _ _ _ _,_=>trivial
 |.apt _ _,_=>trivial
 |.pa _ _ _,_=>trivial
 |.epa _ _ _ _ _,_=>trivial
 |.rop _ _ _,_=>trivial
 |.fl _ _,_=>trivial
 |.fln _,_=>trivial
 |.nl _,_=>trivial
 |.sl _ _ _ _,_=>trivial
 |.asl _ _ _,_=>trivial
 |.rpt _ _,_=>trivial
 |.rpa _ _ _,_=>trivial
 |.rsl _ _ _ _,_=>trivial
 |.mref _,_=>trivial
 |.itr _ _,_=>trivial
 |.sc,_=>trivial
 |.c _,_=>trivial
 |.yld,_=>trivial
 |.gst _,_=>trivial
theorem ig.mono[YL]{P Q:Hd->Nat->Prop}(h:∀a n,P a n->Q a n):∀{vs:List XV},mf.ig P vs->mf.ig Q vs
 |[],_=>trivial
 |_::_,hp=>⟨mf.mono h hp.1,ig.mono h hp.2⟩
end
theorem gm.mono[YL]{P Q:Hd->Nat->Prop}(h:∀a n,P a n->Q a n):∀{l:List (Option XB)},gm P l->gm Q l
 |[],_=>trivial
 |none::l,hp=>gm.mono h (l:=l) hp
 |some (.box cs)::l,hp=>⟨ig.mono h hp.1,gm.mono h (l:=l) hp.2⟩
 |some (.row _ _ _)::l,hp=>⟨trivial,gm.mono h (l:=l) hp.2⟩
 |some (.rb _ _ _)::l,hp=>⟨trivial,gm.mono h (l:=l) hp.2⟩
 |some (.arr _ _ _ _)::l,hp=>⟨trivial,gm.mono h (l:=l) hp.2⟩
 |some (.mp _ _ _ _ _ _)::l,hp=>⟨trivial,gm.mono h (l:=l) hp.2⟩
 |some .it::l,hp=>⟨trivial,gm.mono h (l:=l) hp.2⟩
 |some (.sb _ _ _)::l,hp=>⟨trivial,gm.mono h (l:=l) hp.2⟩
def EH(s:XS)(φ:Hd->Option Hd)(m:XS)(ev:Nat->XV)(bl ol:List (Option XB))(K:cn m.cj->Option R):Option R:=
 Io s φ ev m.env fun vs=>AM s φ bl fun bs=>AM s φ ol fun os=>match Aq m.env vs,sy m.bs bs,sy m.own os with
  |some l1,some l2,some l3=>match u3 m.cj (l1++(l2++l3))with
   |some v=>K v
   |none=>none
  |_,_,_=>none
theorem Kt[YL]{s:XS}{m:XS}{ev:Nat->XV}{bl ol:List (Option XB)}{K:cn m.cj->Option R}{r:R}(hφ:∀h h' b,φ h=some h'->s.lk h=some b->match h' with|.B i=>bN bl i=some b|.O i=>bN ol i=some b)
  (q:EH s φ m ev bl ol K=some r):∃v,K v=some r/\(m.fill v).env.map (fun p=>(p.1,p.2.er))=m.env.map (fun p=>(p.1,AV.conv s.er.lk φ (ev p.1).er))/\
   du (m.fill v).bs=(du bl).map (fun b=>b.map (bn.conv s.er.lk φ))/\du (m.fill v).own=(du ol).map (fun b=>b.map (bn.conv s.er.lk φ)):=by
 unfold EH at q;obtain⟨vs,q,a1,a2⟩:=Lx q;obtain⟨bs,q,b1,b2,b3⟩:=CG q;obtain⟨os,q,c1,c2,c3⟩:=CG q;split at q
 ·rename_i l1 l2 l3 h1 h2 h3;split at q
  ·rename_i v hv;refine⟨v,q,?_⟩;have hL:=IG hv;have hlen:∀h n,r9 s φ h n->n=H8 (pH m.bs (l2++l3)) (pH m.own (l3++[])) h:=fun h' n ⟨h,mt,t,xs,e1,e2,e3⟩=>by
    have:=hφ h h' _ e1 e2;cases h' with
    |B i=>
     show n=An (pH m.bs (l2++l3)) i;rw[CC h2,b3,zY _ _ _ this];exact e3
    |O i=>
     show n=An (pH m.own (l3++[])) i;rw[CC h3,c3,zY _ _ _ this];exact e3
   obtain⟨x1,x2⟩:=F2 h1 (ig.mono hlen a2);obtain⟨y1,y2⟩:=Ds h2 (gm.mono hlen b2);obtain⟨z1,z2⟩:=Ds h3 (gm.mono hlen c2);obtain⟨e,x3,x4,x5⟩:=x2 (l2++l3);obtain⟨bs',y3,y4⟩:=y2 l3;obtain⟨os',z3,z4⟩:=z2 [];have hf:m.fill v={env:=e,bs:=bs',own:=os'}:=by show m.lf (yn m.cj v)=_;rw[hL];unfold XS.lf;simp only;rw[<-x1,adz,<-y1,adz];rw[aag]at x3 y3 z3;rw[x3];simp only;rw[y3];simp only;rw[z3]
   rw[hf];refine⟨?_,by show du bs'=_;rw[y4,b1],by show du os'=_;rw[z4,c1]⟩;show e.map _=_;have e1:e.map (fun p=>(p.1,p.2.er))=(e.map (·.1)).zip (e.map fun p=>p.2.er):=by rw[List.zip_map',]
   have e2:m.env.map (fun p=>(p.1,AV.conv s.er.lk φ (ev p.1).er))=(m.env.map (·.1)).zip (m.env.map fun p=>AV.conv s.er.lk φ (ev p.1).er):=by rw[List.zip_map']
   rw[e1,e2,x4,x5,a1]
  ·cases q
 ·cases q
end
section
variable{R:Type}
theorem Wk.BA(s:an)(h:Hd){kd:KD}{es:List (AV×MV)}{i i':Option (Hd×List AV×List AV)}(hl:s.lk h=some (.mp kd es i))(hi:i'=none\/∃x cur rem,i=some (x,cur,rem)/\i'=some (x,[],rem)):Wk s (s.ba h (some (.mp kd es i'))):=fun E a w ⟨G,m,hA⟩=>by
 have hlk:∀x,(s.ba h (some (.mp kd es i'))).lk x=if x=h then some (.mp kd es i')else s.lk x:=fun x=>aQ _ _ _ _
 have henv:(s.ba h (some (.mp kd es i'))).env=s.env:=eO _ _ _;refine⟨G,m,⟨fun x b sz hx=>?_,fun x hx=>?_,hA.ew.da,hA.ew.gh,fun x hx=>?_,hA.ew.gl,fun x b sz fp hx=>?_⟩,fun u=>by rw[henv];exact hA.env u,hA.size,hA.defers,by rw[henv];exact hA.ki,fun j hj=>hA.fresh j (by rw[cC]at hj;exact hj),hA.frame,hA.base,hA.own,trivial,fun j hj=>jW hA.iv ⟨_,hl⟩ j (by rw[cC]at hj;exact hj)⟩
 ·obtain⟨bl,h1,h2⟩:=hA.ew.fh x b sz hx;rw[hlk];by_cases e:x=h
  ·subst e;rw[hl]at h1;cases h1;exact h2.elim
  ·rw[if_neg e];exact⟨bl,h1,h2⟩
 ·obtain⟨mt,k,h1⟩:=hA.ew.nil x hx;rw[hlk];by_cases e:x=h
  ·subst e;rw[hl]at h1;cases h1
  ·rw[if_neg e];exact⟨mt,k,h1⟩
 ·have h1:=hA.ew.dead x hx;rw[hlk];by_cases e:x=h
  ·subst e;rw[hl]at h1;cases h1
  ·rw[if_neg e];exact h1
 ·obtain⟨bl,h1,h2⟩:=hA.ew.di x b sz fp hx;rw[hlk];by_cases e:x=h
  ·subst e;rw[hl]at h1;cases h1;rw[if_pos rfl];obtain⟨q1,q2,arr,clk,q3,q4,q5,q6,q7⟩:=h2;refine⟨_,rfl,q1,q2,arr,clk,q3,q4,q5,q6,fun y q hq=>?_⟩;rcases hi with rfl|⟨x',cur,rem,rfl,rfl⟩
   ·cases hq
   ·cases hq;obtain⟨loc,p1,p2⟩:=q7 _ _ rfl;refine⟨loc,p1,fun hd=>?_⟩;obtain⟨bi,sz',fp',seen,l,p3,p4,p5,p6,_⟩:=p2 hd;exact⟨bi,sz',fp',seen,l,p3,p4,p5,p6,fun key e=>by cases e⟩
  ·rw[if_neg e];exact⟨bl,h1,h2⟩
def Fl(keep:Bool)(s:XS)(h:Hd):XS:=match s.lk h with
 |some (.mp false K V es hole (some (x,cur,rem)))=>match keep with
  |true=>match cur with
   |some _=>s.ba h (some (.mp false K V es hole (some (x,none,rem))))
   |none=>s
  |false=>s.ba h (some (.mp false K V es hole none))
 |_=>s
theorem QK[YL](keep:Bool)(s:XS)(h:Hd):Wk s.er (Fl keep s h).er:=by
 unfold Fl;split
 ·rename_i K V es hole x cur rem hl;have hl':s.er.lk h=some (.mp K.kd (iF false K V es hole) (A7 K (some (x,cur,rem)))):=by rw[aU,hl];rfl
  split
  ·split
   ·rw[cH hl];exact Wk.BA _ _ hl' (.inr ⟨_,_,_,rfl,rfl⟩)
   ·exact Wk.refl _
  ·rw[cH hl];exact Wk.BA _ _ hl' (.inl rfl)
 ·exact Wk.refl _
def D3(s:XS)(h:Hd)(pre:List XV)(t:Ty)(cs:List XV):XS:=(s.put none .un [.row true t []] []).ba h (some (.box (pre++.slw (.O s.own.length) t 0::cs)))
theorem Yo{s:XS}{b:XB}(hl:s.lk h=some b)(nbs:List XB):(s.put none .un nbs []).lk h=some b:=by
 cases h with
 |B i=>exact hl
 |O i=>
  show bN (s.own++nbs.map some) i=_;rw[Hj,if_pos (pD (l:=s.own) hl)];exact hl
theorem Xa{s:XS}{b0:XB}(hl:s.lk h=some b0)(b:Option XB):(s.ba h b).lk h=b:=by
 cases h with
 |B i=>
  show bN (wF s.bs i b) i=b;rw[nJ _ _ _ _ (pD (l:=s.bs) hl),if_pos rfl]
 |O i=>
  show bN (wF s.own i b) i=b;rw[nJ _ _ _ _ (pD (l:=s.own) hl),if_pos rfl]
theorem YE[YL]{s:XS}{pre:List XV}{t0:Ty}(hl:s.lk h=some (.box (pre++.fln t0::cs))):Wk s.er (D3 s h pre t cs).er/\(D3 s h pre t cs).lk h=some (.box (pre++.slw (.O s.own.length) t 0::cs)):=by
 have hl1:=Yo hl [.row true t []];refine⟨?_,Xa hl1 _⟩;have hl':s.er.lk h=some (.box (XV.bz (pre++.fln t0::cs))):=by rw[aU,hl];rfl
 have:=an.uj s.er h _ (XV.bz pre).length t.n hl' (by rw[oV,aal (me _),ado];rfl);unfold D3;rw[cH hl1,eS];have e:(some (XB.box (pre++XV.slw (.O s.own.length) t 0::cs))).map XB.er=some (.box ((XV.bz (pre++.fln t0::cs)).set (XV.bz pre).length (.sl (.O s.er.nx) t.n 0 0))):=by show some (bn.box (XV.bz _))=_;rw[oV,oV,List.set_append_right _ _ (me _),ado];rfl
 rw[e];exact this
def zk(h:Hd):List XV->List XV->List XV->XS->XS
 |pre,.slw _ t _::ms,.fln _::cs,s=>zk h (pre++[.slw (.O s.own.length) t 0]) ms cs (D3 s h pre t cs)
 |pre,_::ms,v::cs,s=>zk h (pre++[v]) ms cs s
 |_,_,_,s=>s
theorem Si[YL]:∀{ms pre cs:List XV} {s:XS},s.lk h=some (.box (pre++cs))->Wk s.er (zk h pre ms cs s).er:=fun{ms}=>by
 induction ms with
 |nil=>intro pre cs s hl;unfold zk;exact Wk.refl _
 |cons m ms ih=>
  intro pre cs s hl;unfold zk;split
  ·cases‹m::ms=_›;obtain⟨h1,h2⟩:=YE (t:=_) hl;exact h1.trans (ih (by rw[π];exact h2))
  ·cases‹m::ms=_›;exact ih (by rw[π];exact hl)
  ·exact Wk.refl _
theorem Wk.A3(s:an)(h:Hd){k:Nat}{es:List (List DV)}(n:Nat)(hl:s.lk h=some (.row true k es)):Wk s (s.ba h (some (.row true k (es.take n)))):=fun E a w ⟨G,m,hA⟩=>by
 have hlk:∀x,(s.ba h (some (.row true k (es.take n)))).lk x=if x=h then some (.row true k (es.take n))else s.lk x:=fun x=>aQ _ _ _ _
 have henv:(s.ba h (some (.row true k (es.take n)))).env=s.env:=eO _ _ _;refine⟨G,m,⟨fun x b sz hx=>?_,fun x hx=>?_,hA.ew.da,hA.ew.gh,fun x hx=>?_,hA.ew.gl,fun x b sz fp hx=>?_⟩,fun u=>by rw[henv];exact hA.env u,hA.size,hA.defers,by rw[henv];exact hA.ki,fun j hj=>hA.fresh j (by rw[cC]at hj;exact hj),hA.frame,hA.base,hA.own,trivial,fun j hj=>jW hA.iv ⟨_,hl⟩ j (by rw[cC]at hj;exact hj)⟩
 ·obtain⟨bl,h1,h2⟩:=hA.ew.fh x b sz hx;rw[hlk];by_cases e:x=h
  ·subst e;rw[hl]at h1;cases h1;rw[if_pos rfl];obtain⟨vs,T,q1,q2,q3,q4,q5⟩:=h2;exact⟨_,rfl,vs,T,q1,q2,Nat.le_trans (Nat.mul_le_mul_right k (by rw[List.length_take];exact Nat.min_le_right _ _)) q3,DV.en n q4,q5⟩
  ·rw[if_neg e];exact⟨bl,h1,h2⟩
 ·obtain⟨mt,k',h1⟩:=hA.ew.nil x hx;rw[hlk];by_cases e:x=h
  ·subst e;rw[hl]at h1;cases h1;rw[if_pos rfl];exact⟨true,k,by rw[List.take_nil]⟩
  ·rw[if_neg e];exact⟨mt,k',h1⟩
 ·have h1:=hA.ew.dead x hx;rw[hlk];by_cases e:x=h
  ·subst e;rw[hl]at h1;cases h1
  ·rw[if_neg e];exact h1
 ·obtain⟨bl,h1,h2⟩:=hA.ew.di x b sz fp hx;rw[hlk];by_cases e:x=h
  ·subst e;rw[hl]at h1;cases h1;exact h2.elim
  ·rw[if_neg e];exact⟨bl,h1,h2⟩
def CJ(s:XS)(n:Nat)(h:Hd)(t:Ty)(len:Nat):XS:=match s.lk h with
 |some (.row true t' xs)=>match t'.beq t with
  |true=>(s.ba h (some (.row true t' (xs.take len)))).put (some n) (.slw h t len) [] []
  |false=>s
 |_=>s
theorem Kw[YL]{s:XS}{n:Nat}{len:Nat}(he:aR s.env n=.sl h t 0 len):Wk s.er (CJ s n h t len).er:=by
 unfold CJ;split
 ·rename_i t' xs hl;split
  ·rw[eS,cH hl];have hl':s.er.lk h=some (.row true t'.n (xs.map t'.ds)):=by rw[aU,hl];rfl
   have h1:=Wk.A3 s.er h len hl';have e1:(some (XB.row true t' (xs.take len))).map XB.er=some (.row true t'.n ((xs.map t'.ds).take len)):=by show some (bn.row true t'.n ((xs.take len).map t'.ds))=_;rw[aaz]
   rw[e1];refine h1.trans ?_;have e2:((s.er.ba h (some (.row true t'.n ((xs.map t'.ds).take len)))).put (some n) (XV.slw h t len).er (List.map XB.er []) [])=s.er.ba h (some (.row true t'.n ((xs.map t'.ds).take len))):=by
    refine an.ext' (fun i=>?_) (fun i=>?_) (fun i=>?_) rfl
    ·show gb _ n _ i=_;unfold gb;rw[eO];by_cases hi:i=n
     ·rw[if_pos hi,hi];show _=(aR s.env n).er;rw[he];rfl
     ·rw[if_neg hi]
    ·rfl
    ·rfl
   rw[e2];exact Wk.refl _
  ·exact Wk.refl _
 ·exact Wk.refl _
def wv:List (Nat×XV)->XS->XS
 |[],s=>s
 |(n,m)::r,s=>match m,aR s.env n with
  |.slw _ t _,.fln _=>wv r (s.put (some n) (.slw (.O s.own.length) t 0) [.row true t []] [])
  |.slw _ _ _,.sl h t 0 len=>wv r (CJ s n h t len)
  |_,_=>wv r s
theorem D1[YL]:∀(l:List (Nat×XV)) (s:XS),Wk s.er (wv l s).er
 |[],s=>Wk.refl _
 |(n,m)::l,s=>by
  unfold wv;split
  ·rename_i h;refine Wk.trans ?_ (D1 l _);rw[eS];exact an.o7 s.er n _ (by show(aR s.env n).er=_;rw[h];rfl)
  ·rename_i h;exact(Kw h).trans (D1 l _)
  ·exact D1 l s
def L3:List (Option Hd)->Nat->Hd->List (Option Hd)
 |[],_,_=>[]
 |none::r,0,h=>some h::r
 |some x::r,0,_=>some x::r
 |x::r,i+1,h=>x::L3 r i h
def vm(l:List (Option Hd))(i:Option Nat)(h:Hd):List (Option Hd):=match i with
 |some i=>L3 l i h
 |none=>l
mutual
def O4(vr:Hd->Option Nat):XV->XV->List (Option Hd)->List (Option Hd)
 |.slw h _ _,v,l=>match v with
  |.slw h' _ _=>vm l (vr h) h'
  |_=>l
 |.ptr h _,v,l=>match v with
  |.ptr h' _=>vm l (vr h) h'
  |_=>l
 |.rpt h _,v,l=>match v with
  |.rpt h' _=>vm l (vr h) h'
  |_=>l
 |.apt h _,v,l=>match v with
  |.apt h' _=>vm l (vr h) h'
  |_=>l
 |.mref h,v,l=>match v with
  |.mref h'=>vm l (vr h) h'
  |_=>l
 |.itr a e,v,l=>match v with
  |.itr a' e'=>vm (vm l (vr a) a') (vr e) e'
  |_=>l
 |.agg ms,v,l=>match v with
  |.agg vs=>Bz vr ms vs l
  |_=>l
 |.clo _ ms,v,l=>match v with
  |.clo _ vs=>Bz vr ms vs l
  |_=>l
 |_,_,l=>l
def Bz(vr:Hd->Option Nat):List XV->List XV->List (Option Hd)->List (Option Hd)
 |m::ms,v::vs,l=>Bz vr ms vs (O4 vr m v l)
 |_,_,l=>l
end
def AR(vr:Hd->Option Nat)(ev:Nat->XV):List (Nat×XV)->List (Option Hd)->List (Option Hd)
 |[],l=>l
 |(n,m)::r,l=>AR vr ev r (O4 vr m (ev n) l)
structure NZ where
 s:XS
 l:List (Option Hd)
def EA(vr:Hd->Option Nat)(h:Option Hd)(mb:Option XB)(st:NZ):NZ:=match h,mb with
 |some h,some m=>match st.s.lk h,m with
  |some (.box cs),.box ms=>nzB1 vr h ms (zk h [] ms cs st.s) st.l
  |some (.mp _ _ _ _ _ i),.mp _ _ _ _ _ mi=>⟨Fl mi.isSome st.s h,match mi,i with
   |some (x,_),some (y,_)=>vm st.l (vr x) y
   |_,_=>st.l⟩
  |_,_=>st
 |_,_=>st
where nzB1 (vr:Hd->Option Nat) (h:Hd) (ms:List XV) (s:XS) (l:List (Option Hd)):NZ:=⟨s,match s.lk h with
 |some (.box cs)=>Bz vr ms cs l
 |_=>l⟩
theorem O7[YL](vr:Hd->Option Nat)(h:Option Hd)(mb:Option XB)(st:NZ):Wk st.s.er (EA vr h mb st).s.er:=by
 unfold EA;split
 ·split
  ·rename_i hl;exact Si (pre:=[]) hl
  ·exact QK _ _ _
  ·exact Wk.refl _
 ·exact Wk.refl _
def Dl(vr:Hd->Option Nat):Nat->List (Option XB)->NZ->NZ
 |_,[],st=>st
 |i,m::r,st=>Dl vr (i+1) r (EA vr (some (.B i)) m st)
def GI:List (Option Hd)->Nat->Option Hd
 |[],_=>none
 |x::_,0=>x
 |_::r,i+1=>GI r i
def Ep(vr:Hd->Option Nat):Nat->List (Option XB)->NZ->NZ
 |_,[],st=>st
 |i,m::r,st=>Ep vr (i+1) r (EA vr (GI st.l i) m st)
theorem Gb[YL](vr:Hd->Option Nat):∀(l:List (Option XB)) (i:Nat) (st:NZ),Wk st.s.er (Dl vr i l st).s.er
 |[],_,_=>Wk.refl _
 |m::r,i,st=>(O7 vr _ m st).trans (Gb vr r _ _)
theorem FH[YL](vr:Hd->Option Nat):∀(l:List (Option XB)) (i:Nat) (st:NZ),Wk st.s.er (Ep vr i l st).s.er
 |[],_,_=>Wk.refl _
 |m::r,i,st=>(O7 vr _ m st).trans (FH vr r _ _)
def sx:Hd->Option Nat
 |.O i=>some i
 |.B _=>none
def Ci:Hd->Option Nat
 |.B i=>some i
 |.O _=>none
def A9:List (Option XB)->List (Option Hd)
 |[]=>[]
 |_::r=>none::A9 r
def Oa(m:XS)(s:XS):NZ:=⟨s,AR sx (aR s.env) m.env (A9 m.own)⟩
def PK(m s:XS):NZ:=Ep sx 0 m.own (Dl sx 0 m.bs (Oa m (wv m.env s)))
theorem Xf[YL](m s:XS):Wk s.er (PK m s).s.er:=(D1 m.env s).trans ((Gb sx m.bs 0 (Oa m (wv m.env s))).trans (FH sx _ _ _))
def KV:List (Option Hd)->Option (List Nat)
 |[]=>some []
 |some (.O j)::r=>match KV r with
  |some l=>some (j::l)
  |none=>none
 |_=>none
def C9:List Nat->Bool
 |[]=>true
 |x::l=>(uS x l 0).isNone&&C9 l
theorem KO:∀{l:List Nat},C9 l=true->l.Nodup
 |[],_=>List.nodup_nil
 |x::l,h=>by unfold C9 at h;rw[μ]at h;exact abk.2 ⟨Fw (Option.isNone_iff_eq_none.1 h.1),KO h.2⟩
def rV(s:XS):List Nat->List (Option XB)
 |[]=>[]
 |j::r=>bN s.own j::rV s r
theorem Hi(s:XS):∀(sl:List Nat) (i:Nat),bN (rV s sl) i=(sl[i]?).bind fun j=>bN s.own j
 |[],_=>by simp[rV,bN]
 |j::r,0=>rfl
 |j::r,i+1=>by show bN (rV s r) i=_;rw[Hi s r i];simp
def CY(m:XS)(ev:XS->Nat->XV)(st:NZ)(K:cn m.cj->Option R):Option R:=match KV st.l with
 |some sl=>match C9 sl with
  |true=>EH st.s (jx sl) m (ev st.s) st.s.bs (rV st.s sl) K
  |false=>none
 |none=>none
def rd(m s:XS)(K:cn m.cj->Option R):Option R:=CY m (fun s=>aR s.env) (PK m s) K
theorem oW[YL]:∀(l:List (Option XB)) (i:Nat),((du l)[i]?).join=(bN l i).map XB.er
 |[],_=>by simp[du,bN]
 |b::r,0=>rfl
 |b::r,i+1=>by have:=oW r i;simpa[du,bN]using this
theorem JR[YL](i:Nat):∀l:List (Nat×XV),(aR l i).er=so (l.map fun p=>(p.1,p.2.er)) i
 |[]=>rfl
 |(n,v)::r=>by
  show(if aaa i n=true then v else aR r i).er=if i=n then v.er else so (r.map _) i
  by_cases h:i=n
  ·rw[if_pos h,if_pos (by rw[abn];exact h)]
  ·rw[if_neg h,if_neg (by rw[abn];exact h)];exact JR i r
theorem RL{s:XS}:∀h h' b,jx sl h=some h'->s.lk h=some b->match h' with|.B i=>bN s.bs i=some b|.O i=>bN (rV s sl) i=some b:=fun h h' b e hl=>by
 cases h with
 |B i=>cases e;exact hl
 |O j=>
  have e:(uS j sl 0).map Hd.O=some h':=e;rw[ι]at e;obtain⟨i,hi,rfl⟩:=e;obtain⟨_,h2⟩:=vO hi;show bN (rV s sl) i=some b;rw[Hi,show sl[i]?=some j from h2];exact hl
structure xl [YL] (m s1:XS) (sl:List Nat) (ev:Nat->XV) (f:XS):Prop where
 nd:sl.Nodup
 env:f.env.map (fun p=>(p.1,p.2.er))=m.env.map (fun p=>(p.1,AV.conv s1.er.lk (jx sl) (ev p.1).er))
 bs:du f.bs=(du s1.bs).map (fun b=>b.map (bn.conv s1.er.lk (jx sl)))
 own:du f.own=(du (rV s1 sl)).map (fun b=>b.map (bn.conv s1.er.lk (jx sl)))
theorem Ly[YL]{m:XS}{ev:XS->Nat->XV}{st:NZ}{K:cn m.cj->Option R}{r:R}(h:CY m ev st K=some r):∃v sl,K v=some r/\xl m st.s sl (ev st.s) (m.fill v):=by
 unfold CY at h;split at h
 ·rename_i sl _;split at h
  ·rename_i hn;obtain⟨v,h,e1,e2,e3⟩:=Kt RL h;exact⟨v,sl,h,KO hn,e1,e2,e3⟩
  ·cases h
 ·cases h
theorem xl.wk[YL]{m s1:XS}{sl:List Nat}{f:XS}(h:xl m s1 sl (aR s1.env) f):Wk s1.er f.er:=by
 have hw:=an.Bv s1.er (m.env.map (·.1)) h.nd;have e:s1.er.wk (m.env.map (·.1)) sl=f.er:=by
  refine an.ext' (fun i=>?_) (fun i=>?_) (fun i=>?_) ?_
  ·show so _ i=(aR f.env i).er;rw[JR,h.env,List.map_map];rfl
  ·show((bN s1.bs i).map XB.er).map _=(bN f.bs i).map XB.er;rw[<-oW,<-oW,h.bs,aac];cases(du s1.bs)[i]?<;>rfl
  ·show(sl[i]?).bind _=(bN f.own i).map XB.er;rw[<-oW f.own,h.own,aac];have:((du (rV s1 sl))[i]?).join=(sl[i]?).bind fun j=>s1.er.own j:=by rw[oW,Hi];cases sl[i]?<;>rfl
   cases hq:(du (rV s1 sl))[i]?with
   |none=>
    rw[hq]at this;cases hs:sl[i]?with
    |none=>rfl
    |some j=>
     rw[hs]at this;have this:none=s1.er.own j:=this;show(s1.er.own j).map _=_;rw[<-this];rfl
   |some b=>
    rw[hq]at this;cases hs:sl[i]?with
    |none=>
     rw[hs]at this;have this:b=none:=this;subst this;rfl
    |some j=>
     rw[hs]at this;have this:b=s1.er.own j:=this;subst this;rfl
  ·show sl.length=f.own.length;have:=congrArg List.length h.own;rw[κ]at this;have e1:(du f.own).length=f.own.length:=κ _;have e2:(du (rV s1 sl)).length=(rV s1 sl).length:=κ _;have e3:∀l:List Nat,(rV s1 l).length=l.length:=fun l=>by
    induction l with
    |nil=>rfl
    |cons x l ih=>exact congrArg (· +1) ih
   rw[e1,e2,e3]at this;exact this.symm
 rw[e]at hw;exact hw
theorem AG[YL]{m s:XS}{K:cn m.cj->Option R}{r:R}(h:rd m s K=some r):∃v,K v=some r/\Wk s.er (m.fill v).er:=by obtain⟨v,sl,h,hr⟩:=Ly h;exact⟨v,h,(Xf m s).trans hr.wk⟩
end
end Go.Eng
