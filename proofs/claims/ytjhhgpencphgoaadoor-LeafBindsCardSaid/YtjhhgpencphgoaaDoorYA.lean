/- The package-level tables of numbers, typed. -/
import Derived.Test.YtjhhgpencphgoaaDoorEC
open Bool renaming and_eq_true->μ,and_true->ga,noConfusion->c6
open List renaming all_eq_true->di,append_assoc->a9,append_nil->bj,drop_append->il,drop_eq_nil_of_le->ef,drop_left->jy,drop_zero->da,getElem?_append_right->cg,getElem?_eq_getElem->ν,getElem?_eq_none->dc,getElem?_eq_some_iff->ω,getElem?_map->τ,length_append->κ,length_drop->υ,length_map->ι,map_append->cd,map_cons->df,map_drop->cj,map_take->ce,mem_of_getElem?->cf,nil_append->d6,nodup_cons->eq,replicate->br,take_of_length_le->bn
open Nat renaming beq->χ,beq_eq->f8,blt_eq->j1,eq_of_beq_eq_true->η,le_of_ble_eq_true->e8,le_refl->π,sub_self->jb,zero_le->eo
open Option renaming bind_eq_some_iff->ε,isSome_map->ew,ite_none_right_eq_some->δ,map_eq_some_iff->ζ,map_map->jx
set_option linter.all false
namespace Go.Eng
open Go.RowKit
variable{α:Type}{n:Nat}
abbrev Str:=List UInt8
def if?{α:Type}(c:Bool)(a b:Option α):Option α:=match c with
 |true=>a
 |false=>b
def ck{α:Type}(k:IntKind)(n:Int)(a:Option α):Option α:=if k.wrap n=n then a else none
def gd?{α:Type}(p:Prop)[Decidable p](a:Option α):Option α:=if p then a else none
def bS{α β:Type}(xs:List α)(j:Int)(f:α->Option β):Option β:=if 0<=j then match xs[j.toNat]?with
 |some x=>f x
 |none=>none else none
def bd?{α β:Type}(a:Option α)(f:α->Option β):Option β:=match a with
 |some x=>f x
 |none=>none
def ab?{α:Type}[DecidableEq α](a b:Option α):Option α:=if a=b then a else none
theorem bGm{α:Type}[DecidableEq α]{a b:Option α}{r:α}(h:ab? a b=some r):a=some r/\b=some r:=by
 unfold ab? at h;split at h
 ·rename_i e;exact⟨h,e▸h⟩
 ·cases h
theorem aHx{c:Bool}{a b:Option α}{r:α}(h:if? c a b=some r):(c=true/\a=some r)\/(c=false/\b=some r):=by
 cases c
 ·exact .inr ⟨rfl,h⟩
 ·exact .inl ⟨rfl,h⟩
theorem bGk{k:IntKind}{n:Int}{a:Option α}{r:α}(h:ck k n a=some r):k.wrap n=n/\a=some r:=by
 unfold ck at h;split at h
 ·exact⟨‹_›,h⟩
 ·cases h
theorem aS{p:Prop}[Decidable p]{a:Option α}{r:α}(h:gd? p a=some r):p/\a=some r:=by
 unfold gd? at h;split at h
 ·exact⟨‹_›,h⟩
 ·cases h
theorem aJu{β:Type}{xs:List α}{j:Int}{f:α->Option β}{r:β}(h:bS xs j f=some r):∃x,0<=j/\xs[j.toNat]?=some x/\f x=some r:=by
 unfold bS at h;split at h
 ·split at h
  ·exact⟨_,‹_›,‹_›,h⟩
  ·cases h
 ·cases h
theorem bAm{β:Type}{a:Option α}{f:α->Option β}{r:β}(h:bd? a f=some r):∃x,a=some x/\f x=some r:=by
 unfold bd? at h;split at h
 ·exact⟨_,rfl,h⟩
 ·cases h
theorem bF7{k:Nat}{a b:List (List DV)}:Uni k (a++b)=(Uni k a/\Uni k b):=by simp only[Uni,List.mem_append,eq_iff_iff];exact⟨fun h=>⟨fun e he=>h e (.inl he),fun e he=>h e (.inr he)⟩,fun⟨h1,h2⟩ e he=>he.elim (h1 e) (h2 e)⟩
theorem aXg{f:α->List DV}{k:Nat}(hf:∀x,(f x).length=k){xs:List α}:Uni k (xs.map f)=True:=by simp only[Uni,List.mem_map,eq_iff_iff,iff_true];rintro e ⟨x,_,rfl⟩;exact hf x
theorem aYn{f:α->List DV}(hf:∀x,(f x).all DV.one=true){xs:List α}:aCc (xs.map f)=true:=by simp only[aCc,di,List.mem_map];rintro e ⟨x,_,rfl⟩;exact di.1 (hf x)
theorem AState.own0_ok(s:AState)(t k:Nat)(h:s.env t=.fl []):Wk s (s.own0 t k):=fun E a w ⟨G,m,hA⟩=>by
 have hn:m (.O s.nx)=none:=hA.fresh _ (π _);have hle:HM.le m (aL m (.O s.nx) .none):=fun x loc hx=>by
  unfold aL;by_cases e:x=.O s.nx
  ·rw[e,hn]at hx;cases hx
  ·rw[if_neg e];exact .inl (.inl hx)
 have hjok:E.J ((s.own0 t k).env E.N) w:=by
  show E.J (upd s.env t (.sl (.O s.nx) k 0 0) E.N) w;unfold upd;by_cases e:E.N=t
  ·rw[if_pos e];exact E.Jsl (.fl []) _ _ rfl (h▸e▸hA.jok)
  ·rw[if_neg e];exact hA.jok
 refine⟨G,aL m (.O s.nx) .none,hA.sim.nilRow hn _ _ k,fun u=>?_,hA.size,hA.defers,hjok,fun i hi=>?_,hA.frame,fun i=>?_,fun i b sz hi=>?_,hA.noO,fun i hi=>mP hA.nxOk i hi⟩
 ·show AV.Rep G _ (upd s.env t (.sl (.O s.nx) k 0 0) u) _;unfold upd;by_cases e:u=t
  ·rw[if_pos e];have:=hA.env t;rw[h]at this;unfold AV.Rep at this;obtain⟨_,p,hp⟩:=this;rw[e,hp];unfold AV.Rep;exact⟨rfl,.none,by unfold aL;rw[if_pos rfl],fun _=>.inl ⟨p,rfl,rfl⟩⟩
  ·rw[if_neg e];exact AV.Rep.mono (Gh.le.refl G) hle _ _ (hA.env u)
 ·have hi':s.nx+1<=i:=hi;unfold aL;rw[if_neg (fun e=>by cases e;omega)];exact hA.fresh i (by omega)
 ·have:aL m (.O s.nx) .none (.B i)=m (.B i):=by unfold aL;rw[if_neg (fun e=>by cases e)]
  rw[this];exact hA.base i
 ·unfold aL at hi;split at hi
  ·cases hi;exact fun hb=>by cases hb
  ·exact hA.own i b sz hi
def AState.ownB(s:AState)(h:Hd)(cs:List AV)(i k:Nat):AState:=(s.put none .un [.row true k []] []).setBlk h (some (.box (cs.set i (.sl (.O s.nx) k 0 0))))
theorem aKj{G:Gh}{m:HM}:∀{cs:List AV} {vs:List Value} {i:Nat} {a:AV},AV.RepL G m cs vs->(∀v,vs[i]?=some v->AV.Rep G m a v)->AV.RepL G m (cs.set i a) vs
 |[],vs,i,a,h,_=>by simpa using h
 |c::cs,vs,0,a,h,ha=>by
  unfold AV.RepL at h;obtain⟨v,vs',rfl,_,h2⟩:=h;simp only[List.set_cons_zero];unfold AV.RepL;exact⟨v,vs',rfl,ha v rfl,h2⟩
 |c::cs,vs,i+1,a,h,ha=>by unfold AV.RepL at h;obtain⟨v,vs',rfl,h1,h2⟩:=h;simp only[List.set_cons_succ];unfold AV.RepL;exact⟨v,vs',rfl,h1,aKj h2 (fun u hu=>ha u (by simpa using hu))⟩
theorem AState.ownB_ok(s:AState)(h:Hd)(cs:List AV)(i k:Nat)(hl:s.lk h=some (.box cs))(hi:cs[i]?=some (.fl [])):Wk s (s.ownB h cs i k):=fun E a w ⟨G,m,hA⟩=>by
 have hn:m (.O s.nx)=none:=hA.fresh _ (π _);have hle:HM.le m (aL m (.O s.nx) .none):=yY hn;have hne:h≠.O s.nx:=fun e=>by have h0:s.lk (.O s.nx)=none:=hA.nxOk _ (π _);rw[e,h0]at hl;cases hl
 have hS:=hA.sim.nilRow hn none .un k;have hlk1:(s.put none .un [.row true k []] []).lk h=some (.box cs):=by
  rw[iE,cT];cases h with
  |B j=>exact hl
  |O j=>
   show(if s.nx<=j/\j<s.nx+[Blk.row true k []].length then _ else s.lk (.O j))=_;rw[if_neg (fun hc=>hne (by congr 1;simp at hc;omega))];exact hl
 have hlk:∀x,(s.ownB h cs i k).lk x=if x=h then some (.box (cs.set i (.sl (.O s.nx) k 0 0)))else(s.put none .un [.row true k []] []).lk x:=fun x=>bH _ _ _ _
 refine⟨G,aL m (.O s.nx) .none,⟨fun x b sz hx=>?_,fun x hx=>?_,hS.injG,hS.gh,fun x hx=>?_,hS.gl,fun x b sz fp hx=>?_⟩,fun u=>?_,hA.size,hA.defers,?_,fun j hj=>?_,hA.frame,fun j=>?_,fun j b sz hj=>?_,trivial,fun j hj=>?_⟩
 ·obtain⟨bl,h1,h2⟩:=hS.blk x b sz hx;rw[hlk];by_cases e:x=h
  ·subst e;rw[if_pos rfl];rw[hlk1]at h1;cases h1;obtain⟨vs,T,q1,q2,q3,q4⟩:=h2;refine⟨_,rfl,vs,T,q1,q2,aKj q3 (fun v hv=>?_),q4⟩;obtain⟨v',hv',hr⟩:=AV.RepL_get q3 hi;rw[hv]at hv';cases hv';unfold AV.Rep at hr;obtain⟨_,p,hp⟩:=hr;subst hp;unfold AV.Rep;exact⟨rfl,.none,by unfold aL;rw[if_pos rfl],fun _=>.inl ⟨p,rfl,rfl⟩⟩
  ·rw[if_neg e];exact⟨bl,h1,h2⟩
 ·obtain⟨mt,k',h1⟩:=hS.nil x hx;rw[hlk];by_cases e:x=h
  ·subst e;rw[hlk1]at h1;cases h1
  ·rw[if_neg e];exact⟨mt,k',h1⟩
 ·have h1:=hS.dead x hx;rw[hlk];by_cases e:x=h
  ·subst e;rw[hlk1]at h1;cases h1
  ·rw[if_neg e];exact h1
 ·obtain⟨bl,h1,h2⟩:=hS.blkx x b sz fp hx;rw[hlk];by_cases e:x=h
  ·subst e;rw[hlk1]at h1;cases h1;exact h2.elim
  ·rw[if_neg e];exact⟨bl,h1,h2⟩
 ·have:(s.ownB h cs i k).env=s.env:=by unfold AState.ownB;rw[eC];rfl
  rw[this];exact AV.Rep.mono (Gh.le.refl G) hle _ _ (hA.env u)
 ·have:(s.ownB h cs i k).env=s.env:=by unfold AState.ownB;rw[eC];rfl
  rw[this];exact hA.jok
 ·have hj':s.nx+1<=j:=by
   have:(s.ownB h cs i k).nx=s.nx+1:=by unfold AState.ownB;rw[bY];rfl
   omega
  unfold aL;rw[if_neg (fun e=>by cases e;omega)];exact hA.fresh j (by omega)
 ·have:aL m (.O s.nx) .none (.B j)=m (.B j):=by unfold aL;rw[if_neg (fun e=>by cases e)]
  rw[this];exact hA.base j
 ·unfold aL at hj;split at hj
  ·cases hj;exact fun hb=>by cases hb
  ·exact hA.own j b sz hj
 ·have h0:∀j,(s.put none .un [.row true k []] []).nx<=j->(s.put none .un [.row true k []] []).own j=none:=fun j hj=>mP hA.nxOk j hj;exact jB h0 ⟨_,hlk1⟩ j (by unfold AState.ownB at hj;rw[bY]at hj;exact hj)
def qJ(mvs:List Nat):Hd->Hd
 |.B j=>match pX j mvs 0 with
  |some i=>.O i
  |none=>.B j
 |.O i=>.O i
def aIt(args:List AV)(bs:List (Option Blk))(mvs:List Nat):AState:=
 {env:=fun t=>(AV.renL (qJ mvs) args).getD t .un,bs:=fun j=>if j∈mvs then none else((bs[j]?).join).map (Blk.ren (qJ mvs)),own:=fun i=>(mvs[i]?).bind fun j=>((bs[j]?).join).map (Blk.ren (qJ mvs)),nx:=mvs.length}
theorem aJx{j:Nat}:∀{l:List Nat} {n i:Nat},l.Nodup->l[i]?=some j->pX j l n=some (n+i)
 |[],_,_,_,q=>by simp at q
 |x::xs,n,0,_,q=>by
  simp only[List.getElem?_cons_zero,Option.some.injEq]at q;unfold pX;rw[if_pos q];rfl
 |x::xs,n,i+1,hn,q=>by simp only[List.getElem?_cons_succ]at q;unfold pX;rw[if_neg (fun e:x=j=>(eq.1 hn).1 (by rw[e];exact cf q)),aJx (eq.1 hn).2 q];congr 1;omega
theorem bC5(ψ:Hd->Hd):AV.ren ψ .un=.un:=rfl
theorem xW{ψ:Hd->Hd}:∀(l:List AV) (t:Nat),(AV.renL ψ l).getD t .un=AV.ren ψ (l.getD t .un)
 |[],t=>by simp[AV.renL,bC5]
 |a::l,0=>by simp[AV.renL]
 |a::l,t+1=>by have:=xW (ψ:=ψ) l t;simpa[AV.renL]using this
theorem aRg(args:List AV)(bs:List (Option Blk))(mvs:List Nat)(hnd:mvs.Nodup):Wk (entry args bs) (aIt args bs mvs):=fun E a w ⟨G,m,hA⟩=>by
 have hlk:∀j,(entry args bs).lk (.B j)=(bs[j]?).join:=fun j=>rfl;have hO:∀i,m (.O i)=none:=fun i=>hA.fresh i (eo _);obtain⟨m',hm'⟩:∃m':HM,m'=fun x=>match x with
  |.O i=>(mvs[i]?).bind fun j=>m (.B j)
  |.B j=>if j∈mvs then(m (.B j)).map fun _=>.dead else m (.B j):=⟨_,rfl⟩
 have mB:∀j,j∉mvs->m' (.B j)=m (.B j):=fun j hj=>by rw[hm'];exact if_neg hj
 have mBd:∀j,j∈mvs->m' (.B j)=(m (.B j)).map fun _=>.dead:=fun j hj=>by rw[hm'];exact if_pos hj
 have mO:∀i,m' (.O i)=(mvs[i]?).bind fun j=>m (.B j):=fun i=>by rw[hm']
 have hpsi:∀j,j∉mvs->qJ mvs (.B j)=.B j:=fun j hj=>by
  cases e:pX j mvs 0 with
  |none=>simp only[qJ,e]
  |some i=>obtain⟨_,h⟩:=qM e;exact absurd (cf h) hj
 have hback:∀x loc,m x=some loc->m' (qJ mvs x)=some loc:=fun x loc hx=>by
  cases x with
  |O i=>rw[hO i]at hx;cases hx
  |B j=>
   by_cases hj:j∈mvs
   ·obtain⟨i,hi⟩:=List.getElem?_of_mem hj;have:qJ mvs (.B j)=.O i:=by simp[qJ,aJx (n:=0) hnd hi]
    rw[this,mO,hi];exact hx
   ·rw[hpsi j hj,mB j hj];exact hx
 have get:∀x loc,m' x=some loc->loc≠.dead->(∃j,x=.B j/\j∉mvs/\m (.B j)=some loc)\/(∃i j,x=.O i/\mvs[i]?=some j/\m (.B j)=some loc):=fun x loc hx hl=>by
  cases x with
  |B j=>
   by_cases hj:j∈mvs
   ·rw[mBd j hj,ζ]at hx;obtain⟨_,_,e⟩:=hx;exact absurd e.symm hl
   ·rw[mB j hj]at hx;exact .inl ⟨j,rfl,hj,hx⟩
  |O i=>
   rw[mO,ε]at hx;obtain⟨j,h1,h2⟩:=hx;exact .inr ⟨i,j,rfl,h1,h2⟩
 have lkB:∀j,j∉mvs->(aIt args bs mvs).lk (.B j)=((bs[j]?).join).map (Blk.ren (qJ mvs)):=fun j hj=>if_neg hj;have lkO:∀i j,mvs[i]?=some j->(aIt args bs mvs).lk (.O i)=((bs[j]?).join).map (Blk.ren (qJ mvs)):=fun i j hi=>by show(mvs[i]?).bind _=_;rw[hi];rfl
 have hjok:E.J ((aIt args bs mvs).env E.N) w:=by show E.J ((AV.renL (qJ mvs) args).getD E.N .un) w;rw[xW];exact E.Jren _ _ _ hA.jok
 refine⟨G,m',⟨fun x b sz hx=>?_,fun x hx=>?_,fun x y l l' b hx hy hb hb'=>?_,hA.sim.gh,fun x hx=>?_,hA.sim.gl,fun x b sz fp hx=>?_⟩,fun t=>?_,hA.size,hA.defers,hjok,fun i hi=>?_,hA.frame,fun j=>?_,fun h0 l0 b0 q0=>?_,hA.noO,fun i hi=>?_⟩
 ·rcases get x _ hx (by simp)with⟨j,rfl,hj,h1⟩|⟨i,j,rfl,hi,h1⟩
  ·obtain⟨bl,h2,h3⟩:=hA.sim.blk _ b sz h1;rw[hlk]at h2;exact⟨_,by rw[lkB j hj,h2];rfl,h3.ren hback⟩
  ·obtain⟨bl,h2,h3⟩:=hA.sim.blk _ b sz h1;rw[hlk]at h2;exact⟨_,by rw[lkO i j hi,h2];rfl,h3.ren hback⟩
 ·rcases get x _ hx (by simp)with⟨j,rfl,hj,h1⟩|⟨i,j,rfl,hi,h1⟩
  ·obtain⟨mt,k,h2⟩:=hA.sim.nil _ h1;rw[hlk]at h2;exact⟨mt,k,by rw[lkB j hj,h2];rfl⟩
  ·obtain⟨mt,k,h2⟩:=hA.sim.nil _ h1;rw[hlk]at h2;exact⟨mt,k,by rw[lkO i j hi,h2];rfl⟩
 ·have hne:∀{l:Loc} {b:Nat},b∈l.blks->l≠.dead:=fun h e=>by subst e;cases h
  rcases get x _ hx (hne hb)with⟨j,rfl,hj,h1⟩|⟨i,j,rfl,hi,h1⟩<;>rcases get y _ hy (hne hb')with⟨j',rfl,hj',h1'⟩|⟨i',j',rfl,hi',h1'⟩
  ·exact hA.sim.injG _ _ l l' b h1 h1' hb hb'
  ·have:=hA.sim.injG _ _ l l' b h1 h1' hb hb';cases this;exact absurd (cf hi') hj
  ·have:=hA.sim.injG _ _ l l' b h1 h1' hb hb';cases this;exact absurd (cf hi) hj'
  ·have:=hA.sim.injG _ _ l l' b h1 h1' hb hb';cases this;have hlt:=(ω.1 hi).1;rw[(List.getElem?_inj hlt hnd).1 (hi.trans hi'.symm)]
 ·cases x with
  |B j=>
   by_cases hj:j∈mvs
   ·exact if_pos hj
   ·rw[mB j hj]at hx;have:=hA.sim.dead _ hx;rw[hlk]at this;rw[lkB j hj,this];rfl
  |O i=>
   rw[mO,ε]at hx;obtain⟨j,h1,h2⟩:=hx;have:=hA.sim.dead _ h2;rw[hlk]at this;rw[lkO i j h1,this];rfl
 ·rcases get x _ hx (by simp)with⟨j,rfl,hj,h1⟩|⟨i,j,rfl,hi,h1⟩
  ·obtain⟨bl,h2,h3⟩:=hA.sim.blkx _ b sz fp h1;rw[hlk]at h2;exact⟨_,by rw[lkB j hj,h2];rfl,h3.ren hback⟩
  ·obtain⟨bl,h2,h3⟩:=hA.sim.blkx _ b sz fp h1;rw[hlk]at h2;exact⟨_,by rw[lkO i j hi,h2];rfl,h3.ren hback⟩
 ·show AV.Rep G m' ((AV.renL (qJ mvs) args).getD t .un) _;rw[xW];exact AV.ren_rep hback _ _ (hA.env t)
 ·have hi:mvs.length<=i:=hi;rw[mO,dc hi];rfl
 ·by_cases hj:j∈mvs
  ·rw[mBd j hj];rcases hA.base j with h1|⟨h1,h2⟩|⟨b,sz,fp,fp',h1,h2⟩
   ·cases e:m (.B j)with
    |none=>left;rw[<-h1,e];rfl
    |some l=>right;left;exact⟨by rw[<-h1,e];simp,rfl⟩
   ·right;left;exact⟨h1,by rw[h2];rfl⟩
   ·right;left;exact⟨by rw[h1];simp,by rw[h2];rfl⟩
  ·rw[mB j hj];exact hA.base j
 ·intro hb;have hne:l0≠.dead:=fun e=>by subst e;cases hb
  rcases get h0 _ q0 hne with⟨j,rfl,_,h2⟩|⟨i,j,rfl,_,h2⟩<;>exact hA.own _ _ _ h2 hb
 ·have hi:mvs.length<=i:=hi;show(mvs[i]?).bind _=none;rw[dc hi];rfl
structure Arr (n:Nat)where
 l:List Int
 len:l.length=n
 deriving DecidableEq
instance{n:Nat}:Inhabited (Arr n):=⟨⟨br n 0,by simp⟩⟩
theorem Arr.ext:∀{x y:Arr n} (_:x.l=y.l),x=y
 |⟨_,_⟩,⟨_,_⟩,rfl=>rfl
def Arr.zero(n:Nat):Arr n:=⟨br n 0,by simp⟩
def Arr.set{n:Nat}(x:Arr n)(i:Nat)(v:Int):Arr n:=⟨x.l.set i v,by rw[List.length_set];exact x.len⟩
def Arr.putL(n:Nat)(x:List Int)(o:Nat)(ys:List Int):List Int:=if o+ys.length<=n then x.take o++ys++x.drop (o+ys.length)else x
theorem Arr.putL_len{x:List Int}(hx:x.length=n)(o:Nat)(ys:List Int):(Arr.putL n x o ys).length=n:=by
 unfold Arr.putL;split
 ·simp;omega
 ·exact hx
def Arr.put{n:Nat}(x:Arr n)(o:Nat)(ys:List Int):Arr n:=⟨Arr.putL n x.l o ys,Arr.putL_len x.len o ys⟩
def Arr.from(l:List Int)(m:Nat):Arr m:=⟨l.take m++br (m-(l.take m).length) 0,by simp;omega⟩
def Arr.part{n:Nat}(x:Arr n)(o m:Nat):Arr m:=Arr.from (x.l.drop o) m
theorem Arr.l_set{x:Arr n}{i:Nat}{v:Int}:(x.set i v).l=x.l.set i v:=rfl
theorem Arr.l_put{x:Arr n}{o:Nat}{ys:List Int}(h:o+ys.length<=n):(x.put o ys).l=x.l.take o++ys++x.l.drop (o+ys.length):=if_pos h
theorem Arr.l_from{l:List Int}{m:Nat}(h:m<=l.length):(Arr.from l m).l=l.take m:=by
 show l.take m++br (m-(l.take m).length) 0=_;have:(l.take m).length=m:=by simp;omega
 simp only[this,jb,List.replicate_zero,bj]
theorem Arr.l_part{x:Arr n}{o m:Nat}(h:o+m<=n):(x.part o m).l=(x.l.drop o).take m:=by unfold Arr.part;exact Arr.l_from (by rw[υ,x.len];omega)
def aD(t:Str):List Int:=t.map fun c=>(c.toNat:Int)
theorem bW{t:Str}:(aD t).length=t.length:=ι _
class YL where
 l:Nat
inductive GX where
 |go
 |exit (id:Nat)
 |ret
 deriving Inhabited
def GX.code:GX->Option Code
 |.go=>none
 |.exit id=>some (.exit id)
 |.ret=>some .ret
end Go.Eng
namespace Go.Eng
def glT:Nat→Option (IntKind×List Int)
  |2=>some (.i64,gl2)
  |3=>some (.u32,gl3)
  |_=>none
theorem bCh(g:Nat):aFy g=(glT g).map fun p=>p.2.map (DV.I p.1):=by unfold aFy glT;split<;>first|rfl|(split<;>first|rfl|(simp_all;done))
end Go.Eng
namespace Go.Eng
open Go.RowKit
variable{off i:Nat}{h:Hd}{φ:Hd->Option Hd}{KP:AV->Prop}{len:Hd->Nat}{k:IntKind}{op:BinOp}{ag:Option Nat}{sl:List Nat}
inductive Ty where
 |u
 |b
 |i (k:IntKind)
 |s
 |p (x y:Ty)
 |w (x:Ty)
 |ar (n:Nat) (k:IntKind)
 |sl (t:Ty)
 |o (t:Ty)
 deriving Inhabited
variable{t:Ty}
def Ty.beq:Ty->Ty->Bool
 |.u,.u=>true
 |.b,.b=>true
 |.i k,.i k'=>decide (k=k')
 |.s,.s=>true
 |.p a e,.p c d=>a.beq c&&e.beq d
 |.w a,.w e=>a.beq e
 |.ar n k,.ar m k'=>χ n m&&decide (k=k')
 |.sl a,.sl e=>a.beq e
 |.o a,.o e=>a.beq e
 |_,_=>false
theorem Ty.eq_of{a b:Ty}(h:a.beq b=true):a=b:=by
 induction a generalizing b with
 |p x y ih1 ih2=>cases b<;>first|(simp only[Ty.beq,μ]at h;rw[ih1 h.1,ih2 h.2];done)|exact c6 (show false=true from h)
 |w x ih=>cases b<;>first|exact congrArg Ty.w (ih h)|exact c6 (show false=true from h)
 |o x ih=>cases b<;>first|exact congrArg Ty.o (ih h)|exact c6 (show false=true from h)
 |sl x ih=>cases b<;>first|exact congrArg Ty.sl (ih h)|exact c6 (show false=true from h)
 |ar n k=>cases b<;>first|(simp only[Ty.beq,μ,decide_eq_true_eq]at h;rw[η h.1,h.2];done)|exact c6 (show false=true from h)
 |i k=>cases b<;>first|exact congrArg Ty.i (of_decide_eq_true h)|exact c6 (show false=true from h)
 |u=>cases b<;>first|rfl|exact c6 (show false=true from h)
 |b=>cases b<;>first|rfl|exact c6 (show false=true from h)
 |s=>cases b<;>first|rfl|exact c6 (show false=true from h)
@[reducible] def Ty.T:Ty->Type
 |.u=>Unit
 |.b=>Bool
 |.i _=>Int
 |.s=>Str
 |.p x y=>x.T×y.T
 |.w x=>x.T
 |.ar n _=>Arr n
 |.sl t=>List t.T
 |.o t=>List t.T
def Ty.n:Ty->Nat
 |.u=>0
 |.p x y=>x.n+y.n
 |.w x=>x.n
 |.ar n _=>n
 |_=>1
def Ty.ds:(t:Ty)->t.T->List DV
 |.u,_=>[]
 |.b,x=>[.B x]
 |.i k,n=>[.I k n]
 |.s,t=>[.S t]
 |.p a c,v=>a.ds v.1++c.ds v.2
 |.w a,v=>a.ds v
 |.ar _ k,v=>v.l.map (.I k)
 |.sl t,xs=>[.L (xs.map t.ds)]
 |.o t,xs=>[.L (xs.map t.ds)]
theorem Ty.ds_len:∀(t:Ty) (x:t.T),(t.ds x).length=t.n
 |.u,_=>rfl
 |.b,_=>rfl
 |.i _,_=>rfl
 |.s,_=>rfl
 |.p a c,v=>by
  show(a.ds v.1++c.ds v.2).length=a.n+c.n;rw[κ,a.ds_len,c.ds_len]
 |.w a,v=>a.ds_len v
 |.ar n k,v=>by
  show(v.l.map (DV.I k)).length=n;rw[ι,v.len]
 |.sl t,xs=>rfl
 |.o _,_=>rfl
theorem Ty.ds_one:∀(t:Ty) (x:t.T),(t.ds x).all DV.one=true
 |.u,_=>rfl
 |.b,_=>rfl
 |.i _,_=>rfl
 |.s,_=>rfl
 |.p a c,v=>by
  show(a.ds v.1++c.ds v.2).all DV.one=true;rw[List.all_append,a.ds_one,c.ds_one];rfl
 |.w a,v=>a.ds_one v
 |.ar n k,v=>by
  show(v.l.map (DV.I k)).all DV.one=true;rw[List.all_map,di];intro _ _;rfl
 |.sl t,xs=>rfl
 |.o _,_=>rfl
theorem pZ(t:Ty)(xs:List t.T):Uni t.n (xs.map t.ds):=by rw[aXg fun x=>t.ds_len x];trivial
theorem aN8(t:Ty)(xs:List t.T):aCc (xs.map t.ds)=true:=aYn fun x=>t.ds_one x
@[reducible] def Ty.deq:(t:Ty)->DecidableEq t.T
 |.u=>inferInstanceAs (DecidableEq Unit)
 |.b=>inferInstanceAs (DecidableEq Bool)
 |.i _=>inferInstanceAs (DecidableEq Int)
 |.s=>inferInstanceAs (DecidableEq (List UInt8))
 |.p x y=>@instDecidableEqProd _ _ x.deq y.deq
 |.w x=>x.deq
 |.ar n _=>inferInstanceAs (DecidableEq (Arr n))
 |.sl t=>@instDecidableEqList _ t.deq
 |.o t=>@instDecidableEqList _ t.deq
instance(t:Ty):DecidableEq t.T:=t.deq
def Ty.cst(a b:Ty)(x:a.T):Option b.T:=if h:a.beq b=true then some (Ty.eq_of h▸x)else none
theorem Ty.cst_ok{a b:Ty}{x:a.T}{y:b.T}(h:a.cst b x=some y):∃e:a=b,e▸x=y:=by
 unfold Ty.cst at h;split at h
 ·exact⟨Ty.eq_of ‹_›,Option.some.inj h⟩
 ·cases h
inductive XV where
 |d (t:Ty) (x:t.T)
 |any
 |un
 |ab
 |ptr (h:Hd) (off:Nat)
 |ept (h:Hd) (t:Ty) (ix off:Nat)
 |apt (h:Hd) (ix:Nat)
 |pa (h:Hd) (off j:Nat)
 |epa (h:Hd) (t:Ty) (ix off j:Nat)
 |rpt (h:Hd) (off:Nat)
 |rpa (h:Hd) (off j:Nat)
 |rsl (h:Hd) (off l len:Nat)
 |rop (t:Ty) (x:t.T) (off:Nat)
 |fl (t:Ty) (xs:List t.T)
 |fln (t:Ty)
 |nl (t:Ty)
 |sl (h:Hd) (t:Ty) (off len:Nat)
 |asl (h:Hd) (off len:Nat)
 |slw (h:Hd) (t:Ty) (len:Nat)
 |mref (h:Hd)
 |itr (hm h:Hd)
 |sc
 |agg (cs:List XV)
 |tup (vs:List XV)
 |clo (f:Nat) (caps:List XV)
 |c (v:Value)
 |yld
 |gst (c:GX)
 deriving Inhabited
variable{cs l l2:List XV}{v a:XV}
def gI:(t:Ty)->t.T->AV
 |.b,x=>.D (.B x)
 |.i k,n=>.D (.I k n)
 |.s,t=>.D (.S t)
 |.sl t,xs=>.D (.L (xs.map t.ds))
 |.u,_=>.agg []
 |.p a c,v=>.agg (((Ty.p a c).ds v).map .D)
 |.w a,v=>.agg ((a.ds v).map .D)
 |.ar n k,v=>.agg (((Ty.ar n k).ds v).map .D)
 |.o t,xs=>.D (.L (xs.map t.ds))
mutual
def XV.er[YL]:XV->AV
 |.d t x=>gI t x
 |.any=>.any
 |.un=>.D (.C undef)
 |.ab=>.ab
 |.ptr h off=>.ptr h off
 |.ept h t ix off=>.eptr h t.n ix off
 |.apt h ix=>.eptr h 1 ix 0
 |.pa h off j=>.ptr h (off+j)
 |.rpt h off=>.eptr h 1 off 0
 |.rpa h off j=>.eptr h 1 (off+j) 0
 |.rsl h off l len=>.sl h 1 (off+l) len
 |.epa h t ix off j=>.eptr h t.n ix (off+j)
 |.mref h=>.mref h
 |.itr hm h=>.itr hm h
 |.rop t x off=>.rop ((t.ds x).drop off)
 |.fl t xs=>.fl (xs.map t.ds)
 |.fln _=>.fl []
 |.nl _=>.D (.L [])
 |.sl h t off len=>.sl h t.n off len
 |.asl h off len=>.sl h 1 off len
 |.slw h t len=>.sl h t.n 0 len
 |.sc=>.sc
 |.agg cs=>.agg (XV.fcL cs)
 |.tup vs=>.tup (XV.erL vs)
 |.clo f caps=>.clo f (XV.erL caps)
 |.c v=>.D (.C v)
 |.yld=>.yld YL.l
 |.gst q=>.gst q.code
def XV.erL[YL]:List XV->List AV
 |[]=>[]
 |a::as=>a.er::XV.erL as
def XV.fc[YL]:XV->List AV
 |.d t x=>(t.ds x).map .D
 |.agg cs=>XV.fcL cs
 |.any=>[.any]
 |.un=>[.D (.C undef)]
 |.ab=>[.ab]
 |.ptr h off=>[.ptr h off]
 |.ept h t ix off=>[.eptr h t.n ix off]
 |.apt h ix=>[.eptr h 1 ix 0]
 |.pa h off j=>[.ptr h (off+j)]
 |.rpt h off=>[.eptr h 1 off 0]
 |.rpa h off j=>[.eptr h 1 (off+j) 0]
 |.rsl h off l len=>[.sl h 1 (off+l) len]
 |.epa h t ix off j=>[.eptr h t.n ix (off+j)]
 |.mref h=>[.mref h]
 |.itr hm h=>[.itr hm h]
 |.rop t x off=>[.rop ((t.ds x).drop off)]
 |.fl t xs=>[.fl (xs.map t.ds)]
 |.fln _=>[.fl []]
 |.nl _=>[.D (.L [])]
 |.sl h t off len=>[.sl h t.n off len]
 |.asl h off len=>[.sl h 1 off len]
 |.slw h t len=>[.sl h t.n 0 len]
 |.sc=>[.sc]
 |.tup vs=>[.tup (XV.erL vs)]
 |.clo f caps=>[.clo f (XV.erL caps)]
 |.c v=>[.D (.C v)]
 |.yld=>[.yld YL.l]
 |.gst q=>[.gst q.code]
def XV.fcL[YL]:List XV->List AV
 |[]=>[]
 |a::as=>a.fc++XV.fcL as
end
def aSi:Ty->List IntKind
 |.i k=>[k]
 |.p x y=>aSi x++aSi y
 |.ar n k=>br n k
 |_=>[]
def aQ4:Ty->Bool
 |.i _=>true
 |.p x y=>aQ4 x&&aQ4 y
 |.ar _ _=>true
 |_=>false
def Ty.kd:Ty->KD
 |.i k=>.i k
 |.ar n k=>.a (br n k)
 |.w t=>.a (aSi t)
 |_=>.s
def aBt:Ty->Bool
 |.i _=>true
 |.s=>true
 |.ar _ _=>true
 |.w t=>aQ4 t
 |_=>false
def aQc(wr:Bool)(t:Ty)(x:t.T):MV:=match t,x with
 |.o t,x=>match wr with
  |false=>.o t.n (x.map t.ds)
  |true=>.ow t.n (x.map t.ds)
 |t,x=>.v (gI t x)
def bB6(wr:Bool)(t:Ty)(x:t.T):AV:=match wr with
 |false=>gI t x
 |true=>.any
def aBi(wr:Bool)(K V:Ty):List (K.T×V.T)->Option K.T->List (AV×MV)
 |[],_=>[]
 |e::es,none=>(gI K e.1,aQc wr V e.2)::aBi wr K V es none
 |e::es,some y=>if e.1=y then(gI K e.1,.v (bB6 wr V e.2))::aBi wr K V es none else(gI K e.1,aQc wr V e.2)::aBi wr K V es (some y)
def aV8(K V:Ty):List (K.T×V.T)->List K.T->List (AV×MV)
 |[],_=>[]
 |e::es,l=>if e.1∈l then(gI K e.1,aQc true V e.2)::aV8 K V es (l.erase e.1)else(gI K e.1,.v .any)::aV8 K V es l
inductive XB where
 |box (cs:List XV)
 |row (mt:Bool) (t:Ty) (xs:List t.T)
 |arr (mt:Bool) (n:Nat) (k:IntKind) (x:Arr n)
 |rb (mt:Bool) (t:Ty) (x:t.T)
 |mp (wr:Bool) (K V:Ty) (es:List (K.T×V.T)) (hole:Option K.T) (it:Option (Hd×Option K.T×List K.T))
 |it
 |sb (T:TypeId×TypeId) (us:Bool) (xs:List Int)
 deriving Inhabited
def arD(k:IntKind)(c:Int):List DV:=[.I k c]
def sgD(l:List DV):List (List DV):=l.map fun d=>[d]
def bFz{α:Type}:Option α->List α
 |none=>[]
 |some x=>[x]
def itX(K:Ty):Option (Hd×Option K.T×List K.T)->Option (Hd×List AV×List AV)
 |none=>none
 |some (h,cur,rem)=>some (h,(bFz cur).map (gI K),rem.map (gI K))
def aLi(wr:Bool)(K V:Ty)(es:List (K.T×V.T))(hole:Option K.T)(i:Option (Hd×Option K.T×List K.T)):List (AV×MV):=match wr,i with
 |true,some (_,cur,rem)=>aV8 K V es (bFz cur++rem)
 |_,_=>aBi wr K V es hole
def bFl{α:Type}(wr:Bool)(i:Option α):Bool:=!wr||i.isNone
def XB.er[YL]:XB->Blk
 |.box cs=>.box (XV.fcL cs)
 |.row mt t xs=>.row mt t.n (xs.map t.ds)
 |.arr mt _ k x=>.row mt 1 (x.l.map (arD k))
 |.rb mt t x=>.row mt 1 (sgD (t.ds x))
 |.mp wr K V es hole i=>.mp K.kd (aLi wr K V es hole i) (itX K i)
 |.it=>.it
 |.sb T us xs=>.sb T us (xs.map (Ty.i .u8).ds)
structure XS where
 env:List (Nat×XV)
 bs:List (Option XB)
 own:List (Option XB)
def cN:List (Nat×XV)->Nat->XV
 |[],_=>.any
 |(t,v)::r,i=>if χ i t then v else cN r i
def bB:List (Option XB)->Nat->Option XB
 |[],_=>none
 |b::_,0=>b
 |_::r,i+1=>bB r i
def tY:List (Option XB)->Nat->Option XB->List (Option XB)
 |[],_,_=>[]
 |_::r,0,x=>x::r
 |b::r,i+1,x=>b::tY r i x
def XS.lk(s:XS):Hd->Option XB
 |.B i=>bB s.bs i
 |.O i=>bB s.own i
def XS.er[YL](s:XS):AState:={env:=fun i=>(cN s.env i).er,bs:=fun i=>(bB s.bs i).map XB.er,own:=fun i=>(bB s.own i).map XB.er,nx:=s.own.length}
def aN0:Value->XV
 |.bool x=>.d .b x
 |.int k n=>.d (.i k) n
 |.string s=>.d .s s.data.toList
 |.slice none 0 0=>.fln .u
 |.agg cs=>.agg (cs.toList.map fun v=>match v with
  |.bool x=>.d .b x
  |.int k n=>.d (.i k) n
  |.string s=>.d .s s.data.toList
  |.slice none 0 0=>.fln .u
  |v=>.c v)
 |v=>.c v
def XS.ev(s:XS):Operand->XV
 |.tmp t=>cN s.env t
 |.const v=>aN0 v
 |.func f=>.clo f []
 |.global g=>match glT g with
  |some (k,l)=>.rop (.ar l.length k) ⟨l,rfl⟩ 0
  |none=>.any
theorem aQt[YL](v:Value):(aN0 v).er=gA v:=by
 unfold aN0 gA;split
 ·rfl
 ·rfl
 ·rfl
 ·rfl
 ·rename_i cs;simp only[XV.er];congr 1;generalize cs.toList=l
  induction l with
  |nil=>rfl
  |cons v l ih=>
   simp only[df,XV.fcL,ih];cases v with
   |slice a b c=>cases a<;>cases b<;>cases c<;>rfl
   |_=>rfl
 ·rename_i h1 h2 h3 h4 h5;cases v with
  |slice a b c=>
   cases a with
   |some a=>rfl
   |none=>
    cases b with
    |succ b=>rfl
    |zero=>
     cases c with
     |succ c=>rfl
     |zero=>exact absurd rfl h4
  |bool x=>exact absurd rfl (h1 x)
  |int k n=>exact absurd rfl (h2 k n)
  |string x=>exact absurd rfl (h3 x)
  |agg cs=>exact absurd rfl (h5 cs)
  |_=>rfl
theorem aP[YL](s:XS)(h:Hd):s.er.lk h=(s.lk h).map XB.er:=by cases h<;>rfl
section
def gl?{α β:Type}(n:Nat)(xs:List α)(a:Option β):Option β:=if n=xs.length then a else none
theorem aSs{α β:Type}{n:Nat}{xs:List α}{a:Option β}{r:β}(h:gl? n xs a=some r):n=xs.length/\a=some r:=by
 unfold gl? at h;split at h
 ·exact⟨‹_›,h⟩
 ·cases h
variable{R:Type}
def xck(k:IntKind)(n:Int)(K:Int->Option R):Option R:=match k.signed with
 |true=>ck k n (K n)
 |false=>K (k.wrap n)
theorem aI1{n:Int}{K:Int->Option R}{r:R}(h:xck k n K=some r):K (k.wrap n)=some r:=by
 unfold xck at h;split at h
 ·obtain⟨e,h⟩:=bGk h;rw[e];exact h
 ·exact h
def bFq(op:BinOp)(k:IntKind)(x y:Int)(K:XV->Option R):Option R:=
 match op with
 |.add=>xck k (x+y) fun n=>K (.d (.i k) n)
 |.sub=>xck k (x-y) fun n=>K (.d (.i k) n)
 |.mul=>xck k (x*y) fun n=>K (.d (.i k) n)
 |.quo=>gd? (y≠0) (xck k (x.tdiv y) fun n=>K (.d (.i k) n))
 |.rem=>gd? (y≠0) (K (.d (.i k) (x.tmod y)))
 |.and=>K (.d (.i k) (bits .and k x y))
 |.or=>K (.d (.i k) (bits .or k x y))
 |.xor=>K (.d (.i k) (bits .xor k x y))
 |.andNot=>K (.d (.i k) (bits .andNot k x y))
 |.eql=>K (.d .b (x==y))
 |.neq=>K (.d .b (x !=y))
 |.lss=>K (.d .b (decide (x<y)))
 |.leq=>K (.d .b (decide (x<=y)))
 |.gtr=>K (.d .b (decide (x>y)))
 |.geq=>K (.d .b (decide (x≥y)))
 |_=>none
def bFh(op:BinOp)(x y:Str)(K:XV->Option R):Option R:=
 match op with
 |.add=>gd? (x.length+y.length<=9223372036854775807) (K (.d .s (x++y)))
 |.eql=>K (.d .b (x==y))
 |.neq=>K (.d .b (!(x==y)))
 |.lss=>K (.d .b (Op.bytesLess x y))
 |.leq=>K (.d .b (Op.bytesLess x y||x==y))
 |.gtr=>K (.d .b (!(Op.bytesLess x y||x==y)))
 |.geq=>K (.d .b (!Op.bytesLess x y))
 |_=>none
def bCb(op:BinOp)(K:XV->Option R):XV->XV->Option R
 |.d (.i k) x,.d (.i k') y=>
  match op with
  |.shl=>gd? (0<=y) (gd? (y<=k.bits) (xck k (x*2^y.toNat) fun n=>K (.d (.i k) n)))
  |.shr=>gd? (0<=y) (gd? (y<=k.bits) (K (.d (.i k) (x/2^y.toNat))))
  |op=>if k=k' then bFq op k x y K else none
 |.d .s x,.d .s y=>bFh op x y K
 |_,_=>none
def xun(op:UnOp)(K:XV->Option R):XV->Option R
 |.d .b x=>match op with
  |.not=>K (.d .b (!x))
  |_=>none
 |.d (.i k) x=>match op with
  |.neg=>xck k (-x) fun n=>K (.d (.i k) n)
  |.xor=>K (.d (.i k) (bits .xor k (if k.signed then-1 else k.max) x))
  |_=>none
 |_=>none
theorem aW6[YL]{x y:Int}{K:XV->Option R}{r:R}(h:bFq op k x y K=some r)(hK:∀v,K v=some r->KP v.er):aXx op k x y KP:=by
 cases op<;>first
  |(exact hK _ (aI1 (K:=fun n=>K (.d (.i k) n)) h);done)
  |(obtain⟨h1,h⟩:=aS h;exact⟨h1,hK _ (aI1 (K:=fun n=>K (.d (.i k) n)) h)⟩;done)
  |(obtain⟨h1,h⟩:=aS h;exact⟨h1,hK _ h⟩;done)
  |(exact hK _ h;done)
  |(cases h;done)
theorem aW1[YL]{x y:Str}{K:XV->Option R}{r:R}(h:bFh op x y K=some r)(hK:∀v,K v=some r->KP v.er):aXh op x y KP:=by
 cases op<;>first
  |(obtain⟨h1,h⟩:=aS h;exact⟨h1,hK _ h⟩;done)
  |(exact hK _ h;done)
  |(cases h;done)
theorem aYv[YL]{c:XV}{K:XV->Option R}{r:R}(h:bCb op K a c=some r)(hK:∀v,K v=some r->KP v.er):aQf op KP a.er c.er:=by
 unfold bCb at h;split at h
 ·rename_i k x k' y;simp only[XV.er,gI];unfold aQf;split at h
  ·obtain⟨h1,h⟩:=aS h;obtain⟨h2,h⟩:=aS h;exact⟨h1,h2,hK _ (aI1 (K:=fun n=>K (.d (.i k) n)) h)⟩
  ·obtain⟨h1,h⟩:=aS h;obtain⟨h2,h⟩:=aS h;exact⟨h1,h2,hK _ h⟩
  ·split at h
   ·have:=aW6 h hK;cases op<;>first|exact⟨‹_›,this⟩|contradiction
   ·cases h
 ·simp only[XV.er,gI];exact aW1 h hK
 ·cases h
theorem bBf[YL]{op:UnOp}{K:XV->Option R}{r:R}(h:xun op K a=some r)(hK:∀v,K v=some r->KP v.er):aun op KP a.er:=by
 unfold xun at h;split at h
 ·split at h
  ·exact⟨rfl,hK _ h⟩
  ·cases h
 ·rename_i k x;split at h
  ·exact hK _ (aI1 (K:=fun n=>K (.d (.i k) n)) h)
  ·exact hK _ h
  ·cases h
 ·cases h
def lvs:(t:Ty)->t.T->List XV
 |.u,_=>[]
 |.b,x=>[.d .b x]
 |.i k,x=>[.d (.i k) x]
 |.s,x=>[.d .s x]
 |.p a c,v=>lvs a v.1++lvs c v.2
 |.w a,v=>lvs a v
 |.ar n k,x=>[.d (.ar n k) x]
 |.sl t,x=>[.d (.sl t) x]
 |.o t,x=>[.d (.sl t) x]
theorem lE[YL]:∀(a c:List XV),XV.fcL (a++c)=XV.fcL a++XV.fcL c
 |[],c=>rfl
 |x::a,c=>by show x.fc++XV.fcL (a++c)=x.fc++XV.fcL a++XV.fcL c;rw[lE a c,a9]
theorem cS[YL]:∀(t:Ty) (x:t.T),XV.fcL (lvs t x)=(t.ds x).map .D
 |.u,_=>rfl
 |.b,_=>rfl
 |.i _,_=>rfl
 |.s,_=>rfl
 |.p a c,v=>by
  show XV.fcL (lvs a v.1++lvs c v.2)=(a.ds v.1++c.ds v.2).map .D;rw[lE,cS a,cS c,cd]
 |.w a,v=>cS a v
 |.ar n k,v=>by
  show((Ty.ar n k).ds v).map AV.D++[]=_;rw[bj]
 |.sl t,v=>rfl
 |.o _,_=>rfl
def XV.sz:XV->Nat
 |.d t _=>t.n
 |.agg cs=>(@XV.fcL ⟨0⟩ cs).length
 |_=>1
mutual
theorem bCm(x y:YL):∀v:XV,(@XV.fc x v).length=(@XV.fc y v).length
 |.agg cs=>aH1 x y cs
 |.d _ _|.any|.un|.ab|.ptr _ _|.ept _ _ _ _|.apt _ _|.pa _ _ _|.rpt _ _|.rpa _ _ _|.rsl _ _ _ _|.epa _ _ _ _ _|.mref _|.itr _ _|.rop _ _ _|.fl _ _|.fln _|.nl _|.sl _ _ _ _|.asl _ _ _|.slw _ _ _|.sc|.tup _|.clo _ _|.c _|.yld|.gst _=>rfl
theorem aH1(x y:YL):∀l:List XV,(@XV.fcL x l).length=(@XV.fcL y l).length
 |[]=>rfl
 |v::l=>by show(@XV.fc x v++@XV.fcL x l).length=(@XV.fc y v++@XV.fcL y l).length;rw[κ,κ,bCm x y v,aH1 x y l]
end
def kV:Ty->Bool
 |.b=>true
 |.i _=>true
 |.s=>true
 |.sl _=>true
 |.o _=>true
 |_=>false
def bEo:XV->Bool
 |.d t _=>kV t
 |.agg _=>false
 |_=>true
theorem aMd[YL]:∀{v:XV},bEo v=true->v.fc=[v.er]
 |.d .b _,_=>rfl
 |.d (.i _) _,_=>rfl
 |.d .s _,_=>rfl
 |.d (.sl _) _,_=>rfl
 |.d .u _,h=>by cases h
 |.d (.p _ _) _,h=>by cases h
 |.d (.w _) _,h=>by cases h
 |.d (.ar _ _) _,h=>by cases h
 |.d (.o _) _,_=>rfl
 |.any,_=>rfl
 |.un,_=>rfl
 |.ab,_=>rfl
 |.ptr _ _,_=>rfl
 |.ept _ _ _ _,_=>rfl
 |.apt _ _,_=>rfl
 |.pa _ _ _,_=>rfl
 |.rpt _ _,_=>rfl
 |.rpa _ _ _,_=>rfl
 |.rsl _ _ _ _,_=>rfl
 |.epa _ _ _ _ _,_=>rfl
 |.mref _,_=>rfl
 |.itr _ _,_=>rfl
 |.rop _ _ _,_=>rfl
 |.fl _ _,_=>rfl
 |.fln _,_=>rfl
 |.nl _,_=>rfl
 |.sl _ _ _ _,_=>rfl
 |.asl _ _ _,_=>rfl
 |.slw _ _ _,_=>rfl
 |.sc,_=>rfl
 |.agg _,h=>by cases h
 |.tup _,_=>rfl
 |.clo _ _,_=>rfl
 |.c _,_=>rfl
 |.yld,_=>rfl
 |.gst _,_=>rfl
def aMb:List XV->Nat->(XV->Option R)->Option R
 |[],_,_=>none
 |v::r,off,K=>match bEo v with
  |true=>match off with
   |0=>K v
   |off+1=>aMb r off K
  |false=>match v with
   |.d (.ar n k) x=>match Nat.blt off n with
    |true=>bS x.l (off:Int) fun c=>K (.d (.i k) c)
    |false=>aMb r (off-n) K
   |_=>none
theorem vQ[YL]{r:R}{K:XV->Option R}:∀{cs:List XV} {off:Nat},aMb cs off K=some r->∃v,(XV.fcL cs)[off]?=some v.er/\K v=some r
 |[],_,h=>by cases h
 |v::cs,off,h=>by
  unfold aMb at h;show∃u:XV,(v.fc++XV.fcL cs)[off]?=some u.er/\_;split at h
  ·rename_i h1;rw[aMd h1];split at h
   ·exact⟨v,rfl,h⟩
   ·rename_i off;obtain⟨u,e,hu⟩:=vQ h;exact⟨u,by simpa using e,hu⟩
  ·split at h
   ·rename_i n k x _;have hl:(((Ty.ar n k).ds x).map AV.D).length=n:=by rw[ι,Ty.ds_len];rfl
    split at h
    ·rename_i hb;rw[j1]at hb;obtain⟨c,_,hc,h⟩:=aJu h;refine⟨.d (.i k) c,?_,h⟩;show(((Ty.ar n k).ds x).map AV.D++XV.fcL cs)[off]?=_;rw[List.getElem?_append_left (by omega)];show((x.l.map (DV.I k)).map AV.D)[off]?=_;rw[Int.toNat_natCast]at hc;rw[τ,τ,hc];rfl
    ·rename_i hb;have hb:¬off<n:=fun h=>by rw[<-j1]at h;rw[h]at hb;cases hb
     obtain⟨u,e,hu⟩:=vQ h;refine⟨u,?_,hu⟩;show(((Ty.ar n k).ds x).map AV.D++XV.fcL cs)[off]?=_;rw[cg (by omega),hl];exact e
   ·cases h
end
section
variable{R:Type}
theorem aE8[YL]:∀(v:XV),v.fc.length=v.sz
 |.d t x=>by show((t.ds x).map AV.D).length=t.n;rw[ι,Ty.ds_len]
 |.agg cs=>aH1 _ _ cs
 |.any=>rfl
 |.un=>rfl
 |.ab=>rfl
 |.ptr _ _=>rfl
 |.ept _ _ _ _=>rfl
 |.apt _ _=>rfl
 |.pa _ _ _=>rfl
 |.rpt _ _=>rfl
 |.rpa _ _ _=>rfl
 |.rsl _ _ _ _=>rfl
 |.epa _ _ _ _ _=>rfl
 |.mref _=>rfl
 |.itr _ _=>rfl
 |.rop _ _ _=>rfl
 |.fl _ _=>rfl
 |.fln _=>rfl
 |.nl _=>rfl
 |.sl _ _ _ _=>rfl
 |.asl _ _ _=>rfl
 |.slw _ _ _=>rfl
 |.sc=>rfl
 |.tup _=>rfl
 |.clo _ _=>rfl
 |.c _=>rfl
 |.yld=>rfl
 |.gst _=>rfl
def skp:List XV->Nat->Option (List XV)
 |cs,0=>some cs
 |[],_+1=>none
 |v::r,n+1=>match Nat.ble v.sz (n+1)with
  |true=>skp r (n+1-v.sz)
  |false=>none
def tk:List XV->Nat->Option (List XV)
 |_,0=>some []
 |[],_+1=>none
 |v::r,n+1=>match Nat.ble v.sz (n+1)with
  |true=>match tk r (n+1-v.sz)with
   |some l=>some (v::l)
   |none=>none
  |false=>none
theorem aNg[YL]:∀{cs:List XV} {n:Nat} {l:List XV},skp cs n=some l->XV.fcL l=(XV.fcL cs).drop n/\n<=(XV.fcL cs).length
 |cs,0,l,h=>by
  have h:some cs=some l:=by cases cs<;>exact h
  cases h;exact⟨rfl,eo _⟩
 |[],n+1,l,h=>by cases h
 |v::r,n+1,l,h=>by
  unfold skp at h;split at h
  ·rename_i hb;have hb:=e8 hb;obtain⟨h1,h2⟩:=aNg h;show XV.fcL l=(v.fc++XV.fcL r).drop (n+1)/\n+1<=(v.fc++XV.fcL r).length;have hl:=aE8 v;constructor
   ·rw[h1,il,ef (as:=v.fc) (by omega),d6,hl]
   ·rw[κ];omega
  ·cases h
theorem aTj[YL]:∀{cs:List XV} {n:Nat} {l:List XV},tk cs n=some l->XV.fcL l=(XV.fcL cs).take n/\n<=(XV.fcL cs).length
 |cs,0,l,h=>by
  have h:some []=some l:=by cases cs<;>exact h
  cases h;exact⟨by rw[List.take_zero];rfl,eo _⟩
 |[],n+1,l,h=>by cases h
 |v::r,n+1,l,h=>by
  unfold tk at h;split at h
  ·rename_i hb;have hb:=e8 hb;split at h
   ·rename_i l' hl';cases h;obtain⟨h1,h2⟩:=aTj hl';show v.fc++XV.fcL l'=(v.fc++XV.fcL r).take (n+1)/\n+1<=(v.fc++XV.fcL r).length;have hl:=aE8 v;constructor
    ·rw[h1,List.take_append,bn (l:=v.fc) (by omega),hl]
    ·rw[κ];omega
   ·cases h
  ·cases h
def aI0(cs:List XV)(off n:Nat):Option (List XV):=match skp cs off with
 |some l=>tk l n
 |none=>none
theorem aHk[YL]{n:Nat}(h:aI0 cs off n=some l):off+n<=(XV.fcL cs).length/\XV.fcL l=((XV.fcL cs).drop off).take n:=by
 unfold aI0 at h;split at h
 ·rename_i l' hl';obtain⟨h1,h2⟩:=aNg hl';obtain⟨h3,h4⟩:=aTj h;rw[h1,υ]at h4;rw[h1]at h3;exact⟨by omega,h3⟩
 ·cases h
def aIn(cs:List XV)(off:Nat)(ys:List XV)(sz:Nat):Option (List XV):=match tk cs off,skp cs (off+sz)with
 |some a,some c=>some (a++(ys++c))
 |_,_=>none
theorem qP[YL]{ys:List XV}{sz:Nat}(h:aIn cs off ys sz=some l):off+sz<=(XV.fcL cs).length/\XV.fcL l=(XV.fcL cs).take off++XV.fcL ys++(XV.fcL cs).drop (off+sz):=by
 unfold aIn at h;split at h
 ·rename_i a c ha hc;cases h;obtain⟨h1,_⟩:=aTj ha;obtain⟨h2,h3⟩:=aNg hc;exact⟨h3,by rw[lE,lE,h1,h2,a9]⟩
 ·cases h
def bCo:XV->Bool
 |.any=>false
 |.agg _=>false
 |.tup _=>false
 |.un=>false
 |.ab=>true
 |.c v=>v.oneCell'
 |.yld=>false
 |.gst _=>false
 |_=>true
theorem aAd:∀(a c:List AV),AV.allOne (a++c)=(AV.allOne a&&AV.allOne c)
 |[],c=>rfl
 |x::a,c=>by show(AV.one x&&AV.allOne (a++c))=(AV.one x&&AV.allOne a&&AV.allOne c);rw[aAd a c,Bool.and_assoc]
theorem pN:∀(t:Ty) (x:t.T),AV.allOne ((t.ds x).map .D)=true
 |.u,_=>rfl
 |.b,_=>rfl
 |.i _,_=>rfl
 |.s,_=>rfl
 |.p a c,v=>by
  show AV.allOne ((a.ds v.1++c.ds v.2).map .D)=true;rw[cd,aAd,pN a,pN c];rfl
 |.w a,v=>pN a v
 |.ar n k,v=>by
  show AV.allOne ((v.l.map (DV.I k)).map .D)=true;generalize v.l=l
  induction l with
  |nil=>rfl
  |cons x l ih=>exact ih
 |.sl t,v=>rfl
 |.o _,_=>rfl
theorem aPr[YL]:∀{v:XV},bCo v=true->AV.allOne v.fc=true
 |.d t x,_=>pN t x
 |.any,h=>by cases h
 |.agg _,h=>by cases h
 |.tup _,h=>by cases h
 |.un,h=>by cases h
 |.ab,_=>rfl
 |.c v,h=>by show(AV.one (.D (.C v))&&true)=true;rw[ga];exact h
 |.yld,h=>by cases h
 |.gst _,h=>by cases h
 |.ptr _ _,_=>rfl
 |.ept _ _ _ _,_=>rfl
 |.apt _ _,_=>rfl
 |.pa _ _ _,_=>rfl
 |.rpt _ _,_=>rfl
 |.rpa _ _ _,_=>rfl
 |.rsl _ _ _ _,_=>rfl
 |.epa _ _ _ _ _,_=>rfl
 |.mref _,_=>rfl
 |.itr _ _,_=>rfl
 |.rop _ _ _,_=>rfl
 |.fl _ _,_=>rfl
 |.fln _,_=>rfl
 |.nl _,_=>rfl
 |.sl _ _ _ _,_=>rfl
 |.asl _ _ _,_=>rfl
 |.slw _ _ _,_=>rfl
 |.sc,_=>rfl
 |.clo _ _,_=>rfl
def aY4:List XV->Bool
 |[]=>true
 |v::r=>bCo v&&aY4 r
theorem aP7[YL]:∀{cs:List XV},aY4 cs=true->AV.allOne (XV.fcL cs)=true
 |[],_=>rfl
 |v::r,h=>by unfold aY4 at h;rw[μ]at h;show AV.allOne (v.fc++XV.fcL r)=true;rw[aAd,aPr h.1,aP7 h.2];rfl
def pE:XV->Option (List XV)
 |.agg cs=>if aY4 cs=true then some cs else none
 |.d (.ar n k) x=>some [.d (.ar n k) x]
 |.d t x=>if kV t=true then some [.d t x]else none
 |v=>if bCo v=true then some [v]else none
theorem aVa{a:AV}(h:AV.allOne [a]=true):a.cells?=some [a]:=by
 have h1:AV.one a=true:=by have:(AV.one a&&true)=true:=h;rwa[ga]at this
 unfold AV.cells?;split
 ·cases h1
 ·rw[if_pos h1]
theorem kW[YL](h:pE v=some cs):v.er.cells?=some (XV.fcL cs):=by
 unfold pE at h;split at h
 ·rename_i l;rw[δ]at h;obtain⟨h1,h⟩:=h;cases h;show(if AV.allOne (XV.fcL cs)=true then some (XV.fcL cs)else none)=_;rw[if_pos (aP7 h1)]
 ·rename_i n k x;cases h;show(if AV.allOne (((Ty.ar n k).ds x).map AV.D)=true then some (((Ty.ar n k).ds x).map AV.D)else none)=some (((Ty.ar n k).ds x).map AV.D++[]);rw[if_pos (pN _ _),bj]
 ·rename_i t x _;rw[δ]at h;obtain⟨h1,h⟩:=h;cases h;have e:=aMd (v:=.d t x) h1;show _=some ((XV.d t x).fc++[]);rw[bj,e];exact aVa (by rw[<-e];exact pN t x)
 ·rename_i h2 _ h3;rw[δ]at h;obtain⟨h1,h⟩:=h;cases h;have e:v.fc=[v.er]:=aMd (by
   cases v with
   |d t x=>exact absurd rfl (h3 t x)
   |agg cs=>exact absurd rfl (h2 cs)
   |_=>rfl)
  show _=some (v.fc++[]);rw[bj,e];exact aVa (by rw[<-e];exact aPr h1)
end
section
variable{R:Type}
def Hd.eqb:Hd->Hd->Bool
 |.B i,.B j=>χ i j
 |.O i,.O j=>χ i j
 |_,_=>false
theorem Hd.eqb_iff:∀{a c:Hd},a.eqb c=true↔a=c
 |.B i,.B j=>by simp[Hd.eqb,f8]
 |.O i,.O j=>by simp[Hd.eqb,f8]
 |.B _,.O _=>by simp[Hd.eqb]
 |.O _,.B _=>by simp[Hd.eqb]
def hin(h:Hd):List Hd->Bool
 |[]=>false
 |x::r=>h.eqb x||hin h r
theorem qO{h:Hd}:∀{l:List Hd},hin h l=true↔h∈l
 |[]=>by simp[hin]
 |x::r=>by simp[hin,Hd.eqb_iff,qO (l:=r)]
def XB.frz:XB->XB
 |.row _ t xs=>.row false t xs
 |.arr _ n k x=>.arr false n k x
 |.rb _ t x=>.rb false t x
 |b=>b
theorem aV9[YL]:∀(b:XB),b.frz.er=b.er.frz
 |.row _ _ _=>rfl
 |.arr _ _ _ _=>rfl
 |.rb _ _ _=>rfl
 |.box _=>rfl
 |.mp _ _ _ _ _ _=>rfl
 |.it=>rfl
 |.sb _ _ _=>rfl
def vV(mk:Nat->Hd)(fz:List Hd):Nat->List (Option XB)->List (Option XB)
 |_,[]=>[]
 |i,b::r=>(match hin (mk i) fz with|true=>b.map XB.frz|false=>b)::vV mk fz (i+1) r
theorem aD0(mk:Nat->Hd)(fz:List Hd):∀(l:List (Option XB)) (n i:Nat),bB (vV mk fz n l) i=if mk (n+i)∈fz then(bB l i).map XB.frz else bB l i
 |[],n,i=>by simp[vV,bB]
 |b::r,n,0=>by
  show(match hin (mk n) fz with|true=>b.map XB.frz|false=>b)=_;rw[Nat.add_zero];cases hq:hin (mk n) fz with
  |true=>rw[if_pos (qO.1 hq)];rfl
  |false=>rw[if_neg (fun h=>by rw[qO.2 h]at hq;cases hq)];rfl
 |b::r,n,i+1=>by show bB (vV mk fz (n+1) r) i=_;rw[aD0 mk fz r (n+1) i,show n+1+i=n+(i+1) by omega];rfl
theorem tS(mk:Nat->Hd)(fz:List Hd):∀(l:List (Option XB)) (n:Nat),(vV mk fz n l).length=l.length
 |[],_=>rfl
 |b::r,n=>by show(vV mk fz (n+1) r).length+1=r.length+1;rw[tS mk fz r]
theorem aDa:∀(a c:List (Option XB)) (i:Nat),bB (a++c) i=if i<a.length then bB a i else bB c (i-a.length)
 |[],c,i=>by simp
 |x::a,c,0=>by simp[bB]
 |x::a,c,i+1=>by show bB (a++c) i=_;rw[aDa a c i];simp only[List.length_cons,Nat.add_lt_add_iff_right,Nat.add_sub_add_right];rfl
theorem wE:∀(l:List XB) (i:Nat),bB (l.map some) i=l[i]?
 |[],_=>rfl
 |x::l,0=>rfl
 |x::l,i+1=>by show bB (l.map some) i=_;rw[wE l i];simp
theorem aC3:∀(l:List (Option XB)) (i:Nat),l.length<=i->bB l i=none
 |[],_,_=>rfl
 |x::l,0,h=>by simp at h
 |x::l,i+1,h=>aC3 l i (by simpa using h)
def XS.put(s:XS)(dst:Option Nat)(v:XV)(nbs:List XB)(fz:List Hd):XS:=
 {env:=match dst with
   |some d=>(d,v)::s.env
   |none=>s.env
  bs:=match fz with
   |[]=>s.bs
   |fz=>vV .B fz 0 s.bs
  own:=(match fz with
   |[]=>s.own
   |fz=>vV .O fz 0 s.own)++nbs.map some}
theorem AState.ext'{s s':AState}(h1:∀i,s.env i=s'.env i)(h2:∀i,s.bs i=s'.bs i)(h3:∀i,s.own i=s'.own i)(h4:s.nx=s'.nx):s=s':=by obtain⟨a,c,d,e⟩:=s;obtain⟨a',c',d',e'⟩:=s';obtain rfl:a=a':=funext h1;obtain rfl:c=c':=funext h2;obtain rfl:d=d':=funext h3;obtain rfl:e=e':=h4;rfl
theorem cU[YL](s:XS)(dst:Option Nat)(v:XV)(nbs:List XB)(fz:List Hd):(s.put dst v nbs fz).er=s.er.put dst v.er (nbs.map XB.er) fz:=by
 have hlen:(match fz with|[]=>s.own|fz=>vV .O fz 0 s.own).length=s.own.length:=by
  cases fz with
  |nil=>rfl
  |cons x r=>exact tS _ _ _ _
 refine AState.ext' (fun i=>?_) (fun i=>?_) (fun i=>?_) ?_
 ·show(cN _ i).er=cE s.er.env dst v.er i;cases dst with
  |none=>rfl
  |some d=>
   show(if χ i d=true then v else cN s.env i).er=if i=d then v.er else(cN s.env i).er
   by_cases h:i=d
   ·rw[if_pos h,if_pos (by rw[f8];exact h)]
   ·rw[if_neg h,if_neg (by rw[f8];exact h)]
 ·show(bB _ i).map XB.er=aW9 s.er.bs fz i;cases fz with
  |nil=>rfl
  |cons x r=>
   show(bB (vV .B (x::r) 0 s.bs) i).map XB.er=if Hd.B i∈x::r then((bB s.bs i).map XB.er).map Blk.frz else(bB s.bs i).map XB.er
   rw[aD0,Nat.zero_add];split
   ·rw[jx,jx];congr 1;funext b;exact aV9 b
   ·rfl
 ·show(bB (_++nbs.map some) i).map XB.er=oF (aKm s.er.own fz) s.own.length (nbs.map XB.er) i;rw[oI,aDa,hlen,ι];by_cases h1:i<s.own.length
  ·rw[if_pos h1,if_neg (by omega)];cases fz with
   |nil=>rfl
   |cons x r=>
    show(bB (vV .O (x::r) 0 s.own) i).map XB.er=if Hd.O i∈x::r then((bB s.own i).map XB.er).map Blk.frz else(bB s.own i).map XB.er
    rw[aD0,Nat.zero_add];split
    ·rw[jx,jx];congr 1;funext b;exact aV9 b
    ·rfl
  ·rw[if_neg h1,wE];by_cases h2:i<s.own.length+nbs.length
   ·rw[if_pos ⟨by omega,h2⟩,τ]
   ·rw[if_neg (by omega),dc (by omega)];have:bB s.own i=none:=aC3 _ _ (by omega);have e:s.er.own i=none:=by show(bB s.own i).map XB.er=none;rw[this];rfl
    show none=aKm s.er.own fz i;unfold aKm;cases fz with
    |nil=>exact e.symm
    |cons x r=>simp[e]
 ·cases fz with
  |nil=>
   show(s.own++nbs.map some).length=s.own.length+(nbs.map XB.er).length;rw[κ,ι,ι]
  |cons x r=>
   show(vV .O (x::r) 0 s.own++nbs.map some).length=s.own.length+(nbs.map XB.er).length;rw[κ,tS,ι,ι]
def XS.setBlk(s:XS)(h:Hd)(b:Option XB):XS:=match h with
 |.B i=>{s with bs:=tY s.bs i b}
 |.O i=>{s with own:=tY s.own i b}
theorem nI:∀(l:List (Option XB)) (i:Nat) (b:Option XB) (j:Nat),i<l.length->bB (tY l i b) j=if j=i then b else bB l j
 |[],i,b,j,h=>by simp at h
 |x::l,0,b,0,_=>rfl
 |x::l,0,b,j+1,_=>by simp[tY,bB]
 |x::l,i+1,b,0,_=>by simp[tY,bB]
 |x::l,i+1,b,j+1,h=>by show bB (tY l i b) j=_;rw[nI l i b j (by simpa using h)];simp only[Nat.add_right_cancel_iff];rfl
theorem uF:∀(l:List (Option XB)) (i:Nat) (b:Option XB),(tY l i b).length=l.length
 |[],_,_=>rfl
 |_::_,0,_=>rfl
 |x::l,i+1,b=>by show(tY l i b).length+1=_;rw[uF l i b];rfl
theorem pC:∀{l:List (Option XB)} {i:Nat} {b:XB},bB l i=some b->i<l.length
 |[],_,_,h=>by cases h
 |_::_,0,_,_=>Nat.succ_pos _
 |_::l,i+1,_,h=>Nat.succ_lt_succ (pC (l:=l) h)
theorem bX[YL]{s:XS}{b0:XB}(hl:s.lk h=some b0)(b:Option XB):(s.setBlk h b).er=s.er.setBlk h (b.map XB.er):=by
 cases h with
 |B i=>
  have hi:=pC (l:=s.bs) hl;refine AState.ext' (fun _=>rfl) (fun j=>?_) (fun _=>rfl) rfl;show(bB (tY s.bs i b) j).map XB.er=if j=i then b.map XB.er else(bB s.bs j).map XB.er
  rw[nI _ _ _ _ hi];split<;>rfl
 |O i=>
  have hi:=pC (l:=s.own) hl;refine AState.ext' (fun _=>rfl) (fun _=>rfl) (fun j=>?_) (uF _ _ _);show(bB (tY s.own i b) j).map XB.er=if j=i then b.map XB.er else(bB s.own j).map XB.er
  rw[nI _ _ _ _ hi];split<;>rfl
theorem bDx[YL](s:XS)(x:Operand):(s.ev x).er=s.er.ev x:=by
 cases x with
 |tmp t=>rfl
 |const v=>exact aQt v
 |func f=>rfl
 |global g=>
  show(match glT g with
   |some (k,l)=>XV.rop (.ar l.length k) ⟨l,rfl⟩ 0
   |none=>.any).er=(match aFy g with
   |some ds=>AV.rop ds
   |none=>.any)
  rw[bCh];cases glT g<;>rfl
def noG:Operand->Bool
 |_=>true
theorem aBn[YL](s:XS){x:Operand}(_:noG x=true):s.er.ev x=(s.ev x).er:=(bDx s x).symm
end
section
variable{R:Type}
def gn?{α β:Type}(xs:List α)(i:Nat)(f:α->Option β):Option β:=match xs[i]?with
 |some x=>f x
 |none=>none
theorem aLa{α β:Type}{xs:List α}{f:α->Option β}{r:β}(h:gn? xs i f=some r):∃x,xs[i]?=some x/\f x=some r:=by
 unfold gn? at h;split at h
 ·exact⟨_,‹_›,h⟩
 ·cases h
def aX4(K:XV->Option R):Option (List XV)->Option R
 |some l=>K (.agg l)
 |none=>none
def aJk(ag:Option Nat)(cs:List XV)(off:Nat)(K:XV->Option R):Option R:=match ag with
 |none=>aMb cs off K
 |some n=>aX4 K (aI0 cs off n)
theorem vL[YL]{K:XV->Option R}{r:R}(h:aJk ag cs off K=some r):
  ∃v,K v=some r/\match ag with
   |none=>(XV.fcL cs)[off]?=some v.er
   |some n=>off+n<=(XV.fcL cs).length/\v.er=.agg (((XV.fcL cs).drop off).take n):=by
 unfold aJk at h;cases ag with
 |none=>
  obtain⟨v,h1,h2⟩:=vQ h;exact⟨v,h2,h1⟩
 |some n=>
  have h:aX4 K (aI0 cs off n)=some r:=h;cases hc:aI0 cs off n with
  |none=>rw[hc]at h;cases h
  |some l=>
   rw[hc]at h;obtain⟨h1,h2⟩:=aHk hc;exact⟨.agg l,h,h1,by show AV.agg (XV.fcL l)=_;rw[h2]⟩
def bAb(k:IntKind)(K:XV->Option R){n:Nat}(x:Arr n):Option Nat->Nat->Option R
 |none,off=>gn? x.l off fun c=>K (.d (.i k) c)
 |some m,0=>match χ m n with
  |true=>K (.d (.ar n k) x)
  |false=>none
 |_,_=>none
def bDd(ag:Option Nat)(off:Nat)(K:XV->Option R):(t:Ty)->t.T->Option R
 |.ar _ k,x=>bAb k K x ag off
 |t,x=>aJk ag (lvs t x) off K
structure ArL where
 n:Nat
 k:IntKind
 x:Arr n
def xJ:List XV->Nat->Option ArL
 |[],_=>none
 |v::r,0=>match v with
  |.d (.ar n k) x=>some ⟨n,k,x⟩
  |_=>none
 |v::r,off+1=>match Nat.ble v.sz (off+1)with
  |true=>xJ r (off+1-v.sz)
  |false=>none
theorem yV[YL]:∀{cs:List XV} {off:Nat} {a:ArL},xJ cs off=some a->((XV.fcL cs).drop off).take a.n=(a.x.l.map (DV.I a.k)).map .D/\off+a.n<=(XV.fcL cs).length
 |[],_,_,h=>by cases h
 |v::r,0,a,h=>by
  unfold xJ at h;show((v.fc++XV.fcL r).drop 0).take a.n=_/\0+a.n<=(v.fc++XV.fcL r).length;split at h
  ·rename_i n k x;cases h;have hl:(XV.d (.ar n k) x).fc.length=n:=aE8 _;rw[κ,hl];refine⟨?_,by show 0+n<=_;omega⟩;rw[da];show((XV.d (.ar n k) x).fc++XV.fcL r).take n=_;rw[List.take_append_of_le_length (by omega),bn (by omega)];rfl
  ·cases h
 |v::r,off+1,a,h=>by
  unfold xJ at h;show((v.fc++XV.fcL r).drop (off+1)).take a.n=_/\off+1+a.n<=(v.fc++XV.fcL r).length;split at h
  ·rename_i hb;have hb:=e8 hb;obtain⟨h1,h2⟩:=yV h;have hl:=aE8 v;rw[κ];refine⟨?_,by omega⟩;rw[il,ef (as:=v.fc) (by omega),d6,hl];exact h1
  ·cases h
theorem aSl[YL]{a:ArL}(h:xJ cs off=some a){j:Nat}{c:Int}(hc:a.x.l[j]?=some c):(XV.fcL cs)[off+j]?=some (.D (.I a.k c)):=by obtain⟨h1,h2⟩:=yV h;have hlt:=(ω.1 hc).1;rw[a.x.len]at hlt;have:=congrArg (fun l=>l[j]?) h1;simp only[List.getElem?_take_of_lt hlt,List.getElem?_drop,τ,hc]at this;exact this
def aSn(cs:List XV)(off j:Nat)(K:XV->Option R):Option R:=match xJ cs off with
 |some a=>gn? a.x.l j fun c=>K (.d (.i a.k) c)
 |none=>aMb cs (off+j) K
theorem aI4[YL]{j:Nat}{K:XV->Option R}{r:R}(h:aSn cs off j K=some r):∃v,(XV.fcL cs)[off+j]?=some v.er/\K v=some r:=by
 unfold aSn at h;split at h
 ·rename_i a ha;obtain⟨c,hc,h⟩:=aLa h;exact⟨.d (.i a.k) c,aSl ha hc,h⟩
 ·exact vQ h
def aPg(s:XS)(ag:Option Nat)(K:XV->Option R):XV->Option R
 |.ptr h off=>match s.lk h with
  |some (.box cs)=>aJk ag cs off K
  |_=>none
 |.ept h t ix off=>match s.lk h with
  |some (.row _ t' xs)=>match t'.beq t with
   |true=>gn? xs ix fun x=>match ag with
    |none=>aMb (lvs t' x) off K
    |some n=>match χ t'.n 1 with
     |true=>match χ n 1&&χ off 0 with
      |true=>K (.agg (lvs t' x))
      |false=>none
     |false=>aX4 K (aI0 (lvs t' x) off n)
   |false=>none
  |_=>none
 |.apt h ix=>match s.lk h with
  |some (.arr _ n k x)=>match ag with
   |none=>gn? x.l ix fun c=>K (.d (.i k) c)
   |some m=>match ix,χ m n&&Nat.blt 0 n with
    |0,true=>K (.d (.ar n k) x)
    |ix,_=>gd? (ix+m<=n) (gd? (0<m) (K (.d (.ar m k) (x.part ix m))))
  |_=>none
 |.pa h off j=>match s.lk h,ag with
  |some (.box cs),none=>aSn cs off j K
  |_,_=>none
 |.epa h t ix off j=>match s.lk h,ag with
  |some (.row _ t' xs),none=>match t'.beq t with
   |true=>gn? xs ix fun x=>aSn (lvs t' x) off j K
   |false=>none
  |_,_=>none
 |.rpt h off=>match s.lk h with
  |some (.rb _ t x)=>match ag with
   |none=>aMb (lvs t x) off K
   |some n=>match Nat.blt 0 n with
    |true=>aX4 K (aI0 (lvs t x) off n)
    |false=>none
  |_=>none
 |.rpa h off j=>match s.lk h,ag with
  |some (.rb _ t x),none=>aSn (lvs t x) off j K
  |_,_=>none
 |.rop t x off=>bDd ag off K t x
 |_=>none
theorem aCn{l:List DV}{d:DV}(h:l[i]?=some d):(sgD l)[i]?=some [d]:=by unfold sgD;rw[τ,h];rfl
theorem aDb:∀l:List DV,(sgD l).flatten=l
 |[]=>rfl
 |x::l=>by show[x]++(sgD l).flatten=_;rw[aDb l];rfl
theorem aIp(l:List DV)(a n:Nat):((sgD l).drop a).take n=sgD ((l.drop a).take n):=by unfold sgD;rw[ce,cj]
theorem vN(l:List DV):(sgD l).length=l.length:=ι _
theorem qG{l:List DV}{v:AV}(h:(l.map AV.D)[i]?=some v):∃x,l[i]?=some x/\v=.D x:=by
 rw[τ]at h;cases hx:l[i]?with
 |none=>rw[hx]at h;cases h
 |some x=>rw[hx]at h;cases h;exact⟨x,rfl,rfl⟩
theorem yX(k:IntKind):∀l:List Int,(l.map (arD k)).flatten=l.map (DV.I k)
 |[]=>rfl
 |x::l=>by show[DV.I k x]++(l.map (arD k)).flatten=_;rw[yX k l];rfl
def aZ5(ag:Option Nat)(off:Nat)(l:List AV)(v:AV):Prop:=match ag with
 |none=>l[off]?=some v
 |some n=>off+n<=l.length/\v=.agg ((l.drop off).take n)
theorem aTx[YL]{K:XV->Option R}{n:Nat}{x:Arr n}{r:R}:∀{ag:Option Nat} {off:Nat},bAb k K x ag off=some r->∃v,K v=some r/\aZ5 ag off ((x.l.map (DV.I k)).map AV.D) v.er
 |none,off,h=>by
  obtain⟨c,hc,h⟩:=aLa h;exact⟨_,h,by show((x.l.map (DV.I k)).map AV.D)[off]?=_;rw[τ,τ,hc];rfl⟩
 |some m,0,h=>by
  have h:(match χ m n with
   |true=>K (.d (.ar n k) x)
   |false=>none)=some r:=h
  split at h
  ·rename_i hb;obtain rfl:=η hb;have hl:((x.l.map (DV.I k)).map AV.D).length=m:=by rw[ι,ι,x.len]
   refine⟨_,h,?_,?_⟩
   ·show 0+m<=((x.l.map (DV.I k)).map AV.D).length;rw[hl];omega
   ·show AV.agg ((x.l.map (DV.I k)).map AV.D)=.agg ((((x.l.map (DV.I k)).map AV.D).drop 0).take m);rw[da,bn (by omega)]
  ·cases h
 |some m,_+1,h=>by have h:none=some r:=h;cases h
theorem aXk[YL]{K:XV->Option R}{r:R}{x:t.T}(h:bDd ag off K t x=some r):∃v,K v=some r/\aZ5 ag off ((t.ds x).map AV.D) v.er:=by
 cases t with
 |ar n k=>
  obtain⟨v,h1,h2⟩:=aTx h;exact⟨v,h1,h2⟩
 |_=>
  obtain⟨v,h1,h2⟩:=vL h;rw[cS]at h2;exact⟨v,h1,by cases ag<;>exact h2⟩
theorem aFm[YL]{s:XS}{K:XV->Option R}{r:R}(h:aPg s ag K a=some r)(hK:∀v,K v=some r->KP v.er):lQ s.er.lk ag KP a.er:=by
 unfold aPg at h;split at h
 ·rename_i hd off;split at h
  ·rename_i cs hl;obtain⟨v,h1,h2⟩:=vL h;refine⟨XV.fcL cs,by rw[aP,hl];rfl,?_⟩;cases ag with
   |none=>exact⟨_,h2,hK _ h1⟩
   |some n=>exact⟨h2.1,by rw[<-h2.2];exact hK _ h1⟩
  ·cases h
 ·rename_i hd t ix off;split at h
  ·rename_i mt t' xs hl;split at h
   ·rename_i hb;obtain rfl:=Ty.eq_of hb
    replace h:=aLa h
    obtain⟨x,hx,h⟩:=h;refine⟨mt,xs.map t'.ds,t'.ds x,by rw[aP,hl];rfl,by rw[τ,hx];rfl,?_⟩;cases ag with
    |none=>
     obtain⟨v,h1,h2⟩:=vQ h;rw[cS]at h1;obtain⟨d,h3,h4⟩:=qG h1;exact⟨d,h3,by rw[<-h4];exact hK _ h2⟩
    |some n=>
     show if t'.n=1 then _ else _
     simp only at h;split at h
     ·rename_i h1;have h1:=η h1;rw[if_pos h1];split at h
      ·rename_i h2;rw[μ]at h2;obtain rfl:=η h2.1;obtain rfl:=η h2.2;have hlt:=(ω.1 hx).1;refine⟨rfl,by rw[ι];omega,?_⟩;have e:(((xs.map t'.ds).drop ix).take 1).flatten=t'.ds x:=by rw[List.take_one,List.head?_drop,τ,hx];simp
       rw[e];have:=hK _ h;simp only[XV.er,cS]at this;exact this
      ·cases h
     ·rename_i h1;rw[if_neg (fun e=>by rw[e]at h1;cases h1)];cases hc:aI0 (lvs t' x) off n with
      |none=>rw[hc]at h;cases h
      |some l=>
       rw[hc]at h;obtain⟨h2,h3⟩:=aHk hc;rw[cS]at h2 h3;rw[ι]at h2;refine⟨h2,?_⟩;have:=hK _ h;simp only[XV.er,h3]at this;rw[ce,cj];exact this
   ·cases h
  ·cases h
 ·rename_i hd ix;split at h
  ·rename_i mt n k x hl;cases ag with
   |none=>
    obtain⟨c,hc,h⟩:=aLa h;exact⟨mt,x.l.map (arD k),arD k c,by rw[aP,hl];rfl,by rw[τ,hc];rfl,.I k c,rfl,hK _ h⟩
   |some m=>
    simp only at h;split at h
    ·rename_i hb;rw[μ,j1]at hb;obtain rfl:=η hb.1;have hlen:=x.len;obtain⟨c,hc⟩:∃c,x.l[0]?=some c:=⟨x.l[0]'(by omega),ν (by omega)⟩;refine⟨mt,x.l.map (arD k),arD k c,by rw[aP,hl];rfl,by rw[τ,hc];rfl,?_⟩;show if 1=1 then _ else _
     rw[if_pos rfl];refine⟨rfl,by rw[ι];omega,?_⟩;rw[da,bn (by rw[ι];omega),yX];exact hK _ h
    ·rename_i ix _ _ _;obtain⟨h1,h⟩:=aS h;obtain⟨h2,h⟩:=aS h;have hlen:=x.len;obtain⟨c,hc⟩:∃c,x.l[ix]?=some c:=⟨x.l[ix]'(by omega),ν (by omega)⟩;refine⟨mt,x.l.map (arD k),arD k c,by rw[aP,hl];rfl,by rw[τ,hc];rfl,?_⟩;show if 1=1 then _ else _
     rw[if_pos rfl];refine⟨rfl,by rw[ι];omega,?_⟩;rw[<-cj,<-ce,yX,<-Arr.l_part h1];exact hK _ h
  ·cases h
 ·rename_i hd off j;split at h
  ·rename_i cs hl;obtain⟨v,h1,h2⟩:=aI4 h;exact⟨XV.fcL cs,by rw[aP,hl];rfl,_,h1,hK _ h2⟩
  ·cases h
 ·rename_i hd t ix off j;split at h
  ·rename_i mt t' xs hl;split at h
   ·rename_i hb;obtain rfl:=Ty.eq_of hb;obtain⟨x,hx,h⟩:=aLa h;obtain⟨v,h1,h2⟩:=aI4 h;rw[cS]at h1;obtain⟨d,h3,h4⟩:=qG h1;exact⟨mt,xs.map t'.ds,t'.ds x,by rw[aP,hl];rfl,by rw[τ,hx];rfl,d,h3,by rw[<-h4];exact hK _ h2⟩
   ·cases h
  ·cases h
 ·rename_i hd off;split at h
  ·rename_i mt t x hl;cases ag with
   |none=>
    obtain⟨v,h1,h2⟩:=vQ h;rw[cS]at h1;obtain⟨d,h3,h4⟩:=qG h1;exact⟨mt,sgD (t.ds x),[d],by rw[aP,hl];rfl,aCn h3,d,rfl,by rw[<-h4];exact hK _ h2⟩
   |some n=>
    simp only at h;split at h
    rotate_left
    ·cases h
    rename_i h0;have h0:=e8 h0;cases hc:aI0 (lvs t x) off n with
    |none=>rw[hc]at h;cases h
    |some l=>
     rw[hc]at h;obtain⟨h2,h3⟩:=aHk hc;rw[cS]at h2 h3;rw[ι]at h2
     ·have hlt:off<(t.ds x).length:=by omega
      refine⟨mt,sgD (t.ds x),[(t.ds x)[off]],by rw[aP,hl];rfl,aCn (ν hlt),?_⟩;show if(1:Nat)=1 then _ else _
      rw[if_pos rfl];refine⟨rfl,by rw[vN];omega,?_⟩;rw[aIp,aDb];have:=hK _ h;simp only[XV.er,h3]at this;rw[ce,cj];exact this
  ·cases h
 ·rename_i hd off j;split at h
  ·rename_i mt t x hl;obtain⟨v,h1,h2⟩:=aI4 h;rw[cS]at h1;obtain⟨d,h3,h4⟩:=qG h1;exact⟨mt,sgD (t.ds x),[d],by rw[aP,hl];rfl,aCn h3,d,rfl,by rw[<-h4];exact hK _ h2⟩
  ·cases h
 ·rename_i t x off;obtain⟨v,h1,h2⟩:=aXk h;simp only[XV.er];cases ag with
  |none=>
   obtain⟨d,h3,h4⟩:=qG h2;exact⟨d,by rw[<-h3];simp,by rw[<-h4];exact hK _ h1⟩
  |some n=>
   obtain⟨h3,h4⟩:=h2;rw[ι]at h3;refine⟨by rw[υ];omega,?_⟩;rw[ce,cj,<-h4];exact hK _ h1
 ·cases h
def mM(s:XS)(x:Option Operand)(dflt:Nat)(K:Nat->Option R):Option R:=match x with
 |none=>K dflt
 |some x=>match noG x with
  |true=>match s.ev x with
   |.d (.i _) n=>gd? (0<=n) (K n.toNat)
   |_=>none
  |false=>none
theorem cQ[YL]{s:XS}{x:Option Operand}{d:Nat}{K:Nat->Option R}{KP:Nat->Prop}{r:R}(h:mM s x d K=some r)(hK:∀v,K v=some r->KP v):fA s.er.ev x d KP:=by
 unfold mM at h;split at h
 ·exact hK _ h
 ·rename_i x;split at h
  ·rename_i hx;split at h
   ·rename_i k n hn;obtain⟨h1,h⟩:=aS h;exact⟨k,n,by rw[aBn s hx,hn];rfl,h1,hK _ h⟩
   ·cases h
  ·cases h
def aSt(str:Bool):XV->Option Nat
 |.d (.sl _) xs=>match str with
  |false=>some xs.length
  |true=>none
 |.fl _ xs=>match str with
  |false=>some xs.length
  |true=>none
 |.fln _=>match str with
  |false=>some 0
  |true=>none
 |.nl _=>match str with
  |false=>some 0
  |true=>none
 |.sl _ _ _ len=>match str with
  |false=>some len
  |true=>none
 |.asl _ _ len=>match str with
  |false=>some len
  |true=>none
 |.rsl _ _ _ len=>match str with
  |false=>some len
  |true=>none
 |.slw _ _ len=>match str with
  |false=>some len
  |true=>none
 |.d .s t=>match str with
  |true=>some t.length
  |false=>none
 |_=>none
theorem aI5[YL]{str:Bool}{m:Nat}(h:aSt str v=some m):v.er.len? str=some m:=by
 unfold aSt at h;split at h<;>first|(cases h;done)|(split at h<;>first|(cases h;done)|skip)
 ·cases h;show some (List.length (List.map _ _))=_;rw[ι]
 ·cases h;show some (List.length (List.map _ _))=_;rw[ι]
 ·cases h;rfl
 ·cases h;rfl
 ·cases h;rfl
 ·cases h;rfl
 ·cases h;rfl
 ·cases h;rfl
 ·cases h;rfl
def rL(s:XS):XV->Bool
 |.ptr h _=>(s.lk h).isSome
 |.ept h _ _ _=>(s.lk h).isSome
 |.apt h _=>(s.lk h).isSome
 |.pa h _ _=>(s.lk h).isSome
 |.rpt h _=>(s.lk h).isSome
 |.rpa h _ _=>(s.lk h).isSome
 |.rsl h _ _ _=>(s.lk h).isSome
 |.epa h _ _ _ _=>(s.lk h).isSome
 |.sl h _ _ _=>(s.lk h).isSome
 |.asl h _ _=>(s.lk h).isSome
 |.slw h _ _=>(s.lk h).isSome
 |_=>true
theorem gN[YL]{s:XS}(h:rL s v=true):v.er.live s.er.lk=true:=by
 cases v with
 |d t x=>cases t<;>rfl
 |ptr hd off=>show(s.er.lk hd).isSome=true;rw[aP,ew];exact h
 |ept hd t ix off=>show(s.er.lk hd).isSome=true;rw[aP,ew];exact h
 |pa hd off j=>show(s.er.lk hd).isSome=true;rw[aP,ew];exact h
 |rpt hd off=>show(s.er.lk hd).isSome=true;rw[aP,ew];exact h
 |rpa hd off j=>show(s.er.lk hd).isSome=true;rw[aP,ew];exact h
 |rsl hd off l len=>show(s.er.lk hd).isSome=true;rw[aP,ew];exact h
 |epa hd t ix off j=>show(s.er.lk hd).isSome=true;rw[aP,ew];exact h
 |apt hd ix=>show(s.er.lk hd).isSome=true;rw[aP,ew];exact h
 |sl hd t off len=>show(s.er.lk hd).isSome=true;rw[aP,ew];exact h
 |slw hd t len=>show(s.er.lk hd).isSome=true;rw[aP,ew];exact h
 |asl hd off len=>show(s.er.lk hd).isSome=true;rw[aP,ew];exact h
 |_=>rfl
end
section
variable{R:Type}
def xK(l:List Int)(off len n:Nat):List Int:=match off,χ len n with
 |0,true=>l
 |off,_=>(l.drop off).take len
theorem aCz{l:List Int}{len n:Nat}(hl:l.length=n):xK l off len n=(l.drop off).take len:=by
 unfold xK;split
 ·rename_i hb;have hb:=η hb;rw[da,bn (by omega)]
 ·rfl
theorem jQ:∀{a b:List DV},a.map AV.D=b.map AV.D->a=b
 |[],[],_=>rfl
 |[],_::_,h=>by cases h
 |_::_,[],h=>by cases h
 |x::a,y::b,h=>by
  rw[df,df]at h;injection h with h1 h2
  injection h1 with h1
  rw[h1,jQ h2]
theorem aCo{x:t.T}{l len:Nat}{a:ArL}(ha:xJ (lvs t x) off=some a)(h:l+len<=a.n):off+l+len<=(sgD (t.ds x)).length/\((sgD (t.ds x)).drop (off+l)).take len=(xK a.x.l l len a.n).map (Ty.i a.k).ds:=by
 obtain⟨h1,h2⟩:=@yV ⟨0⟩ _ _ _ ha;rw[@cS ⟨0⟩]at h1 h2;rw[ι]at h2;have e:((t.ds x).drop off).take a.n=a.x.l.map (DV.I a.k):=by rw[<-cj,<-ce]at h1;exact jQ h1
 have hl:a.x.l.length=a.n:=a.x.len;refine⟨by rw[vN];omega,?_⟩;rw[aIp,aCz hl];have e2:((t.ds x).drop (off+l)).take len=((a.x.l.drop l).take len).map (DV.I a.k):=by rw[ce,cj,<-e,List.drop_take,List.drop_drop,List.take_take,Nat.min_eq_left (by omega)]
 rw[e2];show List.map _ (List.map _ _)=_;rw[List.map_map];rfl
def lW(s:XS)(t:Ty)(v:XV)(K:t.T->Option R):Option R:=match v with
 |.d t' x=>match t'.cst t x with
  |some y=>K y
  |none=>none
 |.fl t' xs=>match(Ty.sl t').cst t xs with
  |some y=>K y
  |none=>none
 |.fln _=>match t,K with
  |.sl _,K=>K []
  |.o _,K=>K []
  |_,_=>none
 |.nl _=>match t,K with
  |.sl _,K=>K []
  |.o _,K=>K []
  |_,_=>none
 |.slw h t' len=>match s.lk h with
  |some (.row _ t2 xs)=>match t2.beq t' with
   |true=>match(Ty.sl t2).cst t xs with
    |some y=>gl? len xs (K y)
    |none=>none
   |false=>none
  |_=>none
 |.sl h t' off len=>match s.lk h with
  |some (.row _ t2 xs)=>match t2.beq t' with
   |true=>match(Ty.sl t2).cst t ((xs.drop off).take len)with
    |some y=>gd? (off+len<=xs.length) (K y)
    |none=>none
   |false=>none
  |_=>none
 |.asl h off len=>match s.lk h with
  |some (.arr _ n k x)=>match(Ty.sl (.i k)).cst t (xK x.l off len n)with
   |some y=>gd? (off+len<=n) (K y)
   |none=>none
  |_=>none
 |.rsl h off l len=>match s.lk h with
  |some (.rb _ t' x)=>match xJ (lvs t' x) off with
   |some a=>match(Ty.sl (.i a.k)).cst t (xK a.x.l l len a.n)with
    |some y=>gd? (l+len<=a.n) (K y)
    |none=>none
   |none=>none
  |_=>none
 |_=>none
theorem vO[YL]{s:XS}(hφ:∀h b,s.lk h=some b->φ h=none){K:t.T->Option R}{r:R}(h:lW s t v K=some r):
  ∃x,K x=some r/\AV.convL s.er.lk φ v.fc=(t.ds x).map .D/\(kV t=true->AV.conv s.er.lk φ v.er=gI t x):=by
 have hc:∀(l:List DV),AV.convL s.er.lk φ (l.map .D)=l.map .D:=fun l=>by
  induction l with
  |nil=>rfl
  |cons x l ih=>show AV.conv _ _ (.D x)::AV.convL _ _ (l.map .D)=_;rw[ih];rfl
 unfold lW at h;split at h
 ·rename_i t' x;split at h
  ·rename_i y hy;obtain⟨e,rfl⟩:=Ty.cst_ok hy;subst e;refine⟨x,h,hc _,fun hl=>?_⟩;cases t'<;>first|rfl|(cases hl;done)
  ·cases h
 ·rename_i t' xs;split at h
  ·rename_i y hy;obtain⟨e,rfl⟩:=Ty.cst_ok hy;subst e;exact⟨xs,h,rfl,fun _=>rfl⟩
  ·cases h
 ·split at h
  ·exact⟨[],h,rfl,fun _=>rfl⟩
  ·exact⟨[],h,rfl,fun _=>rfl⟩
  ·cases h
 ·split at h
  ·exact⟨[],h,rfl,fun _=>rfl⟩
  ·exact⟨[],h,rfl,fun _=>rfl⟩
  ·cases h
 ·rename_i hd t' len;split at h
  ·rename_i mt t2 xs hl;split at h
   ·rename_i hb;obtain rfl:=Ty.eq_of hb;split at h
    ·rename_i y hy;obtain⟨e,rfl⟩:=Ty.cst_ok hy;subst e
     replace h:=aSs h
     obtain⟨rfl,h⟩:=h;have e:AV.conv s.er.lk φ (.sl hd t2.n 0 xs.length)=.D (.L (xs.map t2.ds)):=by unfold AV.conv;rw[hφ _ _ hl,aP,hl];show(if t2.n=t2.n/\0+xs.length<=(xs.map t2.ds).length then AV.D (.L (((xs.map t2.ds).drop 0).take xs.length))else .sc)=_;rw[if_pos ⟨rfl,by rw[ι];omega⟩,da,bn (by rw[ι];exact π _)]
     exact⟨xs,h,by show[AV.conv _ _ _]=_;rw[e];rfl,fun _=>e⟩
    ·cases h
   ·cases h
  ·cases h
 ·rename_i hd t' off len;split at h
  ·rename_i mt t2 xs hl;split at h
   ·rename_i hb;obtain rfl:=Ty.eq_of hb;split at h
    ·rename_i y hy;obtain⟨e,rfl⟩:=Ty.cst_ok hy;subst e;obtain⟨h1,h⟩:=aS h;have e:AV.conv s.er.lk φ (.sl hd t2.n off len)=.D (.L (((xs.drop off).take len).map t2.ds)):=by unfold AV.conv;rw[hφ _ _ hl,aP,hl];show(if t2.n=t2.n/\off+len<=(xs.map t2.ds).length then AV.D (.L (((xs.map t2.ds).drop off).take len))else .sc)=_;rw[if_pos ⟨rfl,by rw[ι];exact h1⟩,ce,cj]
     exact⟨_,h,by show[AV.conv _ _ _]=_;rw[e];rfl,fun _=>e⟩
    ·cases h
   ·cases h
  ·cases h
 ·rename_i hd off len;split at h
  ·rename_i mt n k x hl;split at h
   ·rename_i y hy;obtain⟨e,rfl⟩:=Ty.cst_ok hy;subst e;obtain⟨h1,h⟩:=aS h;have e:AV.conv s.er.lk φ (.sl hd 1 off len)=.D (.L ((xK x.l off len n).map (Ty.i k).ds)):=by unfold AV.conv;rw[hφ _ _ hl,aP,hl,aCz x.len];show(if 1=1/\off+len<=(x.l.map (arD k)).length then AV.D (.L (((x.l.map (arD k)).drop off).take len))else .sc)=AV.D (.L (((x.l.drop off).take len).map (arD k)));rw[if_pos ⟨rfl,by rw[ι,x.len];exact h1⟩,ce,cj]
    exact⟨_,h,by show[AV.conv _ _ _]=_;rw[e];rfl,fun _=>e⟩
   ·cases h
  ·cases h
 ·rename_i hd off l len;split at h
  ·rename_i mt t2 x hl;split at h
   ·rename_i a ha;split at h
    ·rename_i y hy;obtain⟨e,rfl⟩:=Ty.cst_ok hy;subst e;obtain⟨h1,h⟩:=aS h;obtain⟨c1,c2⟩:=aCo ha h1;have e:AV.conv s.er.lk φ (.sl hd 1 (off+l) len)=.D (.L ((xK a.x.l l len a.n).map (Ty.i a.k).ds)):=by unfold AV.conv;rw[hφ _ _ hl,aP,hl];show(if 1=1/\off+l+len<=(sgD (t2.ds x)).length then AV.D (.L (((sgD (t2.ds x)).drop (off+l)).take len))else .sc)=_;rw[if_pos ⟨rfl,c1⟩,c2]
     exact⟨_,h,by show[AV.conv _ _ _]=_;rw[e];rfl,fun _=>e⟩
    ·cases h
   ·cases h
  ·cases h
 ·cases h
def pkC(s:XS):(t:Ty)->List XV->(t.T->List XV->Option R)->Option R
 |.u,l,K=>K () l
 |.p a c,l,K=>pkC s a l fun x l=>pkC s c l fun y l=>K (x,y) l
 |.w a,l,K=>pkC s a l K
 |.b,v::l,K=>lW s .b v fun x=>K x l
 |.i k,v::l,K=>lW s (.i k) v fun x=>K x l
 |.s,v::l,K=>lW s .s v fun x=>K x l
 |.ar n k,v::l,K=>lW s (.ar n k) v fun x=>K x l
 |.sl t,v::l,K=>lW s (.sl t) v fun x=>K x l
 |.o t,v::l,K=>lW s (.o t) v fun x=>K x l
 |_,[],_=>none
theorem qC(lk:aY)(φ:Hd->Option Hd):∀(a c:List AV),AV.convL lk φ (a++c)=AV.convL lk φ a++AV.convL lk φ c
 |[],c=>rfl
 |x::a,c=>by show AV.conv lk φ x::AV.convL lk φ (a++c)=_;rw[qC lk φ a c];rfl
theorem aTk[YL]{s:XS}{φ:Hd->Option Hd}(hφ:∀h b,s.lk h=some b->φ h=none){r:R}:∀{t:Ty} {l:List XV} {K:t.T->List XV->Option R},pkC s t l K=some r->∃x l1 l2,l=l1++l2/\K x l2=some r/\AV.convL s.er.lk φ (XV.fcL l1)=(t.ds x).map .D
 |.u,l,K,h=>⟨(),[],l,rfl,h,rfl⟩
 |.p a c,l,K,h=>by
  obtain⟨x,l1,l2,rfl,h,e1⟩:=aTk hφ (t:=a) h;obtain⟨y,l3,l4,rfl,h,e2⟩:=aTk hφ (t:=c) h;refine⟨(x,y),l1++l3,l4,by rw[a9],h,?_⟩;rw[lE,qC,e1,e2,<-cd];rfl
 |.w a,l,K,h=>aTk hφ (t:=a) h
 |.b,v::l,K,h=>by
  obtain⟨x,h,e,_⟩:=vO hφ h;exact⟨x,[v],l,rfl,h,by show AV.convL _ _ (v.fc++[])=_;rw[bj];exact e⟩
 |.i k,v::l,K,h=>by
  obtain⟨x,h,e,_⟩:=vO hφ h;exact⟨x,[v],l,rfl,h,by show AV.convL _ _ (v.fc++[])=_;rw[bj];exact e⟩
 |.s,v::l,K,h=>by
  obtain⟨x,h,e,_⟩:=vO hφ h;exact⟨x,[v],l,rfl,h,by show AV.convL _ _ (v.fc++[])=_;rw[bj];exact e⟩
 |.ar n k,v::l,K,h=>by
  obtain⟨x,h,e,_⟩:=vO hφ h;exact⟨x,[v],l,rfl,h,by show AV.convL _ _ (v.fc++[])=_;rw[bj];exact e⟩
 |.sl t,v::l,K,h=>by
  obtain⟨x,h,e,_⟩:=vO hφ h;exact⟨x,[v],l,rfl,h,by show AV.convL _ _ (v.fc++[])=_;rw[bj];exact e⟩
 |.b,[],K,h=>by cases h
 |.i _,[],K,h=>by cases h
 |.s,[],K,h=>by cases h
 |.ar _ _,[],K,h=>by cases h
 |.sl _,[],K,h=>by cases h
 |.o t,v::l,K,h=>by
  obtain⟨x,h,e,_⟩:=vO hφ h;exact⟨x,[v],l,rfl,h,by show AV.convL _ _ (v.fc++[])=_;rw[bj];exact e⟩
 |.o _,[],K,h=>by cases h
theorem sY:∀{t:Ty} (x:t.T),kV t=false->gI t x=.agg ((t.ds x).map .D)
 |.u,_,_=>rfl
 |.p _ _,_,_=>rfl
 |.w _,_,_=>rfl
 |.ar _ _,_,_=>rfl
 |.b,_,h=>by cases h
 |.i _,_,h=>by cases h
 |.s,_,h=>by cases h
 |.sl _,_,h=>by cases h
 |.o _,_,h=>by cases h
theorem yI(lk:aY)(φ:Hd->Option Hd):∀l:List DV,AV.convL lk φ (l.map .D)=l.map .D
 |[]=>rfl
 |x::l=>by show AV.conv _ _ (.D x)::AV.convL _ _ (l.map .D)=_;rw[yI lk φ l];rfl
theorem aQq(lk:aY)(φ:Hd->Option Hd)(x:t.T):AV.conv lk φ (gI t x)=gI t x:=by
 cases hl:kV t with
 |true=>cases t<;>first|rfl|(cases hl;done)
 |false=>
  rw[sY x hl];show AV.agg (AV.convL lk φ _)=_;rw[yI]
def hm?(φ:Hd->Option Hd)(h:Hd)(f:Hd->XV)(K:XV->Option R):Option R:=match φ h with
 |some h'=>K (f h')
 |none=>K .sc
mutual
def xcv(s:XS)(φ:Hd->Option Hd):XV->(XV->Option R)->Option R
 |.ptr h off,K=>hm? φ h (.ptr · off) K
 |.ept h t ix off,K=>hm? φ h (.ept · t ix off) K
 |.apt h ix,K=>hm? φ h (.apt · ix) K
 |.pa h off j,K=>hm? φ h (.pa · off j) K
 |.rpt h off,K=>hm? φ h (.rpt · off) K
 |.rpa h off j,K=>hm? φ h (.rpa · off j) K
 |.epa h t ix off j,K=>hm? φ h (.epa · t ix off j) K
 |.mref h,K=>hm? φ h .mref K
 |.itr hm h,K=>match φ hm,φ h with
  |some a,some c=>K (.itr a c)
  |_,_=>K .sc
 |.fl t xs,K=>K (.d (.sl t) xs)
 |.fln t,K=>K (.nl t)
 |.slw h t len,K=>match s.lk h with
  |some (.row _ t2 xs)=>match t2.beq t with
   |true=>match φ h with
    |some h'=>gl? len xs (K (.slw h' t2 xs.length))
    |none=>gl? len xs (K (.d (.sl t2) xs))
   |false=>none
  |_=>none
 |.sl h t off len,K=>match φ h with
  |some h'=>K (.sl h' t off len)
  |none=>match s.lk h with
   |some (.row _ t2 xs)=>match t2.beq t with
    |true=>gd? (off+len<=xs.length) (K (.d (.sl t2) ((xs.drop off).take len)))
    |false=>none
   |_=>none
 |.asl h off len,K=>match φ h with
  |some h'=>K (.asl h' off len)
  |none=>match s.lk h with
   |some (.arr _ n k x)=>gd? (off+len<=n) (K (.d (.sl (.i k)) (xK x.l off len n)))
   |_=>none
 |.rsl h off l len,K=>match φ h with
  |some h'=>K (.rsl h' off l len)
  |none=>match s.lk h with
   |some (.rb _ t x)=>match xJ (lvs t x) off with
    |some a=>gd? (l+len<=a.n) (K (.d (.sl (.i a.k)) (xK a.x.l l len a.n)))
    |none=>none
   |_=>none
 |.agg cs,K=>aQ8 s φ cs fun l=>K (.agg l)
 |.tup cs,K=>aQ8 s φ cs fun l=>K (.tup l)
 |.clo f cs,K=>aQ8 s φ cs fun l=>K (.clo f l)
 |.d t x,K=>K (.d t x)
 |.any,K=>K .any
 |.un,K=>K .un
 |.ab,K=>K .ab
 |.sc,K=>K .sc
 |.nl t,K=>K (.nl t)
 |.rop t x off,K=>K (.rop t x off)
 |.c v,K=>K (.c v)
 |.yld,K=>K .yld
 |.gst q,K=>K (.gst q)
def aQ8(s:XS)(φ:Hd->Option Hd):List XV->(List XV->Option R)->Option R
 |[],K=>K []
 |v::vs,K=>xcv s φ v fun v'=>aQ8 s φ vs fun l=>K (v'::l)
end
def slP(P:Hd->Nat->Prop):XV->Prop
 |.slw h _ n=>P h n
 |.agg cs=>slPL P cs
 |.tup cs=>slPL P cs
 |.clo _ cs=>slPL P cs
 |_=>True
where slPL (P:Hd->Nat->Prop):List XV->Prop
 |[]=>True
 |v::vs=>slP P v/\slPL P vs
def wH(s:XS)(φ:Hd->Option Hd)(h':Hd)(n:Nat):Prop:=∃h mt t xs,φ h=some h'/\s.lk h=some (.row mt t xs)/\n=xs.length
def CvOk[YL](s:XS)(φ:Hd->Option Hd)(v v':XV):Prop:=AV.conv s.er.lk φ v.er=v'.er/\AV.convL s.er.lk φ v.fc=v'.fc/\slP (wH s φ) v'
theorem CvOk.of1[YL]{s:XS}{v':XV}(h1:v.fc=[v.er])(h2:v'.fc=[v'.er])(h:AV.conv s.er.lk φ v.er=v'.er)(hp:slP (wH s φ) v':=by exact trivial):CvOk s φ v v':=⟨h,by rw[h1,h2];show[AV.conv _ _ v.er]=_;rw[h],hp⟩
theorem aBv[YL]{s:XS}{f:Hd->XV}{K:XV->Option R}{r:R}(hf:∀h,(f h).fc=[(f h).er])(hc:∀h',φ h=some h'->AV.conv s.er.lk φ (f h).er=(f h').er)(hn:φ h=none->AV.conv s.er.lk φ (f h).er=.sc)(q:hm? φ h f K=some r)(hp:∀h,slP (wH s φ) (f h):=by exact fun _=>trivial):
  ∃v',K v'=some r/\CvOk s φ (f h) v':=by
 unfold hm? at q;split at q
 ·rename_i h' e;exact⟨_,q,.of1 (hf _) (hf _) (hc _ e) (hp _)⟩
 ·rename_i e;exact⟨_,q,.of1 (hf _) rfl (hn e)⟩
mutual
theorem aMe[YL]{s:XS}{φ:Hd->Option Hd}{r:R}:∀{v:XV} {K:XV->Option R},xcv s φ v K=some r->∃v',K v'=some r/\CvOk s φ v v'
 |.ptr h off,K,q=>aBv (f:=(.ptr · off)) (fun _=>rfl) (fun h' e=>by show AV.conv _ _ (.ptr h off)=_;unfold AV.conv;rw[e];rfl) (fun e=>by show AV.conv _ _ (.ptr h off)=_;unfold AV.conv;rw[e]) q
 |.ept h t ix off,K,q=>aBv (f:=(.ept · t ix off)) (fun _=>rfl) (fun h' e=>by show AV.conv _ _ (.eptr h t.n ix off)=_;unfold AV.conv;rw[e];rfl) (fun e=>by show AV.conv _ _ (.eptr h t.n ix off)=_;unfold AV.conv;rw[e]) q
 |.apt h ix,K,q=>aBv (f:=(.apt · ix)) (fun _=>rfl) (fun h' e=>by show AV.conv _ _ (.eptr h 1 ix 0)=_;unfold AV.conv;rw[e];rfl) (fun e=>by show AV.conv _ _ (.eptr h 1 ix 0)=_;unfold AV.conv;rw[e]) q
 |.pa h off j,K,q=>aBv (f:=(.pa · off j)) (fun _=>rfl) (fun h' e=>by show AV.conv _ _ (.ptr h (off+j))=_;unfold AV.conv;rw[e];rfl) (fun e=>by show AV.conv _ _ (.ptr h (off+j))=_;unfold AV.conv;rw[e]) q
 |.rpt h off,K,q=>aBv (f:=(.rpt · off)) (fun _=>rfl) (fun h' e=>by show AV.conv _ _ (.eptr h 1 off 0)=_;unfold AV.conv;rw[e];rfl) (fun e=>by show AV.conv _ _ (.eptr h 1 off 0)=_;unfold AV.conv;rw[e]) q
 |.rpa h off j,K,q=>aBv (f:=(.rpa · off j)) (fun _=>rfl) (fun h' e=>by show AV.conv _ _ (.eptr h 1 (off+j) 0)=_;unfold AV.conv;rw[e];rfl) (fun e=>by show AV.conv _ _ (.eptr h 1 (off+j) 0)=_;unfold AV.conv;rw[e]) q
 |.epa h t ix off j,K,q=>aBv (f:=(.epa · t ix off j)) (fun _=>rfl) (fun h' e=>by show AV.conv _ _ (.eptr h t.n ix (off+j))=_;unfold AV.conv;rw[e];rfl) (fun e=>by show AV.conv _ _ (.eptr h t.n ix (off+j))=_;unfold AV.conv;rw[e]) q
 |.mref h,K,q=>aBv (f:=.mref) (fun _=>rfl) (fun h' e=>by show AV.conv _ _ (.mref h)=_;unfold AV.conv;rw[e];rfl) (fun e=>by show AV.conv _ _ (.mref h)=_;unfold AV.conv;rw[e]) q
 |.itr hm h,K,q=>by
  unfold xcv at q;split at q
  ·rename_i a c e1 e2;exact⟨_,q,.of1 rfl rfl (by show AV.conv _ _ (.itr hm h)=_;unfold AV.conv;rw[e1,e2];rfl)⟩
  ·rename_i e;refine⟨_,q,.of1 rfl rfl ?_⟩;show AV.conv _ _ (.itr hm h)=_;unfold AV.conv;split
   ·rename_i e1 e2;exact(e _ _ e1 e2).elim
   ·rfl
 |.fl t xs,K,q=>⟨_,q,.of1 rfl rfl rfl⟩
 |.fln t,K,q=>⟨_,q,.of1 rfl rfl rfl⟩
 |.slw h t len,K,q=>by
  unfold xcv at q;split at q
  ·rename_i mt t2 xs hl;split at q
   ·rename_i hb;obtain rfl:=Ty.eq_of hb;split at q
    ·rename_i h' e
     replace q:=aSs q;obtain⟨rfl,q⟩:=q
     exact⟨_,q,.of1 rfl rfl (by show AV.conv _ _ (.sl h t2.n 0 xs.length)=_;unfold AV.conv;rw[e];rfl) ⟨h,mt,t2,xs,e,hl,rfl⟩⟩
    ·rename_i e
     replace q:=aSs q;obtain⟨rfl,q⟩:=q
     refine⟨_,q,.of1 rfl rfl ?_⟩;show AV.conv _ _ (.sl h t2.n 0 xs.length)=.D (.L (xs.map t2.ds));unfold AV.conv;rw[e,aP,hl];show(if t2.n=t2.n/\0+xs.length<=(xs.map t2.ds).length then AV.D (.L (((xs.map t2.ds).drop 0).take xs.length))else .sc)=_;rw[if_pos ⟨rfl,by rw[ι];omega⟩,da,bn (by rw[ι];exact π _)]
   ·cases q
  ·cases q
 |.sl h t off len,K,q=>by
  unfold xcv at q;split at q
  ·rename_i h' e;exact⟨_,q,.of1 rfl rfl (by show AV.conv _ _ (.sl h t.n off len)=_;unfold AV.conv;rw[e];rfl)⟩
  ·rename_i e;split at q
   ·rename_i mt t2 xs hl;split at q
    ·rename_i hb;obtain rfl:=Ty.eq_of hb;obtain⟨h1,q⟩:=aS q;refine⟨_,q,.of1 rfl rfl ?_⟩;show AV.conv _ _ (.sl h t2.n off len)=.D (.L (((xs.drop off).take len).map t2.ds));unfold AV.conv;rw[e,aP,hl];show(if t2.n=t2.n/\off+len<=(xs.map t2.ds).length then AV.D (.L (((xs.map t2.ds).drop off).take len))else .sc)=_;rw[if_pos ⟨rfl,by rw[ι];exact h1⟩,ce,cj]
    ·cases q
   ·cases q
 |.asl h off len,K,q=>by
  unfold xcv at q;split at q
  ·rename_i h' e;exact⟨_,q,.of1 rfl rfl (by show AV.conv _ _ (.sl h 1 off len)=_;unfold AV.conv;rw[e];rfl)⟩
  ·rename_i e;split at q
   ·rename_i mt n k x hl;obtain⟨h1,q⟩:=aS q;refine⟨_,q,.of1 rfl rfl ?_⟩;show AV.conv _ _ (.sl h 1 off len)=.D (.L ((xK x.l off len n).map (Ty.i k).ds));unfold AV.conv;rw[e,aP,hl,aCz x.len];show(if 1=1/\off+len<=(x.l.map (arD k)).length then AV.D (.L (((x.l.map (arD k)).drop off).take len))else .sc)=AV.D (.L (((x.l.drop off).take len).map (arD k)));rw[if_pos ⟨rfl,by rw[ι,x.len];exact h1⟩,ce,cj]
   ·cases q
 |.rsl h off l len,K,q=>by
  unfold xcv at q;split at q
  ·rename_i h' e;exact⟨_,q,.of1 rfl rfl (by show AV.conv _ _ (.sl h 1 (off+l) len)=_;unfold AV.conv;rw[e];rfl)⟩
  ·rename_i e;split at q
   ·rename_i mt t x hl;split at q
    ·rename_i a ha;obtain⟨h1,q⟩:=aS q;obtain⟨c1,c2⟩:=aCo ha h1;refine⟨_,q,.of1 rfl rfl ?_⟩;show AV.conv _ _ (.sl h 1 (off+l) len)=.D (.L ((xK a.x.l l len a.n).map (Ty.i a.k).ds));unfold AV.conv;rw[e,aP,hl];show(if 1=1/\off+l+len<=(sgD (t.ds x)).length then AV.D (.L (((sgD (t.ds x)).drop (off+l)).take len))else .sc)=_;rw[if_pos ⟨rfl,c1⟩,c2]
    ·cases q
   ·cases q
 |.agg cs,K,q=>by
  obtain⟨l,q,e1,e2,e3⟩:=zT (vs:=cs) q;exact⟨_,q,congrArg AV.agg e2,e2,e3⟩
 |.tup cs,K,q=>by
  obtain⟨l,q,e1,e2,e3⟩:=zT (vs:=cs) q;exact⟨_,q,.of1 rfl rfl (congrArg AV.tup e1) e3⟩
 |.clo f cs,K,q=>by
  obtain⟨l,q,e1,e2,e3⟩:=zT (vs:=cs) q;exact⟨_,q,.of1 rfl rfl (congrArg (AV.clo f) e1) e3⟩
 |.d t x,K,q=>⟨_,q,aQq _ _ _,yI _ _ _,trivial⟩
 |.any,K,q=>⟨_,q,.of1 rfl rfl rfl⟩
 |.un,K,q=>⟨_,q,.of1 rfl rfl rfl⟩
 |.ab,K,q=>⟨_,q,.of1 rfl rfl rfl⟩
 |.sc,K,q=>⟨_,q,.of1 rfl rfl rfl⟩
 |.nl t,K,q=>⟨_,q,.of1 rfl rfl rfl⟩
 |.rop t x off,K,q=>⟨_,q,.of1 rfl rfl rfl⟩
 |.c v,K,q=>⟨_,q,.of1 rfl rfl rfl⟩
 |.yld,K,q=>⟨_,q,.of1 rfl rfl rfl⟩
 |.gst _,K,q=>⟨_,q,.of1 rfl rfl rfl⟩
theorem zT[YL]{s:XS}{φ:Hd->Option Hd}{r:R}:∀{vs:List XV} {K:List XV->Option R},aQ8 s φ vs K=some r->∃vs',K vs'=some r/\AV.convL s.er.lk φ (XV.erL vs)=XV.erL vs'/\AV.convL s.er.lk φ (XV.fcL vs)=XV.fcL vs'/\slP.slPL (wH s φ) vs'
 |[],K,q=>⟨[],q,rfl,rfl,trivial⟩
 |v::vs,K,q=>by
  obtain⟨v',q,e1,e2,e5⟩:=aMe (v:=v) q;obtain⟨l,q,e3,e4,e6⟩:=zT (vs:=vs) q;refine⟨_,q,?_,?_,e5,e6⟩
  ·show AV.conv _ _ v.er::AV.convL _ _ (XV.erL vs)=v'.er::XV.erL l;rw[e1,e3]
  ·show AV.convL _ _ (v.fc++XV.fcL vs)=v'.fc++XV.fcL l;rw[qC,e2,e4]
end
end
section
variable{R:Type}
mutual
def XV.ren(ψ:Hd->Hd):XV->XV
 |.ptr h off=>.ptr (ψ h) off
 |.ept h t ix off=>.ept (ψ h) t ix off
 |.apt h ix=>.apt (ψ h) ix
 |.pa h off j=>.pa (ψ h) off j
 |.epa h t ix off j=>.epa (ψ h) t ix off j
 |.sl h t off len=>.sl (ψ h) t off len
 |.slw h t len=>.slw (ψ h) t len
 |.asl h off len=>.asl (ψ h) off len
 |.rpt h off=>.rpt (ψ h) off
 |.rpa h off j=>.rpa (ψ h) off j
 |.rsl h off l len=>.rsl (ψ h) off l len
 |.mref h=>.mref (ψ h)
 |.itr hm h=>.itr (ψ hm) (ψ h)
 |.agg cs=>.agg (XV.renL ψ cs)
 |.tup cs=>.tup (XV.renL ψ cs)
 |.clo f cs=>.clo f (XV.renL ψ cs)
 |.d t x=>.d t x
 |.any=>.any
 |.un=>.un
 |.ab=>.ab
 |.sc=>.sc
 |.rop t x off=>.rop t x off
 |.fl t xs=>.fl t xs
 |.fln t=>.fln t
 |.nl t=>.nl t
 |.c v=>.c v
 |.yld=>.yld
 |.gst q=>.gst q
def XV.renL(ψ:Hd->Hd):List XV->List XV
 |[]=>[]
 |v::vs=>XV.ren ψ v::XV.renL ψ vs
end
theorem aNk(ψ:Hd->Hd):∀l:List DV,AV.renL ψ (l.map .D)=l.map .D
 |[]=>rfl
 |x::l=>by show AV.ren ψ (.D x)::AV.renL ψ (l.map .D)=_;rw[aNk ψ l];rfl
theorem aK5(ψ:Hd->Hd):∀a c:List AV,AV.renL ψ (a++c)=AV.renL ψ a++AV.renL ψ c
 |[],_=>rfl
 |x::a,c=>by show AV.ren ψ x::AV.renL ψ (a++c)=_;rw[aK5 ψ a c];rfl
theorem aVd(ψ:Hd->Hd)(x:t.T):AV.ren ψ (gI t x)=gI t x:=by
 cases hl:kV t with
 |true=>cases t<;>first|rfl|(cases hl;done)
 |false=>
  rw[sY x hl];show AV.agg (AV.renL ψ _)=_;rw[aNk]
mutual
theorem aH9[YL](ψ:Hd->Hd):∀v:XV,(v.ren ψ).er=AV.ren ψ v.er
 |.d t x=>(aVd ψ x).symm
 |.agg cs=>congrArg AV.agg (aCv ψ cs)
 |.tup cs=>congrArg AV.tup (xY ψ cs)
 |.clo f cs=>congrArg (AV.clo f) (xY ψ cs)
 |.ptr _ _=>rfl
 |.ept _ _ _ _=>rfl
 |.apt _ _=>rfl
 |.pa _ _ _=>rfl
 |.epa _ _ _ _ _=>rfl
 |.sl _ _ _ _=>rfl
 |.slw _ _ _=>rfl
 |.asl _ _ _=>rfl
 |.rpt _ _=>rfl
 |.rpa _ _ _=>rfl
 |.rsl _ _ _ _=>rfl
 |.mref _=>rfl
 |.itr _ _=>rfl
 |.any=>rfl
 |.un=>rfl
 |.ab=>rfl
 |.sc=>rfl
 |.rop _ _ _=>rfl
 |.fl _ _=>rfl
 |.fln _=>rfl
 |.nl _=>rfl
 |.c _=>rfl
 |.yld=>rfl
 |.gst _=>rfl
theorem bDj[YL](ψ:Hd->Hd):∀v:XV,(v.ren ψ).fc=AV.renL ψ v.fc
 |.d t x=>(aNk ψ _).symm
 |.agg cs=>aCv ψ cs
 |.tup cs=>congrArg (fun l=>[AV.tup l]) (xY ψ cs)
 |.clo f cs=>congrArg (fun l=>[AV.clo f l]) (xY ψ cs)
 |.ptr _ _=>rfl
 |.ept _ _ _ _=>rfl
 |.apt _ _=>rfl
 |.pa _ _ _=>rfl
 |.epa _ _ _ _ _=>rfl
 |.sl _ _ _ _=>rfl
 |.slw _ _ _=>rfl
 |.asl _ _ _=>rfl
 |.rpt _ _=>rfl
 |.rpa _ _ _=>rfl
 |.rsl _ _ _ _=>rfl
 |.mref _=>rfl
 |.itr _ _=>rfl
 |.any=>rfl
 |.un=>rfl
 |.ab=>rfl
 |.sc=>rfl
 |.rop _ _ _=>rfl
 |.fl _ _=>rfl
 |.fln _=>rfl
 |.nl _=>rfl
 |.c _=>rfl
 |.yld=>rfl
 |.gst _=>rfl
theorem xY[YL](ψ:Hd->Hd):∀vs:List XV,XV.erL (XV.renL ψ vs)=AV.renL ψ (XV.erL vs)
 |[]=>rfl
 |v::vs=>by show(v.ren ψ).er::XV.erL (XV.renL ψ vs)=AV.ren ψ v.er::AV.renL ψ (XV.erL vs);rw[aH9 ψ v,xY ψ vs]
theorem aCv[YL](ψ:Hd->Hd):∀vs:List XV,XV.fcL (XV.renL ψ vs)=AV.renL ψ (XV.fcL vs)
 |[]=>rfl
 |v::vs=>by show(v.ren ψ).fc++XV.fcL (XV.renL ψ vs)=AV.renL ψ (v.fc++XV.fcL vs);rw[aK5,bDj ψ v,aCv ψ vs]
end
def XB.ren(ψ:Hd->Hd):XB->XB
 |.box cs=>.box (XV.renL ψ cs)
 |.row mt t xs=>.row mt t xs
 |.rb mt t x=>.rb mt t x
 |.arr mt n k x=>.arr mt n k x
 |.mp wr K V es hole i=>.mp wr K V es hole (match i with
  |some (h,q)=>some (ψ h,q)
  |none=>none)
 |.it=>.it
 |.sb T us xs=>.sb T us xs
theorem aJe[YL](ψ:Hd->Hd):∀b:XB,(b.ren ψ).er=Blk.ren ψ b.er
 |.box cs=>congrArg Blk.box (aCv ψ cs)
 |.row _ _ _=>rfl
 |.rb _ _ _=>rfl
 |.arr _ _ _ _=>rfl
 |.mp wr K V es hole none=>by cases wr<;>rfl
 |.mp wr K V es hole (some (h,cur,rem))=>by cases wr<;>rfl
 |.it=>rfl
 |.sb _ _ _=>rfl
def aKt(t:Ty):List XV->Option (t.T×List XV)
 |.d t' x::l=>match t'.cst t x with
  |some y=>some (y,l)
  |none=>none
 |.nl _::l=>match t with
  |.sl _=>some ([],l)
  |.o _=>some ([],l)
  |_=>none
 |_=>none
theorem vJ[YL]{x:t.T}(h:aKt t l=some (x,l2)):∃v,l=v::l2/\v.fc=(t.ds x).map .D:=by
 unfold aKt at h;split at h
 ·split at h
  ·rename_i y hy;obtain⟨e,rfl⟩:=Ty.cst_ok hy;subst e;cases h;exact⟨_,rfl,rfl⟩
  ·cases h
 ·split at h
  ·cases h;exact⟨_,rfl,rfl⟩
  ·cases h;exact⟨_,rfl,rfl⟩
  ·cases h
 ·cases h
def pkD:(t:Ty)->List XV->Option (t.T×List XV)
 |.u,l=>some ((),l)
 |.p a c,l=>match pkD a l with
  |some (x,l)=>match pkD c l with
   |some (y,l)=>some ((x,y),l)
   |none=>none
  |none=>none
 |.w a,l=>pkD a l
 |.b,l=>aKt .b l
 |.i k,l=>aKt (.i k) l
 |.s,l=>aKt .s l
 |.ar n k,l=>aKt (.ar n k) l
 |.sl t,l=>aKt (.sl t) l
 |.o t,l=>aKt (.o t) l
theorem pk1[YL]{x:t.T}:(∃v:XV,l=v::l2/\v.fc=(t.ds x).map .D)->∃l1,l=l1++l2/\XV.fcL l1=(t.ds x).map .D
 |⟨v,h1,h2⟩=>⟨[v],h1,by show v.fc++[]=_;rw[bj,h2]⟩
theorem pK[YL]:∀{t:Ty} {l l2:List XV} {x:t.T},pkD t l=some (x,l2)->∃l1,l=l1++l2/\XV.fcL l1=(t.ds x).map .D
 |.u,l,l2,x,h=>by cases h;exact⟨[],rfl,rfl⟩
 |.p a c,l,l2,x,h=>by
  unfold pkD at h;split at h
  ·rename_i x1 l1 h1;split at h
   ·rename_i y1 l3 h3;cases h;obtain⟨a1,rfl,e1⟩:=pK h1;obtain⟨a2,rfl,e2⟩:=pK h3;exact⟨a1++a2,by rw[a9],by rw[lE,e1,e2,<-cd];rfl⟩
   ·cases h
  ·cases h
 |.w a,l,l2,x,h=>pK (t:=a) h
 |.b,l,l2,x,h=>pk1 (vJ (t:=.b) h)
 |.i k,l,l2,x,h=>pk1 (vJ (t:=.i k) h)
 |.s,l,l2,x,h=>pk1 (vJ (t:=.s) h)
 |.ar n k,l,l2,x,h=>pk1 (vJ (t:=.ar n k) h)
 |.sl t,l,l2,x,h=>pk1 (vJ (t:=.sl t) h)
 |.o t,l,l2,x,h=>pk1 (vJ (t:=.o t) h)
@[reducible] def tup:List Ty->Type
 |[]=>Unit
 |t::ts=>t.T×tup ts
@[reducible] def rty:List Ty->Type
 |[]=>Unit
 |[t]=>t.T
 |t::ts=>t.T×rty ts
@[reducible] def fty:List Ty->Type->Type
 |[],R=>Option R
 |.u::ts,R=>Unit->fty ts R
 |.b::ts,R=>Bool->fty ts R
 |.i _::ts,R=>Int->fty ts R
 |.s::ts,R=>Str->fty ts R
 |.p x y::ts,R=>x.T×y.T->fty ts R
 |.w x::ts,R=>x.T->fty ts R
 |.ar n _::ts,R=>Arr n->fty ts R
 |.sl t::ts,R=>List t.T->fty ts R
 |.o t::ts,R=>List t.T->fty ts R
def apF{R:Type}:(ts:List Ty)->fty ts R->tup ts->Option R
 |[],f,_=>f
 |.u::ts,f,a=>apF ts (f a.1) a.2
 |.b::ts,f,a=>apF ts (f a.1) a.2
 |.i _::ts,f,a=>apF ts (f a.1) a.2
 |.s::ts,f,a=>apF ts (f a.1) a.2
 |.p _ _::ts,f,a=>apF ts (f a.1) a.2
 |.w _::ts,f,a=>apF ts (f a.1) a.2
 |.ar _ _::ts,f,a=>apF ts (f a.1) a.2
 |.sl _::ts,f,a=>apF ts (f a.1) a.2
 |.o _::ts,f,a=>apF ts (f a.1) a.2
def cuF{R:Type}:(ts:List Ty)->(tup ts->Option R)->fty ts R
 |[],f=>f ()
 |.u::ts,f=>fun x=>cuF ts fun y=>f (x,y)
 |.b::ts,f=>fun x=>cuF ts fun y=>f (x,y)
 |.i _::ts,f=>fun x=>cuF ts fun y=>f (x,y)
 |.s::ts,f=>fun x=>cuF ts fun y=>f (x,y)
 |.p _ _::ts,f=>fun x=>cuF ts fun y=>f (x,y)
 |.w _::ts,f=>fun x=>cuF ts fun y=>f (x,y)
 |.ar _ _::ts,f=>fun x=>cuF ts fun y=>f (x,y)
 |.sl _::ts,f=>fun x=>cuF ts fun y=>f (x,y)
 |.o _::ts,f=>fun x=>cuF ts fun y=>f (x,y)
theorem cR{R:Type}:∀(ts:List Ty) (f:tup ts->Option R) (a:tup ts),apF ts (cuF ts f) a=f a
 |[],f,()=>rfl
 |.u::ts,f,a=>cR ts (fun y=>f (a.1,y)) a.2
 |.b::ts,f,a=>cR ts (fun y=>f (a.1,y)) a.2
 |.i _::ts,f,a=>cR ts (fun y=>f (a.1,y)) a.2
 |.s::ts,f,a=>cR ts (fun y=>f (a.1,y)) a.2
 |.p _ _::ts,f,a=>cR ts (fun y=>f (a.1,y)) a.2
 |.w _::ts,f,a=>cR ts (fun y=>f (a.1,y)) a.2
 |.ar _ _::ts,f,a=>cR ts (fun y=>f (a.1,y)) a.2
 |.sl _::ts,f,a=>cR ts (fun y=>f (a.1,y)) a.2
 |.o _::ts,f,a=>cR ts (fun y=>f (a.1,y)) a.2
def toR:(ts:List Ty)->tup ts->rty ts
 |[],_=>()
 |[_],a=>a.1
 |_::t2::ts,a=>(a.1,toR (t2::ts) a.2)
def ofR:(ts:List Ty)->rty ts->tup ts
 |[],_=>()
 |[_],a=>(a,())
 |_::t2::ts,a=>(a.1,ofR (t2::ts) a.2)
theorem qR:∀(ts:List Ty) (a:tup ts),ofR ts (toR ts a)=a
 |[],()=>rfl
 |[_],(_,())=>rfl
 |_::t2::ts,a=>by show(a.1,ofR (t2::ts) (toR (t2::ts) a.2))=a;rw[qR]
abbrev DS:=Sigma Ty.T
def sgs:(ts:List Ty)->tup ts->List DS
 |[],_=>[]
 |t::ts,v=>⟨t,v.1⟩::sgs ts v.2
def aB4:(ts:List Ty)->List DS->Option (tup ts)
 |[],[]=>some ()
 |t::ts,p::l=>match p.1.cst t p.2,aB4 ts l with
  |some y,some v=>some (y,v)
  |_,_=>none
 |_,_=>none
theorem aDy:∀{ts:List Ty} {l:List DS} {v:tup ts},aB4 ts l=some v->sgs ts v=l
 |[],[],_,h=>rfl
 |t::ts,p::l,v,h=>by
  unfold aB4 at h;split at h
  ·rename_i y v' h1 h2;cases h;obtain⟨e,rfl⟩:=Ty.cst_ok h1;obtain⟨t',x⟩:=p;have e:t'=t:=e;subst e;show(⟨t',x⟩:DS)::sgs ts v'=_;rw[aDy h2]
  ·cases h
 |[],_::_,_,h=>by cases h
 |_::_,[],_,h=>by cases h
def aA1(t:Ty)(x:t.T):XV:=match t,x with
 |.w a,x=>.agg (lvs (.w a) x)
 |.p a c,x=>.agg (lvs (.p a c) x)
 |.u,_=>.agg []
 |t,x=>.d t x
theorem yO[YL](t:Ty)(x:t.T):(aA1 t x).er=gI t x:=by cases t<;>first|rfl|(show AV.agg (XV.fcL (lvs _ x))=_;rw[cS];rfl)
theorem aPi[YL](t:Ty)(x:t.T):(aA1 t x).fc=(t.ds x).map .D:=by cases t<;>first|rfl|(show XV.fcL (lvs _ x)=_;rw[cS])
def DS.nat:DS->Nat
 |⟨.i _,n⟩=>n.toNat
 |_=>0
mutual
def XV.tys:XV->List Ty
 |.d t _=>[t]
 |.sl _ _ _ _=>[.i .i64,.i .i64]
 |.agg cs=>XV.tysL cs
 |.clo _ cs=>XV.tysL cs
 |_=>[]
def XV.tysL:List XV->List Ty
 |[]=>[]
 |v::vs=>v.tys++XV.tysL vs
end
mutual
def XV.fil(len:Hd->Nat):XV->List DS->XV×List DS
 |.d t x,l=>match l with
  |p::l=>(aA1 p.1 p.2,l)
  |[]=>(.d t x,[])
 |.slw h t _,l=>(.slw h t (len h),l)
 |.sl h t o n,l=>match l with
  |p::q::l=>(.sl h t p.nat q.nat,l)
  |l=>(.sl h t o n,l)
 |.agg cs,l=>(.agg (XV.filL len cs l).1,(XV.filL len cs l).2)
 |.clo f cs,l=>(.clo f (XV.filL len cs l).1,(XV.filL len cs l).2)
 |v,l=>(v,l)
def XV.filL(len:Hd->Nat):List XV->List DS->List XV×List DS
 |[],l=>([],l)
 |v::vs,l=>((XV.fil len v l).1::(XV.filL len vs (XV.fil len v l).2).1,(XV.filL len vs (XV.fil len v l).2).2)
end
def bEj(mt:Bool)(t:Ty):DS->XB
 |⟨.sl t',xs⟩=>.row mt t' xs
 |_=>.row mt t []
def bE9(mt:Bool)(n:Nat)(k:IntKind):DS->XB
 |⟨.ar n' k',x⟩=>.arr mt n' k' x
 |_=>.arr mt n k (Arr.zero n)
def bBn(wr:Bool)(K V:Ty):DS->XB
 |⟨.sl (.p K' V'),es⟩=>.mp wr K' V' es none none
 |_=>.mp wr K V [] none none
def aSf(h:Hd):XB->DS->XB
 |.mp wr K V es hole _,⟨.sl K',rem⟩=>match(Ty.sl K').cst (.sl K) rem with
  |some rem=>.mp wr K V es hole (some (h,none,rem))
  |none=>.mp wr K V es hole none
 |b,_=>b
def bBc(T:TypeId×TypeId):DS->DS->XB
 |⟨.b,us⟩,⟨.sl t,xs⟩=>match(Ty.sl t).cst (.sl (.i .u8)) xs with
  |some ys=>.sb T us ys
  |none=>.sb T us []
 |_,_=>.sb T false []
def XB.tys:XB->List Ty
 |.box cs=>XV.tysL cs
 |.row _ t _=>[.sl t]
 |.rb _ t _=>[t]
 |.arr _ n k _=>[.ar n k]
 |.mp _ K V _ _ none=>[.sl (.p K V)]
 |.mp _ K V _ _ (some _)=>[.sl (.p K V),.sl K]
 |.it=>[]
 |.sb _ _ _=>[.b,.sl (.i .u8)]
def XB.fil(len:Hd->Nat):XB->List DS->XB×List DS
 |.box cs,l=>(.box (XV.filL len cs l).1,(XV.filL len cs l).2)
 |.row mt t xs,p::l=>(bEj mt t p,l)
 |.rb mt _ _,p::l=>(.rb mt p.1 p.2,l)
 |.arr mt n k x,p::l=>(bE9 mt n k p,l)
 |.sb T _ _,p::q::l=>(bBc T p q,l)
 |.mp wr K V _ _ none,p::l=>(bBn wr K V p,l)
 |.mp wr K V _ _ (some (h,_)),p::q::l=>(aSf h (bBn wr K V p) q,l)
 |b,l=>(b,l)
def aBr:List (Option XB)->List Ty
 |[]=>[]
 |some b::r=>b.tys++aBr r
 |none::r=>aBr r
def mK(len:Hd->Nat):List (Option XB)->List DS->List (Option XB)×List DS
 |[],l=>([],l)
 |some b::r,l=>(some (b.fil len l).1::(mK len r (b.fil len l).2).1,(mK len r (b.fil len l).2).2)
 |none::r,l=>(none::(mK len r l).1,(mK len r l).2)
def aMn:List (Nat×XV)->List Ty
 |[]=>[]
 |(_,v)::r=>v.tys++aMn r
def wW(len:Hd->Nat):List (Nat×XV)->List DS->List (Nat×XV)×List DS
 |[],l=>([],l)
 |(n,v)::r,l=>((n,(v.fil len l).1)::(wW len r (v.fil len l).2).1,(wW len r (v.fil len l).2).2)
def XS.tys(m:XS):List Ty:=aMn m.env++(aBr m.bs++aBr m.own)
def XB.rlen:XB->Nat
 |.row _ _ xs=>xs.length
 |_=>0
def DS.rlen:DS->Nat
 |⟨.sl _,xs⟩=>xs.length
 |_=>0
def lS:List (Option XB)->List DS->List Nat
 |[],_=>[]
 |none::r,l=>0::lS r l
 |some (.row _ _ _)::r,l=>(match l with
  |p::_=>DS.rlen p
  |[]=>0)::lS r (l.drop 1)
 |some b::r,l=>0::lS r (l.drop b.tys.length)
def aGm:List Nat->Nat->Nat
 |[],_=>0
 |x::_,0=>x
 |_::l,i+1=>aGm l i
def bCr(lb lo:List Nat):Hd->Nat
 |.B i=>aGm lb i
 |.O i=>aGm lo i
def XS.fil(m:XS)(l:List DS):XS:=
 let l0:=l.drop (aMn m.env).length;let len:=bCr (lS m.bs l0) (lS m.own (l0.drop (aBr m.bs).length));let e:=wW len m.env l;let b:=mK len m.bs e.2
 {env:=e.1,bs:=b.1,own:=(mK len m.own b.2).1}
def XS.fill(m:XS)(v:tup m.tys):XS:=m.fil (sgs m.tys v)
end
section
variable{R:Type}
theorem Ty.beq_refl:∀t:Ty,t.beq t=true
 |.u=>rfl
 |.b=>rfl
 |.i k=>decide_eq_true rfl
 |.s=>rfl
 |.p a c=>by show(a.beq a&&c.beq c)=true;rw[Ty.beq_refl a,Ty.beq_refl c];rfl
 |.w a=>Ty.beq_refl a
 |.ar n k=>by show(χ n n&&decide (k=k))=true;rw[Nat.beq_refl,decide_eq_true rfl];rfl
 |.sl t=>Ty.beq_refl t
 |.o t=>Ty.beq_refl t
theorem Ty.cst_self(t:Ty)(x:t.T):t.cst t x=some x:=by unfold Ty.cst;rw[dif_pos (Ty.beq_refl t)]
def mtD(t:Ty):XV->Option DS
 |.d t' x=>match t'.beq t with
  |true=>some ⟨t',x⟩
  |false=>none
 |.nl _=>match t with
  |.sl u=>some ⟨.sl u,[]⟩
  |.o u=>some ⟨.o u,[]⟩
  |_=>none
 |.agg cs=>match kV t with
  |true=>none
  |false=>match pkD t cs with
   |some (x,[])=>some ⟨t,x⟩
   |_=>none
 |_=>none
theorem bCn[YL]{p:DS}(h:mtD t v=some p):(aA1 p.1 p.2).er=v.er/\(aA1 p.1 p.2).fc=v.fc:=by
 unfold mtD at h;split at h
 ·split at h
  ·cases h;exact⟨yO _ _,aPi _ _⟩
  ·cases h
 ·split at h
  ·cases h;exact⟨rfl,rfl⟩
  ·cases h;exact⟨rfl,rfl⟩
  ·cases h
 ·split at h
  ·cases h
  ·rename_i cs _ hl;split at h
   ·rename_i x hp;cases h;obtain⟨l1,e1,e2⟩:=pK hp;rw[bj]at e1;subst e1;refine⟨?_,?_⟩
    ·rw[yO,sY x hl];show _=AV.agg (XV.fcL _);rw[e2]
    ·rw[aPi];exact e2.symm
   ·cases h
 ·cases h
def cEq:Value->Value->Bool
 |.pointer none,.pointer none=>true
 |.map none,.map none=>true
 |_,_=>false
theorem aUk{v w:Value}(h:cEq v w=true):v=w:=by
 unfold cEq at h;split at h
 ·rfl
 ·rfl
 ·cases h
def GX.eqb:GX->GX->Bool
 |.go,.go=>true
 |.exit a,.exit b=>χ a b
 |.ret,.ret=>true
 |_,_=>false
theorem GX.eqb_ok:∀{a b:GX},a.eqb b=true->a=b
 |.go,.go,_=>rfl
 |.exit a,.exit b,h=>congrArg GX.exit (η h)
 |.ret,.ret,_=>rfl
 |.go,.exit _,h=>by cases h
 |.go,.ret,h=>by cases h
 |.exit _,.go,h=>by cases h
 |.exit _,.ret,h=>by cases h
 |.ret,.go,h=>by cases h
 |.ret,.exit _,h=>by cases h
def okL(b:Bool):Option (List DS):=match b with
 |true=>some []
 |false=>none
mutual
def XV.mt:XV->XV->Option (List DS)
 |.d t _,v=>match mtD t v with
  |some p=>some [p]
  |none=>none
 |.slw h t _,v=>match v with
  |.slw h' t' _=>okL (h.eqb h'&&t.beq t')
  |_=>none
 |.sl h t _ _,v=>match v with
  |.sl h' t' o n=>match h.eqb h'&&t.beq t' with
   |true=>some [⟨.i .i64,(o:Int)⟩,⟨.i .i64,(n:Int)⟩]
   |false=>none
  |_=>none
 |.ptr h o,v=>match v with
  |.ptr h' o'=>okL (h.eqb h'&&χ o o')
  |_=>none
 |.rpt h o,v=>match v with
  |.rpt h' o'=>okL (h.eqb h'&&χ o o')
  |_=>none
 |.apt h o,v=>match v with
  |.apt h' o'=>okL (h.eqb h'&&χ o o')
  |_=>none
 |.mref h,v=>match v with
  |.mref h'=>okL (h.eqb h')
  |_=>none
 |.itr a e,v=>match v with
  |.itr a' e'=>okL (a.eqb a'&&e.eqb e')
  |_=>none
 |.agg cs,v=>match v with
  |.agg ds=>XV.mtL cs ds
  |_=>none
 |.clo f cs,v=>match v with
  |.clo g ds=>match χ f g with
   |true=>XV.mtL cs ds
   |false=>none
  |_=>none
 |.fln _,v=>match v with
  |.fln _=>some []
  |_=>none
 |.nl _,v=>match v with
  |.nl _=>some []
  |_=>none
 |.un,v=>match v with
  |.un=>some []
  |_=>none
 |.sc,v=>match v with
  |.sc=>some []
  |_=>none
 |.c x,v=>match v with
  |.c y=>okL (cEq x y)
  |_=>none
 |.yld,v=>match v with
  |.yld=>some []
  |_=>none
 |.gst q,v=>match v with
  |.gst q'=>okL (q.eqb q')
  |_=>none
 |_,_=>none
def XV.mtL:List XV->List XV->Option (List DS)
 |[],[]=>some []
 |m::ms,v::vs=>match m.mt v,XV.mtL ms vs with
  |some a,some y=>some (a++y)
  |_,_=>none
 |_,_=>none
end
theorem iG{b:Bool}{l:List DS}(h:okL b=some l):b=true/\l=[]:=by
 cases b
 ·cases h
 ·cases h;exact⟨rfl,rfl⟩
def Fil[YL](len:Hd->Nat)(m v:XV)(l:List DS):Prop:=∀rest,∃v',m.fil len (l++rest)=(v',rest)/\v'.er=v.er/\v'.fc=v.fc
theorem Fil.c[YL]{m:XV}(h:∀l,m.fil len l=(v,l)):Fil len m v []:=fun rest=>⟨v,h rest,rfl,rfl⟩
mutual
theorem aZy[YL]{len:Hd->Nat}:∀{m v:XV} {l:List DS},m.mt v=some l->slP (fun h n=>n=len h) v->Fil len m v l
 |.d t x,v,l,h,hp=>by
  unfold XV.mt at h;split at h
  ·rename_i p hm;cases h;obtain⟨h1,h2⟩:=bCn hm;exact fun rest=>⟨_,rfl,h1,h2⟩
  ·cases h
 |.slw hd t n,v,l,h,hp=>by
  unfold XV.mt at h;split at h
  ·obtain⟨hh,rfl⟩:=iG h;replace h:=hh;rw[μ]at h;obtain rfl:=Hd.eqb_iff.1 h.1;obtain rfl:=Ty.eq_of h.2;have hp:_=len hd:=hp;subst hp;exact .c fun _=>rfl
  ·cases h
 |.fln t,v,l,h,hp=>by
  unfold XV.mt at h;split at h
  ·cases h;exact fun rest=>⟨.fln t,rfl,rfl,rfl⟩
  ·cases h
 |.sl hd t o n,v,l,h,hp=>by
  unfold XV.mt at h;split at h
  ·split at h
   ·rename_i hh;cases h;rw[μ]at hh;obtain rfl:=Hd.eqb_iff.1 hh.1;obtain rfl:=Ty.eq_of hh.2;exact fun rest=>⟨_,rfl,rfl,rfl⟩
   ·cases h
  ·cases h
 |.ptr hd o,v,l,h,hp=>by
  unfold XV.mt at h;split at h
  ·obtain⟨hh,rfl⟩:=iG h;replace h:=hh;rw[μ]at h;obtain rfl:=Hd.eqb_iff.1 h.1;obtain rfl:=η h.2;exact .c fun _=>rfl
  ·cases h
 |.rpt hd o,v,l,h,hp=>by
  unfold XV.mt at h;split at h
  ·obtain⟨hh,rfl⟩:=iG h;replace h:=hh;rw[μ]at h;obtain rfl:=Hd.eqb_iff.1 h.1;obtain rfl:=η h.2;exact .c fun _=>rfl
  ·cases h
 |.apt hd o,v,l,h,hp=>by
  unfold XV.mt at h;split at h
  ·obtain⟨hh,rfl⟩:=iG h;replace h:=hh;rw[μ]at h;obtain rfl:=Hd.eqb_iff.1 h.1;obtain rfl:=η h.2;exact .c fun _=>rfl
  ·cases h
 |.mref hd,v,l,h,hp=>by
  unfold XV.mt at h;split at h
  ·obtain⟨hh,rfl⟩:=iG h;replace h:=hh;obtain rfl:=Hd.eqb_iff.1 h;exact .c fun _=>rfl
  ·cases h
 |.itr a c,v,l,h,hp=>by
  unfold XV.mt at h;split at h
  ·obtain⟨hh,rfl⟩:=iG h;replace h:=hh;rw[μ]at h;obtain rfl:=Hd.eqb_iff.1 h.1;obtain rfl:=Hd.eqb_iff.1 h.2;exact .c fun _=>rfl
  ·cases h
 |.agg cs,v,l,h,hp=>by
  unfold XV.mt at h;split at h
  ·have:=aIa (ms:=cs) h hp;intro rest;obtain⟨vs',h1,_,h3⟩:=this rest;refine⟨.agg vs',?_,congrArg AV.agg h3,h3⟩;unfold XV.fil;rw[h1]
  ·cases h
 |.clo f cs,v,l,h,hp=>by
  unfold XV.mt at h;split at h
  ·split at h
   ·rename_i hb;obtain rfl:=η hb;have:=aIa (ms:=cs) h hp;intro rest;obtain⟨vs',h1,h2,_⟩:=this rest;refine⟨.clo f vs',?_,congrArg (AV.clo f) h2,congrArg (fun l=>[AV.clo f l]) h2⟩;unfold XV.fil;rw[h1]
   ·cases h
  ·cases h
 |.nl t,v,l,h,hp=>by
  unfold XV.mt at h;split at h
  ·cases h;exact fun rest=>⟨_,rfl,rfl,rfl⟩
  ·cases h
 |.un,v,l,h,hp=>by
  unfold XV.mt at h;split at h
  ·cases h;exact .c fun _=>rfl
  ·cases h
 |.sc,v,l,h,hp=>by
  unfold XV.mt at h;split at h
  ·cases h;exact .c fun _=>rfl
  ·cases h
 |.c x,v,l,h,hp=>by
  unfold XV.mt at h;split at h
  ·obtain⟨hh,rfl⟩:=iG h;replace h:=hh;obtain rfl:=aUk h;exact .c fun _=>rfl
  ·cases h
 |.yld,v,l,h,hp=>by
  unfold XV.mt at h;split at h
  ·cases h;exact .c fun _=>rfl
  ·cases h
 |.gst q,v,l,h,hp=>by
  unfold XV.mt at h;split at h
  ·obtain⟨hh,rfl⟩:=iG h;replace h:=hh;obtain rfl:=GX.eqb_ok h;exact .c fun _=>rfl
  ·cases h
 |.any,v,l,h,hp=>by cases h
 |.ab,v,l,h,hp=>by cases h
 |.ept _ _ _ _,v,l,h,hp=>by cases h
 |.pa _ _ _,v,l,h,hp=>by cases h
 |.epa _ _ _ _ _,v,l,h,hp=>by cases h
 |.rop _ _ _,v,l,h,hp=>by cases h
 |.fl _ _,v,l,h,hp=>by cases h
 |.asl _ _ _,v,l,h,hp=>by cases h
 |.rpa _ _ _,v,l,h,hp=>by cases h
 |.rsl _ _ _ _,v,l,h,hp=>by cases h
 |.tup _,v,l,h,hp=>by cases h
theorem aIa[YL]{len:Hd->Nat}:∀{ms vs:List XV} {l:List DS},XV.mtL ms vs=some l->slP.slPL (fun h n=>n=len h) vs->∀rest,∃vs',XV.filL len ms (l++rest)=(vs',rest)/\XV.erL vs'=XV.erL vs/\XV.fcL vs'=XV.fcL vs
 |[],[],l,h,hp=>by
  cases h;exact fun rest=>⟨[],rfl,rfl,rfl⟩
 |m::ms,v::vs,l,h,hp=>by
  unfold XV.mtL at h;split at h
  ·rename_i a c h1 h2;cases h;have f1:=aZy h1 hp.1;have f2:=aIa h2 hp.2;intro rest;obtain⟨v',e1,e2,e3⟩:=f1 (c++rest);obtain⟨vs',e4,e5,e6⟩:=f2 rest;refine⟨v'::vs',?_,?_,?_⟩
   ·unfold XV.filL;rw[a9,e1];simp only;rw[e4]
   ·show v'.er::XV.erL vs'=v.er::XV.erL vs;rw[e2,e5]
   ·show v'.fc++XV.fcL vs'=v.fc++XV.fcL vs;rw[e3,e6]
  ·cases h
 |[],_::_,l,h,hp=>by cases h
 |_::_,[],l,h,hp=>by cases h
end
mutual
theorem aT7[YL]:∀{m v:XV} {l:List DS},m.mt v=some l->l.length=m.tys.length
 |.d t x,v,l,h=>by
  unfold XV.mt at h;split at h
  ·cases h;rfl
  ·cases h
 |.agg cs,v,l,h=>by
  unfold XV.mt at h;split at h
  ·exact zR (ms:=cs) h
  ·cases h
 |.clo f cs,v,l,h=>by
  unfold XV.mt at h;split at h
  ·split at h
   ·exact zR (ms:=cs) h
   ·cases h
  ·cases h
 |.fln t,v,l,h=>by
  unfold XV.mt at h;split at h
  ·cases h;rfl
  ·cases h
 |.sl hd t o n,v,l,h=>by
  unfold XV.mt at h;split at h
  ·split at h
   ·cases h;rfl
   ·cases h
  ·cases h
 |.slw hd t n,v,l,h=>by unfold XV.mt at h;split at h<;>first|(obtain⟨_,rfl⟩:=iG h;rfl)|cases h
 |.ptr hd o,v,l,h=>by unfold XV.mt at h;split at h<;>first|(obtain⟨_,rfl⟩:=iG h;rfl)|cases h
 |.rpt hd o,v,l,h=>by unfold XV.mt at h;split at h<;>first|(obtain⟨_,rfl⟩:=iG h;rfl)|cases h
 |.apt hd o,v,l,h=>by unfold XV.mt at h;split at h<;>first|(obtain⟨_,rfl⟩:=iG h;rfl)|cases h
 |.mref hd,v,l,h=>by unfold XV.mt at h;split at h<;>first|(obtain⟨_,rfl⟩:=iG h;rfl)|cases h
 |.itr a c,v,l,h=>by unfold XV.mt at h;split at h<;>first|(obtain⟨_,rfl⟩:=iG h;rfl)|cases h
 |.c x,v,l,h=>by unfold XV.mt at h;split at h<;>first|(obtain⟨_,rfl⟩:=iG h;rfl)|cases h
 |.nl t,v,l,h=>by unfold XV.mt at h;split at h<;>first|(cases h;rfl;done)|(cases h;done)
 |.un,v,l,h=>by unfold XV.mt at h;split at h<;>first|(cases h;rfl;done)|(cases h;done)
 |.sc,v,l,h=>by unfold XV.mt at h;split at h<;>first|(cases h;rfl;done)|(cases h;done)
 |.yld,v,l,h=>by unfold XV.mt at h;split at h<;>first|(cases h;rfl;done)|(cases h;done)
 |.gst _,v,l,h=>by unfold XV.mt at h;split at h<;>first|(obtain⟨_,rfl⟩:=iG h;rfl)|cases h
 |.any,v,l,h=>by cases h
 |.ab,v,l,h=>by cases h
 |.ept _ _ _ _,v,l,h=>by cases h
 |.pa _ _ _,v,l,h=>by cases h
 |.epa _ _ _ _ _,v,l,h=>by cases h
 |.rop _ _ _,v,l,h=>by cases h
 |.fl _ _,v,l,h=>by cases h
 |.asl _ _ _,v,l,h=>by cases h
 |.rpa _ _ _,v,l,h=>by cases h
 |.rsl _ _ _ _,v,l,h=>by cases h
 |.tup _,v,l,h=>by cases h
theorem zR[YL]:∀{ms vs:List XV} {l:List DS},XV.mtL ms vs=some l->l.length=(XV.tysL ms).length
 |[],[],l,h=>by cases h;rfl
 |m::ms,v::vs,l,h=>by
  unfold XV.mtL at h;split at h
  ·rename_i a c h1 h2;cases h;show _=(m.tys++XV.tysL ms).length;rw[κ,κ,aT7 h1,zR h2]
  ·cases h
 |[],_::_,l,h=>by cases h
 |_::_,[],l,h=>by cases h
end
def bC6(s:XS)(φ:Hd->Option Hd)(b:XB)(K:XB->Option R):Option R:=match b with
 |.box cs=>aQ8 s φ cs fun l=>K (.box l)
 |.mp wr K0 V es hole (some (h,q))=>match φ h with
  |some h'=>K (.mp wr K0 V es hole (some (h',q)))
  |none=>none
 |b=>K b
def bAv(P:Hd->Nat->Prop):XB->Prop
 |.box cs=>slP.slPL P cs
 |_=>True
theorem aYq[YL]{s:XS}{b:XB}{K:XB->Option R}{r:R}(q:bC6 s φ b K=some r):∃b',K b'=some r/\Blk.conv s.er.lk φ b.er=b'.er/\bAv (wH s φ) b'/\b'.rlen=b.rlen:=by
 unfold bC6 at q;split at q
 ·obtain⟨l,q,_,e2,e3⟩:=zT q;exact⟨_,q,congrArg Blk.box e2,e3,rfl⟩
 ·rename_i wr K0 V es hole h cur;split at q
  ·rename_i h' e;refine⟨_,q,?_,trivial,rfl⟩;show Blk.conv _ _ (.mp _ _ (itX K0 (some (h,cur))))=.mp _ _ (itX K0 (some (h',cur)));obtain⟨c,rem⟩:=cur;have e0:aLi wr K0 V es hole (some (h',c,rem))=aLi wr K0 V es hole (some (h,c,rem)):=by cases wr<;>rfl
   show Blk.mp _ (aLi wr K0 V es hole (some (h,c,rem))) ((some (h,_,_):Option (Hd×List AV×List AV)).bind _)=Blk.mp _ (aLi wr K0 V es hole (some (h',c,rem))) _;rw[e0];simp only[Option.bind_some,e,Option.map_some];rfl
  ·cases q
 ·rename_i h1 h2;refine⟨_,q,?_,?_,rfl⟩
  ·cases b with
   |box cs=>exact absurd rfl (h1 cs)
   |row=>rfl
   |rb=>rfl
   |arr=>rfl
   |mp wr K0 V es hole i=>cases i with
    |none=>rfl
    |some p=>exact absurd rfl (h2 wr K0 V es hole p.1 p.2)
   |it=>rfl
   |sb=>rfl
  ·cases b with
   |box cs=>exact absurd rfl (h1 cs)
   |_=>trivial
def aL2(s:XS)(φ:Hd->Option Hd):List (Option XB)->(List (Option XB)->Option R)->Option R
 |[],K=>K []
 |none::r,K=>aL2 s φ r fun l=>K (none::l)
 |some b::r,K=>bC6 s φ b fun b'=>aL2 s φ r fun l=>K (some b'::l)
def slPBs(P:Hd->Nat->Prop):List (Option XB)->Prop
 |[]=>True
 |none::r=>slPBs P r
 |some b::r=>bAv P b/\slPBs P r
def sC:List (Option XB)->List Nat
 |[]=>[]
 |none::r=>0::sC r
 |some b::r=>b.rlen::sC r
theorem vA:∀(l:List (Option XB)) (i:Nat) (b:XB),bB l i=some b->aGm (sC l) i=b.rlen
 |[],_,_,h=>by cases h
 |none::r,0,_,h=>by cases h
 |some c::r,0,b,h=>by cases h;rfl
 |none::r,i+1,b,h=>vA r i b h
 |some c::r,i+1,b,h=>vA r i b h
def erB[YL](l:List (Option XB)):List (Option Blk):=l.map fun b=>b.map XB.er
theorem xX[YL]{s:XS}{φ:Hd->Option Hd}{r:R}:∀{l:List (Option XB)} {K:List (Option XB)->Option R},aL2 s φ l K=some r->∃l',K l'=some r/\(erB l).map (fun b=>b.map (Blk.conv s.er.lk φ))=erB l'/\slPBs (wH s φ) l'/\sC l'=sC l
 |[],K,q=>⟨[],q,rfl,trivial,rfl⟩
 |none::l,K,q=>by
  obtain⟨l',q,e1,e2,e3⟩:=xX (l:=l) q;exact⟨_,q,by show none::(erB l).map _=none::erB l';rw[e1],e2,by show 0::sC l'=0::sC l;rw[e3]⟩
 |some b::l,K,q=>by obtain⟨b',q,f1,f2,f3⟩:=aYq (b:=b) q;obtain⟨l',q,e1,e2,e3⟩:=xX (l:=l) q;exact⟨_,q,by show some (Blk.conv _ _ b.er)::(erB l).map _=some b'.er::erB l';rw[e1,f1],⟨f2,e2⟩,by show b'.rlen::sC l'=b.rlen::sC l;rw[e3,f3]⟩
def XB.mt(m b:XB):Option (List DS):=match m,b with
 |.box ms,.box cs=>XV.mtL ms cs
 |.row mt t _,.row mt' t' xs=>match mt==mt',t'.beq t with
  |true,true=>some [⟨.sl t',xs⟩]
  |_,_=>none
 |.arr mt n k _,.arr mt' n' k' x=>match mt==mt',(Ty.ar n' k').beq (.ar n k)with
  |true,true=>some [⟨.ar n' k',x⟩]
  |_,_=>none
 |.mp wr K V _ none none,.mp wr' K' V' es none none=>match wr==wr',(Ty.p K' V').beq (.p K V)with
  |true,true=>some [⟨.sl (.p K' V'),es⟩]
  |_,_=>none
 |.mp wr K V _ none (some (h,_)),.mp wr' K' V' es none (some (h',none,rem))=>match h.eqb h'&&(wr==wr'),(Ty.p K' V').beq (.p K V)with
  |true,true=>some [⟨.sl (.p K' V'),es⟩,⟨.sl K',rem⟩]
  |_,_=>none
 |.rb mt t _,.rb mt' t' x=>match mt==mt',t'.beq t with
  |true,true=>some [⟨t',x⟩]
  |_,_=>none
 |.it,.it=>some []
 |.sb (T,e) _ _,.sb (T',e') us' xs=>match χ T T',χ e e' with
  |true,true=>some [⟨.b,us'⟩,⟨.sl (.i .u8),xs⟩]
  |_,_=>none
 |_,_=>none
theorem bBy[YL]{m b:XB}{l:List DS}(h:m.mt b=some l)(hp:bAv (fun h n=>n=len h) b):l.length=m.tys.length/\∀rest,∃b',m.fil len (l++rest)=(b',rest)/\b'.er=b.er:=by
 unfold XB.mt at h;split at h
 ·rename_i ms cs;refine⟨zR h,fun rest=>?_⟩;obtain⟨vs',e1,_,e3⟩:=aIa h hp rest;exact⟨.box vs',by show(XB.box (XV.filL len ms (l++rest)).1,(XV.filL len ms (l++rest)).2)=_;rw[e1],congrArg Blk.box e3⟩
 ·split at h
  ·rename_i h1 _;cases h;exact⟨rfl,fun rest=>⟨_,rfl,by rw[eq_of_beq h1];rfl⟩⟩
  ·cases h
 ·split at h
  ·rename_i h1 _;cases h;exact⟨rfl,fun rest=>⟨_,rfl,by rw[eq_of_beq h1];rfl⟩⟩
  ·cases h
 ·split at h
  ·rename_i h1 _;cases h;obtain rfl:=eq_of_beq h1;exact⟨rfl,fun rest=>⟨_,rfl,rfl⟩⟩
  ·cases h
 ·split at h
  ·rename_i h1 _;cases h;rw[μ]at h1;obtain rfl:=Hd.eqb_iff.1 h1.1;obtain rfl:=eq_of_beq h1.2;refine⟨rfl,fun rest=>⟨_,rfl,?_⟩⟩;show(aSf _ (XB.mp _ _ _ _ none none) ⟨.sl _,_⟩).er=_;unfold aSf;simp only[bBn,Ty.cst_self]
  ·cases h
 ·split at h
  ·rename_i h1 _;cases h;exact⟨rfl,fun rest=>⟨_,rfl,by rw[eq_of_beq h1]⟩⟩
  ·cases h
 ·cases h;exact⟨rfl,fun rest=>⟨_,rfl,rfl⟩⟩
 ·split at h
  ·rename_i h1 h2;cases h;obtain rfl:=η h1;obtain rfl:=η h2;refine⟨rfl,fun rest=>⟨_,rfl,?_⟩⟩;show(bBc _ ⟨.b,_⟩ ⟨.sl (.i .u8),_⟩).er=_;unfold bBc;simp only[Ty.cst_self]
  ·cases h
 ·cases h
def aFz:List (Option XB)->List (Option XB)->Option (List DS)
 |[],[]=>some []
 |none::ms,none::bs=>aFz ms bs
 |some m::ms,some b::bs=>match m.mt b,aFz ms bs with
  |some a,some c=>some (a++c)
  |_,_=>none
 |_,_=>none
theorem aCr[YL]{len:Hd->Nat}:∀{ms bs:List (Option XB)} {l:List DS},aFz ms bs=some l->slPBs (fun h n=>n=len h) bs->l.length=(aBr ms).length/\∀rest,∃bs',mK len ms (l++rest)=(bs',rest)/\erB bs'=erB bs
 |[],[],l,h,hp=>by
  cases h;exact⟨rfl,fun rest=>⟨[],rfl,rfl⟩⟩
 |none::ms,none::bs,l,h,hp=>by
  have h:aFz ms bs=some l:=h;obtain⟨h1,h2⟩:=aCr h hp;refine⟨h1,fun rest=>?_⟩;obtain⟨bs',e1,e2⟩:=h2 rest;exact⟨none::bs',by unfold mK;rw[e1],by show none::erB bs'=none::erB bs;rw[e2]⟩
 |some m::ms,some b::bs,l,h,hp=>by
  unfold aFz at h;split at h
  ·rename_i a c h1 h2;cases h;obtain⟨f1,f2⟩:=bBy h1 hp.1;obtain⟨g1,g2⟩:=aCr h2 hp.2;refine⟨by show _=(m.tys++aBr ms).length;rw[κ,κ,f1,g1],fun rest=>?_⟩;obtain⟨b',e1,e2⟩:=f2 (c++rest);obtain⟨bs',e3,e4⟩:=g2 rest;refine⟨some b'::bs',?_,by show some b'.er::erB bs'=some b.er::erB bs;rw[e2,e4]⟩;unfold mK;rw[a9,e1];simp only;rw[e3]
  ·cases h
 |[],none::_,l,h,hp=>by cases h
 |[],some _::_,l,h,hp=>by cases h
 |none::_,[],l,h,hp=>by cases h
 |some _::_,[],l,h,hp=>by cases h
 |none::_,some _::_,l,h,hp=>by cases h
 |some _::_,none::_,l,h,hp=>by cases h
theorem aSc{m b:XB}{l:List DS}(h:m.mt b=some l):(∃mt t xs p,m=.row mt t xs/\l=[p]/\DS.rlen p=b.rlen)\/((∀mt t xs,m≠.row mt t xs)/\b.rlen=0):=by
 unfold XB.mt at h;split at h
 ·exact .inr ⟨fun _ _ _ e=>(by cases e),rfl⟩
 ·split at h
  ·cases h;exact .inl ⟨_,_,_,_,rfl,rfl,rfl⟩
  ·cases h
 ·exact .inr ⟨fun _ _ _ e=>(by cases e),rfl⟩
 ·exact .inr ⟨fun _ _ _ e=>(by cases e),rfl⟩
 ·exact .inr ⟨fun _ _ _ e=>(by cases e),rfl⟩
 ·exact .inr ⟨fun _ _ _ e=>(by cases e),rfl⟩
 ·exact .inr ⟨fun _ _ _ e=>(by cases e),rfl⟩
 ·exact .inr ⟨fun _ _ _ e=>(by cases e),rfl⟩
 ·cases h
theorem aYh[YL]{m b:XB}{l:List DS}(h:m.mt b=some l):l.length=m.tys.length:=by
 unfold XB.mt at h;split at h
 ·exact zR h
 all_goals first|(cases h;rfl;done)|(split at h<;>first|(cases h;rfl;done)|(cases h;done))|(cases h;done)
theorem vP[YL]:∀{ms bs:List (Option XB)} {l:List DS},aFz ms bs=some l->∀rest,lS ms (l++rest)=sC bs
 |[],[],l,h,rest=>rfl
 |none::ms,none::bs,l,h,rest=>by
  have h:aFz ms bs=some l:=h;show 0::lS ms (l++rest)=0::sC bs;rw[vP h]
 |some m::ms,some b::bs,l,h,rest=>by
  unfold aFz at h;split at h
  ·rename_i a c h1 h2;cases h;have e1:=aSc h1;have e2:=aYh h1;have e3:=vP h2 rest;show lS (some m::ms) _=b.rlen::sC bs;rcases e1 with⟨mt,t,xs,p,rfl,rfl,hp⟩|⟨hn,e1⟩
   ·show DS.rlen p::lS ms (c++rest)=_;rw[hp,e3]
   ·have:lS (some m::ms) (a++c++rest)=0::lS ms ((a++c++rest).drop m.tys.length):=by
     cases m with
     |row mt t xs=>exact absurd rfl (hn mt t xs)
     |_=>rfl
    rw[this,e1,a9,<-e2,jy,e3]
  ·cases h
 |[],none::_,l,h,_=>by cases h
 |[],some _::_,l,h,_=>by cases h
 |none::_,[],l,h,_=>by cases h
 |some _::_,[],l,h,_=>by cases h
 |none::_,some _::_,l,h,_=>by cases h
 |some _::_,none::_,l,h,_=>by cases h
def bBk(s:XS)(φ:Hd->Option Hd)(ev:Nat->XV):List (Nat×XV)->(List XV->Option R)->Option R
 |[],K=>K []
 |(n,_)::r,K=>xcv s φ (ev n) fun v=>bBk s φ ev r fun l=>K (v::l)
theorem aOp[YL]{s:XS}{φ:Hd->Option Hd}{ev:Nat->XV}{r:R}:∀{l:List (Nat×XV)} {K:List XV->Option R},bBk s φ ev l K=some r->∃vs,K vs=some r/\l.map (fun p=>AV.conv s.er.lk φ (ev p.1).er)=vs.map XV.er/\slP.slPL (wH s φ) vs
 |[],K,q=>⟨[],q,rfl,trivial⟩
 |(n,m)::l,K,q=>by obtain⟨v,q,f1,_,f3⟩:=aMe (v:=ev n) q;obtain⟨vs,q,e1,e2⟩:=aOp (l:=l) q;exact⟨_,q,by show AV.conv _ _ (ev n).er::l.map _=v.er::vs.map XV.er;rw[f1,e1],f3,e2⟩
def mtE:List (Nat×XV)->List XV->Option (List DS)
 |[],[]=>some []
 |(_,m)::ms,v::vs=>match m.mt v,mtE ms vs with
  |some a,some c=>some (a++c)
  |_,_=>none
 |_,_=>none
theorem aNy[YL]{len:Hd->Nat}:∀{ms:List (Nat×XV)} {vs:List XV} {l:List DS},mtE ms vs=some l->slP.slPL (fun h n=>n=len h) vs->l.length=(aMn ms).length/\∀rest,∃e,wW len ms (l++rest)=(e,rest)/\e.map (·.1)=ms.map (·.1)/\e.map (fun p=>p.2.er)=vs.map XV.er
 |[],[],l,h,hp=>by
  cases h;exact⟨rfl,fun rest=>⟨[],rfl,rfl,rfl⟩⟩
 |(n,m)::ms,v::vs,l,h,hp=>by
  unfold mtE at h;split at h
  ·rename_i a c h1 h2;cases h;have f1:=aZy h1 hp.1;obtain⟨g1,g2⟩:=aNy h2 hp.2;refine⟨by show _=(m.tys++aMn ms).length;rw[κ,κ,aT7 h1,g1],fun rest=>?_⟩;obtain⟨v',e1,e2,_⟩:=f1 (c++rest);obtain⟨e,e3,e4,e5⟩:=g2 rest;refine⟨(n,v')::e,?_,by show n::e.map _=n::ms.map _;rw[e4],by show v'.er::e.map _=v.er::vs.map XV.er;rw[e2,e5]⟩;unfold wW;rw[a9,e1];simp only;rw[e3]
  ·cases h
 |[],_::_,l,h,hp=>by cases h
 |_::_,[],l,h,hp=>by cases h
mutual
theorem slP.mono[YL]{P Q:Hd->Nat->Prop}(h:∀a n,P a n->Q a n):∀{v:XV},slP P v->slP Q v
 |.slw _ _ _,hp=>h _ _ hp
 |.agg cs,hp=>slPL.mono h (vs:=cs) hp
 |.tup cs,hp=>slPL.mono h (vs:=cs) hp
 |.clo _ cs,hp=>slPL.mono h (vs:=cs) hp
 |.d _ _,_=>trivial
 |.any,_=>trivial
 |.un,_=>trivial
 |.ab,_=>trivial
 |.ptr _ _,_=>trivial
 |.ept _ _ _ _,_=>trivial
 |.apt _ _,_=>trivial
 |.pa _ _ _,_=>trivial
 |.epa _ _ _ _ _,_=>trivial
 |.rop _ _ _,_=>trivial
 |.fl _ _,_=>trivial
 |.fln _,_=>trivial
 |.nl _,_=>trivial
 |.sl _ _ _ _,_=>trivial
 |.asl _ _ _,_=>trivial
 |.rpt _ _,_=>trivial
 |.rpa _ _ _,_=>trivial
 |.rsl _ _ _ _,_=>trivial
 |.mref _,_=>trivial
 |.itr _ _,_=>trivial
 |.sc,_=>trivial
 |.c _,_=>trivial
 |.yld,_=>trivial
 |.gst _,_=>trivial
theorem slPL.mono[YL]{P Q:Hd->Nat->Prop}(h:∀a n,P a n->Q a n):∀{vs:List XV},slP.slPL P vs->slP.slPL Q vs
 |[],_=>trivial
 |_::_,hp=>⟨slP.mono h hp.1,slPL.mono h hp.2⟩
end
theorem slPBs.mono[YL]{P Q:Hd->Nat->Prop}(h:∀a n,P a n->Q a n):∀{l:List (Option XB)},slPBs P l->slPBs Q l
 |[],_=>trivial
 |none::l,hp=>slPBs.mono h (l:=l) hp
 |some (.box cs)::l,hp=>⟨slPL.mono h hp.1,slPBs.mono h (l:=l) hp.2⟩
 |some (.row _ _ _)::l,hp=>⟨trivial,slPBs.mono h (l:=l) hp.2⟩
 |some (.rb _ _ _)::l,hp=>⟨trivial,slPBs.mono h (l:=l) hp.2⟩
 |some (.arr _ _ _ _)::l,hp=>⟨trivial,slPBs.mono h (l:=l) hp.2⟩
 |some (.mp _ _ _ _ _ _)::l,hp=>⟨trivial,slPBs.mono h (l:=l) hp.2⟩
 |some .it::l,hp=>⟨trivial,slPBs.mono h (l:=l) hp.2⟩
 |some (.sb _ _ _)::l,hp=>⟨trivial,slPBs.mono h (l:=l) hp.2⟩
def rdK(s:XS)(φ:Hd->Option Hd)(m:XS)(ev:Nat->XV)(bl ol:List (Option XB))(K:tup m.tys->Option R):Option R:=
 bBk s φ ev m.env fun vs=>aL2 s φ bl fun bs=>aL2 s φ ol fun os=>match mtE m.env vs,aFz m.bs bs,aFz m.own os with
  |some l1,some l2,some l3=>match aB4 m.tys (l1++(l2++l3))with
   |some v=>K v
   |none=>none
  |_,_,_=>none
theorem aR1[YL]{s:XS}{m:XS}{ev:Nat->XV}{bl ol:List (Option XB)}{K:tup m.tys->Option R}{r:R}(hφ:∀h h' b,φ h=some h'->s.lk h=some b->match h' with|.B i=>bB bl i=some b|.O i=>bB ol i=some b)
  (q:rdK s φ m ev bl ol K=some r):∃v,K v=some r/\(m.fill v).env.map (fun p=>(p.1,p.2.er))=m.env.map (fun p=>(p.1,AV.conv s.er.lk φ (ev p.1).er))/\
   erB (m.fill v).bs=(erB bl).map (fun b=>b.map (Blk.conv s.er.lk φ))/\erB (m.fill v).own=(erB ol).map (fun b=>b.map (Blk.conv s.er.lk φ)):=by
 unfold rdK at q;obtain⟨vs,q,a1,a2⟩:=aOp q;obtain⟨bs,q,b1,b2,b3⟩:=xX q;obtain⟨os,q,c1,c2,c3⟩:=xX q;split at q
 ·rename_i l1 l2 l3 h1 h2 h3;split at q
  ·rename_i v hv;refine⟨v,q,?_⟩;have hL:=aDy hv;have hlen:∀h n,wH s φ h n->n=bCr (lS m.bs (l2++l3)) (lS m.own (l3++[])) h:=fun h' n ⟨h,mt,t,xs,e1,e2,e3⟩=>by
    have:=hφ h h' _ e1 e2;cases h' with
    |B i=>
     show n=aGm (lS m.bs (l2++l3)) i;rw[vP h2,b3,vA _ _ _ this];exact e3
    |O i=>
     show n=aGm (lS m.own (l3++[])) i;rw[vP h3,c3,vA _ _ _ this];exact e3
   obtain⟨x1,x2⟩:=aNy h1 (slPL.mono hlen a2);obtain⟨y1,y2⟩:=aCr h2 (slPBs.mono hlen b2);obtain⟨z1,z2⟩:=aCr h3 (slPBs.mono hlen c2);obtain⟨e,x3,x4,x5⟩:=x2 (l2++l3);obtain⟨bs',y3,y4⟩:=y2 l3;obtain⟨os',z3,z4⟩:=z2 [];have hf:m.fill v={env:=e,bs:=bs',own:=os'}:=by show m.fil (sgs m.tys v)=_;rw[hL];unfold XS.fil;simp only;rw[<-x1,jy,<-y1,jy];rw[bj]at x3 y3 z3;rw[x3];simp only;rw[y3];simp only;rw[z3]
   rw[hf];refine⟨?_,by show erB bs'=_;rw[y4,b1],by show erB os'=_;rw[z4,c1]⟩;show e.map _=_;have e1:e.map (fun p=>(p.1,p.2.er))=(e.map (·.1)).zip (e.map fun p=>p.2.er):=by rw[List.zip_map',]
   have e2:m.env.map (fun p=>(p.1,AV.conv s.er.lk φ (ev p.1).er))=(m.env.map (·.1)).zip (m.env.map fun p=>AV.conv s.er.lk φ (ev p.1).er):=by rw[List.zip_map']
   rw[e1,e2,x4,x5,a1]
  ·cases q
 ·cases q
end
section
variable{R:Type}
theorem Wk.mpIt(s:AState)(h:Hd){kd:KD}{es:List (AV×MV)}{i i':Option (Hd×List AV×List AV)}(hl:s.lk h=some (.mp kd es i))(hi:i'=none\/∃x cur rem,i=some (x,cur,rem)/\i'=some (x,[],rem)):Wk s (s.setBlk h (some (.mp kd es i'))):=fun E a w ⟨G,m,hA⟩=>by
 have hlk:∀x,(s.setBlk h (some (.mp kd es i'))).lk x=if x=h then some (.mp kd es i')else s.lk x:=fun x=>bH _ _ _ _
 have henv:(s.setBlk h (some (.mp kd es i'))).env=s.env:=eC _ _ _;refine⟨G,m,⟨fun x b sz hx=>?_,fun x hx=>?_,hA.sim.injG,hA.sim.gh,fun x hx=>?_,hA.sim.gl,fun x b sz fp hx=>?_⟩,fun u=>by rw[henv];exact hA.env u,hA.size,hA.defers,by rw[henv];exact hA.jok,fun j hj=>hA.fresh j (by rw[bY]at hj;exact hj),hA.frame,hA.base,hA.own,trivial,fun j hj=>jB hA.nxOk ⟨_,hl⟩ j (by rw[bY]at hj;exact hj)⟩
 ·obtain⟨bl,h1,h2⟩:=hA.sim.blk x b sz hx;rw[hlk];by_cases e:x=h
  ·subst e;rw[hl]at h1;cases h1;exact h2.elim
  ·rw[if_neg e];exact⟨bl,h1,h2⟩
 ·obtain⟨mt,k,h1⟩:=hA.sim.nil x hx;rw[hlk];by_cases e:x=h
  ·subst e;rw[hl]at h1;cases h1
  ·rw[if_neg e];exact⟨mt,k,h1⟩
 ·have h1:=hA.sim.dead x hx;rw[hlk];by_cases e:x=h
  ·subst e;rw[hl]at h1;cases h1
  ·rw[if_neg e];exact h1
 ·obtain⟨bl,h1,h2⟩:=hA.sim.blkx x b sz fp hx;rw[hlk];by_cases e:x=h
  ·subst e;rw[hl]at h1;cases h1;rw[if_pos rfl];obtain⟨q1,q2,arr,clk,q3,q4,q5,q6,q7⟩:=h2;refine⟨_,rfl,q1,q2,arr,clk,q3,q4,q5,q6,fun y q hq=>?_⟩;rcases hi with rfl|⟨x',cur,rem,rfl,rfl⟩
   ·cases hq
   ·cases hq;obtain⟨loc,p1,p2⟩:=q7 _ _ rfl;refine⟨loc,p1,fun hd=>?_⟩;obtain⟨bi,sz',fp',seen,l,p3,p4,p5,p6,_⟩:=p2 hd;exact⟨bi,sz',fp',seen,l,p3,p4,p5,p6,fun key e=>by cases e⟩
  ·rw[if_neg e];exact⟨bl,h1,h2⟩
def bCx(keep:Bool)(s:XS)(h:Hd):XS:=match s.lk h with
 |some (.mp false K V es hole (some (x,cur,rem)))=>match keep with
  |true=>match cur with
   |some _=>s.setBlk h (some (.mp false K V es hole (some (x,none,rem))))
   |none=>s
  |false=>s.setBlk h (some (.mp false K V es hole none))
 |_=>s
theorem aY1[YL](keep:Bool)(s:XS)(h:Hd):Wk s.er (bCx keep s h).er:=by
 unfold bCx;split
 ·rename_i K V es hole x cur rem hl;have hl':s.er.lk h=some (.mp K.kd (aBi false K V es hole) (itX K (some (x,cur,rem)))):=by rw[aP,hl];rfl
  split
  ·split
   ·rw[bX hl];exact Wk.mpIt _ _ hl' (.inr ⟨_,_,_,rfl,rfl⟩)
   ·exact Wk.refl _
  ·rw[bX hl];exact Wk.mpIt _ _ hl' (.inl rfl)
 ·exact Wk.refl _
def aOc(s:XS)(h:Hd)(pre:List XV)(t:Ty)(cs:List XV):XS:=(s.put none .un [.row true t []] []).setBlk h (some (.box (pre++.slw (.O s.own.length) t 0::cs)))
theorem aMs{s:XS}{b:XB}(hl:s.lk h=some b)(nbs:List XB):(s.put none .un nbs []).lk h=some b:=by
 cases h with
 |B i=>exact hl
 |O i=>
  show bB (s.own++nbs.map some) i=_;rw[aDa,if_pos (pC (l:=s.own) hl)];exact hl
theorem aQp{s:XS}{b0:XB}(hl:s.lk h=some b0)(b:Option XB):(s.setBlk h b).lk h=b:=by
 cases h with
 |B i=>
  show bB (tY s.bs i b) i=b;rw[nI _ _ _ _ (pC (l:=s.bs) hl),if_pos rfl]
 |O i=>
  show bB (tY s.own i b) i=b;rw[nI _ _ _ _ (pC (l:=s.own) hl),if_pos rfl]
theorem aR6[YL]{s:XS}{pre:List XV}{t0:Ty}(hl:s.lk h=some (.box (pre++.fln t0::cs))):Wk s.er (aOc s h pre t cs).er/\(aOc s h pre t cs).lk h=some (.box (pre++.slw (.O s.own.length) t 0::cs)):=by
 have hl1:=aMs hl [.row true t []];refine⟨?_,aQp hl1 _⟩;have hl':s.er.lk h=some (.box (XV.fcL (pre++.fln t0::cs))):=by rw[aP,hl];rfl
 have:=AState.ownB_ok s.er h _ (XV.fcL pre).length t.n hl' (by rw[lE,cg (π _),jb];rfl);unfold aOc;rw[bX hl1,cU];have e:(some (XB.box (pre++XV.slw (.O s.own.length) t 0::cs))).map XB.er=some (.box ((XV.fcL (pre++.fln t0::cs)).set (XV.fcL pre).length (.sl (.O s.er.nx) t.n 0 0))):=by show some (Blk.box (XV.fcL _))=_;rw[lE,lE,List.set_append_right _ _ (π _),jb];rfl
 rw[e];exact this
def nzC(h:Hd):List XV->List XV->List XV->XS->XS
 |pre,.slw _ t _::ms,.fln _::cs,s=>nzC h (pre++[.slw (.O s.own.length) t 0]) ms cs (aOc s h pre t cs)
 |pre,_::ms,v::cs,s=>nzC h (pre++[v]) ms cs s
 |_,_,_,s=>s
theorem bCq[YL]:∀{ms pre cs:List XV} {s:XS},s.lk h=some (.box (pre++cs))->Wk s.er (nzC h pre ms cs s).er:=fun{ms}=>by
 induction ms with
 |nil=>intro pre cs s hl;unfold nzC;exact Wk.refl _
 |cons m ms ih=>
  intro pre cs s hl;unfold nzC;split
  ·cases‹m::ms=_›;obtain⟨h1,h2⟩:=aR6 (t:=_) hl;exact h1.trans (ih (by rw[a9];exact h2))
  ·cases‹m::ms=_›;exact ih (by rw[a9];exact hl)
  ·exact Wk.refl _
theorem Wk.trunc(s:AState)(h:Hd){k:Nat}{es:List (List DV)}(n:Nat)(hl:s.lk h=some (.row true k es)):Wk s (s.setBlk h (some (.row true k (es.take n)))):=fun E a w ⟨G,m,hA⟩=>by
 have hlk:∀x,(s.setBlk h (some (.row true k (es.take n)))).lk x=if x=h then some (.row true k (es.take n))else s.lk x:=fun x=>bH _ _ _ _
 have henv:(s.setBlk h (some (.row true k (es.take n)))).env=s.env:=eC _ _ _;refine⟨G,m,⟨fun x b sz hx=>?_,fun x hx=>?_,hA.sim.injG,hA.sim.gh,fun x hx=>?_,hA.sim.gl,fun x b sz fp hx=>?_⟩,fun u=>by rw[henv];exact hA.env u,hA.size,hA.defers,by rw[henv];exact hA.jok,fun j hj=>hA.fresh j (by rw[bY]at hj;exact hj),hA.frame,hA.base,hA.own,trivial,fun j hj=>jB hA.nxOk ⟨_,hl⟩ j (by rw[bY]at hj;exact hj)⟩
 ·obtain⟨bl,h1,h2⟩:=hA.sim.blk x b sz hx;rw[hlk];by_cases e:x=h
  ·subst e;rw[hl]at h1;cases h1;rw[if_pos rfl];obtain⟨vs,T,q1,q2,q3,q4,q5⟩:=h2;exact⟨_,rfl,vs,T,q1,q2,Nat.le_trans (Nat.mul_le_mul_right k (by rw[List.length_take];exact Nat.min_le_right _ _)) q3,DV.rows_take n q4,q5⟩
  ·rw[if_neg e];exact⟨bl,h1,h2⟩
 ·obtain⟨mt,k',h1⟩:=hA.sim.nil x hx;rw[hlk];by_cases e:x=h
  ·subst e;rw[hl]at h1;cases h1;rw[if_pos rfl];exact⟨true,k,by rw[List.take_nil]⟩
  ·rw[if_neg e];exact⟨mt,k',h1⟩
 ·have h1:=hA.sim.dead x hx;rw[hlk];by_cases e:x=h
  ·subst e;rw[hl]at h1;cases h1
  ·rw[if_neg e];exact h1
 ·obtain⟨bl,h1,h2⟩:=hA.sim.blkx x b sz fp hx;rw[hlk];by_cases e:x=h
  ·subst e;rw[hl]at h1;cases h1;exact h2.elim
  ·rw[if_neg e];exact⟨bl,h1,h2⟩
def aHe(s:XS)(n:Nat)(h:Hd)(t:Ty)(len:Nat):XS:=match s.lk h with
 |some (.row true t' xs)=>match t'.beq t with
  |true=>(s.setBlk h (some (.row true t' (xs.take len)))).put (some n) (.slw h t len) [] []
  |false=>s
 |_=>s
theorem aGn[YL]{s:XS}{n:Nat}{len:Nat}(he:cN s.env n=.sl h t 0 len):Wk s.er (aHe s n h t len).er:=by
 unfold aHe;split
 ·rename_i t' xs hl;split
  ·rw[cU,bX hl];have hl':s.er.lk h=some (.row true t'.n (xs.map t'.ds)):=by rw[aP,hl];rfl
   have h1:=Wk.trunc s.er h len hl';have e1:(some (XB.row true t' (xs.take len))).map XB.er=some (.row true t'.n ((xs.map t'.ds).take len)):=by show some (Blk.row true t'.n ((xs.take len).map t'.ds))=_;rw[ce]
   rw[e1];refine h1.trans ?_;have e2:((s.er.setBlk h (some (.row true t'.n ((xs.map t'.ds).take len)))).put (some n) (XV.slw h t len).er (List.map XB.er []) [])=s.er.setBlk h (some (.row true t'.n ((xs.map t'.ds).take len))):=by
    refine AState.ext' (fun i=>?_) (fun i=>?_) (fun i=>?_) rfl
    ·show upd _ n _ i=_;unfold upd;rw[eC];by_cases hi:i=n
     ·rw[if_pos hi,hi];show _=(cN s.env n).er;rw[he];rfl
     ·rw[if_neg hi]
    ·rfl
    ·rfl
   rw[e2];exact Wk.refl _
  ·exact Wk.refl _
 ·exact Wk.refl _
def nzE:List (Nat×XV)->XS->XS
 |[],s=>s
 |(n,m)::r,s=>match m,cN s.env n with
  |.slw _ t _,.fln _=>nzE r (s.put (some n) (.slw (.O s.own.length) t 0) [.row true t []] [])
  |.slw _ _ _,.sl h t 0 len=>nzE r (aHe s n h t len)
  |_,_=>nzE r s
theorem aIb[YL]:∀(l:List (Nat×XV)) (s:XS),Wk s.er (nzE l s).er
 |[],s=>Wk.refl _
 |(n,m)::l,s=>by
  unfold nzE;split
  ·rename_i h;refine Wk.trans ?_ (aIb l _);rw[cU];exact AState.own0_ok s.er n _ (by show(cN s.env n).er=_;rw[h];rfl)
  ·rename_i h;exact(aGn h).trans (aIb l _)
  ·exact aIb l s
def bAe:List (Option Hd)->Nat->Hd->List (Option Hd)
 |[],_,_=>[]
 |none::r,0,h=>some h::r
 |some x::r,0,_=>some x::r
 |x::r,i+1,h=>x::bAe r i h
def aJq(l:List (Option Hd))(i:Option Nat)(h:Hd):List (Option Hd):=match i with
 |some i=>bAe l i h
 |none=>l
mutual
def bDk(vr:Hd->Option Nat):XV->XV->List (Option Hd)->List (Option Hd)
 |.slw h _ _,v,l=>match v with
  |.slw h' _ _=>aJq l (vr h) h'
  |_=>l
 |.ptr h _,v,l=>match v with
  |.ptr h' _=>aJq l (vr h) h'
  |_=>l
 |.rpt h _,v,l=>match v with
  |.rpt h' _=>aJq l (vr h) h'
  |_=>l
 |.apt h _,v,l=>match v with
  |.apt h' _=>aJq l (vr h) h'
  |_=>l
 |.mref h,v,l=>match v with
  |.mref h'=>aJq l (vr h) h'
  |_=>l
 |.itr a e,v,l=>match v with
  |.itr a' e'=>aJq (aJq l (vr a) a') (vr e) e'
  |_=>l
 |.agg ms,v,l=>match v with
  |.agg vs=>aU8 vr ms vs l
  |_=>l
 |.clo _ ms,v,l=>match v with
  |.clo _ vs=>aU8 vr ms vs l
  |_=>l
 |_,_,l=>l
def aU8(vr:Hd->Option Nat):List XV->List XV->List (Option Hd)->List (Option Hd)
 |m::ms,v::vs,l=>aU8 vr ms vs (bDk vr m v l)
 |_,_,l=>l
end
def aVn(vr:Hd->Option Nat)(ev:Nat->XV):List (Nat×XV)->List (Option Hd)->List (Option Hd)
 |[],l=>l
 |(n,m)::r,l=>aVn vr ev r (bDk vr m (ev n) l)
structure NZ where
 s:XS
 l:List (Option Hd)
def nzB(vr:Hd->Option Nat)(h:Option Hd)(mb:Option XB)(st:NZ):NZ:=match h,mb with
 |some h,some m=>match st.s.lk h,m with
  |some (.box cs),.box ms=>nzB1 vr h ms (nzC h [] ms cs st.s) st.l
  |some (.mp _ _ _ _ _ i),.mp _ _ _ _ _ mi=>⟨bCx mi.isSome st.s h,match mi,i with
   |some (x,_),some (y,_)=>aJq st.l (vr x) y
   |_,_=>st.l⟩
  |_,_=>st
 |_,_=>st
where nzB1 (vr:Hd->Option Nat) (h:Hd) (ms:List XV) (s:XS) (l:List (Option Hd)):NZ:=⟨s,match s.lk h with
 |some (.box cs)=>aU8 vr ms cs l
 |_=>l⟩
theorem aTo[YL](vr:Hd->Option Nat)(h:Option Hd)(mb:Option XB)(st:NZ):Wk st.s.er (nzB vr h mb st).s.er:=by
 unfold nzB;split
 ·split
  ·rename_i hl;exact bCq (pre:=[]) hl
  ·exact aY1 _ _ _
  ·exact Wk.refl _
 ·exact Wk.refl _
def aXc(vr:Hd->Option Nat):Nat->List (Option XB)->NZ->NZ
 |_,[],st=>st
 |i,m::r,st=>aXc vr (i+1) r (nzB vr (some (.B i)) m st)
def bB2:List (Option Hd)->Nat->Option Hd
 |[],_=>none
 |x::_,0=>x
 |_::r,i+1=>bB2 r i
def aW7(vr:Hd->Option Nat):Nat->List (Option XB)->NZ->NZ
 |_,[],st=>st
 |i,m::r,st=>aW7 vr (i+1) r (nzB vr (bB2 st.l i) m st)
theorem aJb[YL](vr:Hd->Option Nat):∀(l:List (Option XB)) (i:Nat) (st:NZ),Wk st.s.er (aXc vr i l st).s.er
 |[],_,_=>Wk.refl _
 |m::r,i,st=>(aTo vr _ m st).trans (aJb vr r _ _)
theorem aIf[YL](vr:Hd->Option Nat):∀(l:List (Option XB)) (i:Nat) (st:NZ),Wk st.s.er (aW7 vr i l st).s.er
 |[],_,_=>Wk.refl _
 |m::r,i,st=>(aTo vr _ m st).trans (aIf vr r _ _)
def vrO:Hd->Option Nat
 |.O i=>some i
 |.B _=>none
def vrB:Hd->Option Nat
 |.B i=>some i
 |.O _=>none
def aKc:List (Option XB)->List (Option Hd)
 |[]=>[]
 |_::r=>none::aKc r
def bFm(m:XS)(s:XS):NZ:=⟨s,aVn vrO (cN s.env) m.env (aKc m.own)⟩
def nzS(m s:XS):NZ:=aW7 vrO 0 m.own (aXc vrO 0 m.bs (bFm m (nzE m.env s)))
theorem bB9[YL](m s:XS):Wk s.er (nzS m s).s.er:=(aIb m.env s).trans ((aJb vrO m.bs 0 (bFm m (nzE m.env s))).trans (aIf vrO _ _ _))
def aZ6:List (Option Hd)->Option (List Nat)
 |[]=>some []
 |some (.O j)::r=>match aZ6 r with
  |some l=>some (j::l)
  |none=>none
 |_=>none
def aJp:List Nat->Bool
 |[]=>true
 |x::l=>(pX x l 0).isNone&&aJp l
theorem aGu:∀{l:List Nat},aJp l=true->l.Nodup
 |[],_=>List.nodup_nil
 |x::l,h=>by unfold aJp at h;rw[μ]at h;exact eq.2 ⟨xF (Option.isNone_iff_eq_none.1 h.1),aGu h.2⟩
def nU(s:XS):List Nat->List (Option XB)
 |[]=>[]
 |j::r=>bB s.own j::nU s r
theorem aAl(s:XS):∀(sl:List Nat) (i:Nat),bB (nU s sl) i=(sl[i]?).bind fun j=>bB s.own j
 |[],_=>by simp[nU,bB]
 |j::r,0=>rfl
 |j::r,i+1=>by show bB (nU s r) i=_;rw[aAl s r i];simp
def rd1(m:XS)(ev:XS->Nat->XV)(st:NZ)(K:tup m.tys->Option R):Option R:=match aZ6 st.l with
 |some sl=>match aJp sl with
  |true=>rdK st.s (phi sl) m (ev st.s) st.s.bs (nU st.s sl) K
  |false=>none
 |none=>none
def rd(m s:XS)(K:tup m.tys->Option R):Option R:=rd1 m (fun s=>cN s.env) (nzS m s) K
theorem lF[YL]:∀(l:List (Option XB)) (i:Nat),((erB l)[i]?).join=(bB l i).map XB.er
 |[],_=>by simp[erB,bB]
 |b::r,0=>rfl
 |b::r,i+1=>by have:=lF r i;simpa[erB,bB]using this
theorem aP1[YL](i:Nat):∀l:List (Nat×XV),(cN l i).er=aF0 (l.map fun p=>(p.1,p.2.er)) i
 |[]=>rfl
 |(n,v)::r=>by
  show(if χ i n=true then v else cN r i).er=if i=n then v.er else aF0 (r.map _) i
  by_cases h:i=n
  ·rw[if_pos h,if_pos (by rw[f8];exact h)]
  ·rw[if_neg h,if_neg (by rw[f8];exact h)];exact aP1 i r
theorem aTv{s:XS}:∀h h' b,phi sl h=some h'->s.lk h=some b->match h' with|.B i=>bB s.bs i=some b|.O i=>bB (nU s sl) i=some b:=fun h h' b e hl=>by
 cases h with
 |B i=>cases e;exact hl
 |O j=>
  have e:(pX j sl 0).map Hd.O=some h':=e;rw[ζ]at e;obtain⟨i,hi,rfl⟩:=e;obtain⟨_,h2⟩:=qM hi;show bB (nU s sl) i=some b;rw[aAl,show sl[i]?=some j from h2];exact hl
structure RdOk [YL] (m s1:XS) (sl:List Nat) (ev:Nat->XV) (f:XS):Prop where
 nd:sl.Nodup
 env:f.env.map (fun p=>(p.1,p.2.er))=m.env.map (fun p=>(p.1,AV.conv s1.er.lk (phi sl) (ev p.1).er))
 bs:erB f.bs=(erB s1.bs).map (fun b=>b.map (Blk.conv s1.er.lk (phi sl)))
 own:erB f.own=(erB (nU s1 sl)).map (fun b=>b.map (Blk.conv s1.er.lk (phi sl)))
theorem aV7[YL]{m:XS}{ev:XS->Nat->XV}{st:NZ}{K:tup m.tys->Option R}{r:R}(h:rd1 m ev st K=some r):∃v sl,K v=some r/\RdOk m st.s sl (ev st.s) (m.fill v):=by
 unfold rd1 at h;split at h
 ·rename_i sl _;split at h
  ·rename_i hn;obtain⟨v,h,e1,e2,e3⟩:=aR1 aTv h;exact⟨v,sl,h,aGu hn,e1,e2,e3⟩
  ·cases h
 ·cases h
theorem RdOk.wk[YL]{m s1:XS}{sl:List Nat}{f:XS}(h:RdOk m s1 sl (cN s1.env) f):Wk s1.er f.er:=by
 have hw:=AState.wk_ok s1.er (m.env.map (·.1)) h.nd;have e:s1.er.wk (m.env.map (·.1)) sl=f.er:=by
  refine AState.ext' (fun i=>?_) (fun i=>?_) (fun i=>?_) ?_
  ·show aF0 _ i=(cN f.env i).er;rw[aP1,h.env,List.map_map];rfl
  ·show((bB s1.bs i).map XB.er).map _=(bB f.bs i).map XB.er;rw[<-lF,<-lF,h.bs,τ];cases(erB s1.bs)[i]?<;>rfl
  ·show(sl[i]?).bind _=(bB f.own i).map XB.er;rw[<-lF f.own,h.own,τ];have:((erB (nU s1 sl))[i]?).join=(sl[i]?).bind fun j=>s1.er.own j:=by rw[lF,aAl];cases sl[i]?<;>rfl
   cases hq:(erB (nU s1 sl))[i]?with
   |none=>
    rw[hq]at this;cases hs:sl[i]?with
    |none=>rfl
    |some j=>
     rw[hs]at this;have this:none=s1.er.own j:=this;show(s1.er.own j).map _=_;rw[<-this];rfl
   |some b=>
    rw[hq]at this;cases hs:sl[i]?with
    |none=>
     rw[hs]at this;have this:b=none:=this;subst this;rfl
    |some j=>
     rw[hs]at this;have this:b=s1.er.own j:=this;subst this;rfl
  ·show sl.length=f.own.length;have:=congrArg List.length h.own;rw[ι]at this;have e1:(erB f.own).length=f.own.length:=ι _;have e2:(erB (nU s1 sl)).length=(nU s1 sl).length:=ι _;have e3:∀l:List Nat,(nU s1 l).length=l.length:=fun l=>by
    induction l with
    |nil=>rfl
    |cons x l ih=>exact congrArg (· +1) ih
   rw[e1,e2,e3]at this;exact this.symm
 rw[e]at hw;exact hw
theorem aJ0[YL]{m s:XS}{K:tup m.tys->Option R}{r:R}(h:rd m s K=some r):∃v,K v=some r/\Wk s.er (m.fill v).er:=by obtain⟨v,sl,h,hr⟩:=aV7 h;exact⟨v,h,(bB9 m s).trans hr.wk⟩
end
end Go.Eng
