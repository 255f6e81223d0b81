/- The package-level tables of numbers, typed. -/
import Derived.Test.YtjcdfjldcinopaaGreatDoorEC
open Bool renaming and_eq_true->ν,and_true->gq,noConfusion->ct
open List renaming all_eq_true->de,append_assoc->υ,append_nil->χ,drop_append->ji,drop_eq_nil_of_le->eg,drop_left->ky,drop_zero->cc,getElem?_append_right->bz,getElem?_eq_getElem->ε,getElem?_eq_none->db,getElem?_eq_some_iff->aw,getElem?_map->az,length_append->κ,length_drop->aq,length_map->μ,map_append->bn,map_cons->cx,map_drop->b6,map_take->br,mem_of_getElem?->bx,nil_append->cg,nodup_cons->eu,replicate->bg,take_of_length_le->bc
open Nat renaming beq->bb,beq_eq->gm,blt_eq->la,eq_of_beq_eq_true->ι,le_of_ble_eq_true->fg,le_refl->ω,sub_self->jy,zero_le->di
open Option renaming bind_eq_some_iff->η,isSome_map->ey,ite_none_right_eq_some->ζ,map_eq_some_iff->θ,map_map->kx
set_option linter.all false
namespace Go.Eng
open Go.RowKit
variable{α:Type}{n:Nat}
abbrev Str:=List UInt8
def if?{α:Type}(c:Bool)(a b:Option α):Option α:=match c with
 |true=>a
 |false=>b
def ck{α:Type}(k:IntKind)(n:Int)(a:Option α):Option α:=if k.wrap n=n then a else none
def gd?{α:Type}(p:Prop)[Decidable p](a:Option α):Option α:=if p then a else none
def aZ{α β:Type}(xs:List α)(j:Int)(f:α->Option β):Option β:=if 0<=j then match xs[j.toNat]?with
 |some x=>f x
 |none=>none else none
def bd?{α β:Type}(a:Option α)(f:α->Option β):Option β:=match a with
 |some x=>f x
 |none=>none
def ab?{α:Type}[DecidableEq α](a b:Option α):Option α:=if a=b then a else none
theorem bNw{α:Type}[DecidableEq α]{a b:Option α}{r:α}(h:ab? a b=some r):a=some r/\b=some r:=by
 unfold ab? at h;split at h
 ·rename_i e;exact⟨h,e▸h⟩
 ·cases h
theorem aNv{c:Bool}{a b:Option α}{r:α}(h:if? c a b=some r):(c=true/\a=some r)\/(c=false/\b=some r):=by
 cases c
 ·exact .inr ⟨rfl,h⟩
 ·exact .inl ⟨rfl,h⟩
theorem bN5{k:IntKind}{n:Int}{a:Option α}{r:α}(h:ck k n a=some r):k.wrap n=n/\a=some r:=by
 unfold ck at h;split at h
 ·exact⟨‹_›,h⟩
 ·cases h
theorem aX{p:Prop}[Decidable p]{a:Option α}{r:α}(h:gd? p a=some r):p/\a=some r:=by
 unfold gd? at h;split at h
 ·exact⟨‹_›,h⟩
 ·cases h
theorem aQa{β:Type}{xs:List α}{j:Int}{f:α->Option β}{r:β}(h:aZ xs j f=some r):∃x,0<=j/\xs[j.toNat]?=some x/\f x=some r:=by
 unfold aZ at h;split at h
 ·split at h
  ·exact⟨_,‹_›,‹_›,h⟩
  ·cases h
 ·cases h
theorem bJr{β:Type}{a:Option α}{f:α->Option β}{r:β}(h:bd? a f=some r):∃x,a=some x/\f x=some r:=by
 unfold bd? at h;split at h
 ·exact⟨_,rfl,h⟩
 ·cases h
theorem bNv{k:Nat}{a b:List (List DV)}:Uni k (a++b)=(Uni k a/\Uni k b):=by simp only[Uni,List.mem_append,eq_iff_iff];exact⟨fun h=>⟨fun e he=>h e (.inl he),fun e he=>h e (.inr he)⟩,fun⟨h1,h2⟩ e he=>he.elim (h1 e) (h2 e)⟩
theorem bD3{f:α->List DV}{k:Nat}(hf:∀x,(f x).length=k){xs:List α}:Uni k (xs.map f)=True:=by simp only[Uni,List.mem_map,eq_iff_iff,iff_true];rintro e ⟨x,_,rfl⟩;exact hf x
theorem bE2{f:α->List DV}(hf:∀x,(f x).all DV.one=true){xs:List α}:aEy (xs.map f)=true:=by simp only[aEy,de,List.mem_map];rintro e ⟨x,_,rfl⟩;exact de.1 (hf x)
theorem AState.own0_ok(s:AState)(t k:Nat)(h:s.env t=.fl []):Wk s (s.own0 t k):=fun E a w ⟨G,m,hA⟩=>by
 have hn:m (.O s.nx)=none:=hA.fresh _ (ω _);have hle:HM.le m (aQ m (.O s.nx) .none):=fun x loc hx=>by
  unfold aQ;by_cases e:x=.O s.nx
  ·rw[e,hn]at hx;cases hx
  ·rw[if_neg e];exact .inl (.inl hx)
 have hjok:E.J ((s.own0 t k).env E.N) w:=by
  show E.J (upd s.env t (.sl (.O s.nx) k 0 0) E.N) w;unfold upd;by_cases e:E.N=t
  ·rw[if_pos e];exact E.Jsl (.fl []) _ _ rfl (h▸e▸hA.jok)
  ·rw[if_neg e];exact hA.jok
 refine⟨G,aQ m (.O s.nx) .none,hA.sim.nilRow hn _ _ k,fun u=>?_,hA.size,hA.defers,hjok,fun i hi=>?_,hA.frame,fun i=>?_,fun i b sz hi=>?_,hA.noO,fun i hi=>pT hA.nxOk i hi⟩
 ·show AV.Rep G _ (upd s.env t (.sl (.O s.nx) k 0 0) u) _;unfold upd;by_cases e:u=t
  ·rw[if_pos e];have:=hA.env t;rw[h]at this;unfold AV.Rep at this;obtain⟨_,p,hp⟩:=this;rw[e,hp];unfold AV.Rep;exact⟨rfl,.none,by unfold aQ;rw[if_pos rfl],fun _=>.inl ⟨p,rfl,rfl⟩⟩
  ·rw[if_neg e];exact AV.Rep.mono (Gh.le.refl G) hle _ _ (hA.env u)
 ·have hi':s.nx+1<=i:=hi;unfold aQ;rw[if_neg (fun e=>by cases e;omega)];exact hA.fresh i (by omega)
 ·have:aQ m (.O s.nx) .none (.B i)=m (.B i):=by unfold aQ;rw[if_neg (fun e=>by cases e)]
  rw[this];exact hA.base i
 ·unfold aQ at hi;split at hi
  ·cases hi;exact fun hb=>by cases hb
  ·exact hA.own i b sz hi
def AState.ownB(s:AState)(h:Hd)(cs:List AV)(i k:Nat):AState:=(s.put none .un [.row true k []] []).setBlk h (some (.box (cs.set i (.sl (.O s.nx) k 0 0))))
theorem aQm{G:Gh}{m:HM}:∀{cs:List AV} {vs:List Value} {i:Nat} {a:AV},AV.RepL G m cs vs->(∀v,vs[i]?=some v->AV.Rep G m a v)->AV.RepL G m (cs.set i a) vs
 |[],vs,i,a,h,_=>by simpa using h
 |c::cs,vs,0,a,h,ha=>by
  unfold AV.RepL at h;obtain⟨v,vs',rfl,_,h2⟩:=h;simp only[List.set_cons_zero];unfold AV.RepL;exact⟨v,vs',rfl,ha v rfl,h2⟩
 |c::cs,vs,i+1,a,h,ha=>by unfold AV.RepL at h;obtain⟨v,vs',rfl,h1,h2⟩:=h;simp only[List.set_cons_succ];unfold AV.RepL;exact⟨v,vs',rfl,h1,aQm h2 (fun u hu=>ha u (by simpa using hu))⟩
theorem AState.ownB_ok(s:AState)(h:Hd)(cs:List AV)(i k:Nat)(hl:s.lk h=some (.box cs))(hi:cs[i]?=some (.fl [])):Wk s (s.ownB h cs i k):=fun E a w ⟨G,m,hA⟩=>by
 have hn:m (.O s.nx)=none:=hA.fresh _ (ω _);have hle:HM.le m (aQ m (.O s.nx) .none):=aCq hn;have hne:h≠.O s.nx:=fun e=>by have h0:s.lk (.O s.nx)=none:=hA.nxOk _ (ω _);rw[e,h0]at hl;cases hl
 have hS:=hA.sim.nilRow hn none .un k;have hlk1:(s.put none .un [.row true k []] []).lk h=some (.box cs):=by
  rw[kD,cT];cases h with
  |B j=>exact hl
  |O j=>
   show(if s.nx<=j/\j<s.nx+[Blk.row true k []].length then _ else s.lk (.O j))=_;rw[if_neg (fun hc=>hne (by congr 1;simp at hc;omega))];exact hl
 have hlk:∀x,(s.ownB h cs i k).lk x=if x=h then some (.box (cs.set i (.sl (.O s.nx) k 0 0)))else(s.put none .un [.row true k []] []).lk x:=fun x=>bL _ _ _ _
 refine⟨G,aQ m (.O s.nx) .none,⟨fun x b sz hx=>?_,fun x hx=>?_,hS.injG,hS.gh,fun x hx=>?_,hS.gl,fun x b sz fp hx=>?_⟩,fun u=>?_,hA.size,hA.defers,?_,fun j hj=>?_,hA.frame,fun j=>?_,fun j b sz hj=>?_,trivial,fun j hj=>?_⟩
 ·obtain⟨bl,h1,h2⟩:=hS.blk x b sz hx;rw[hlk];by_cases e:x=h
  ·subst e;rw[if_pos rfl];rw[hlk1]at h1;cases h1;obtain⟨vs,T,q1,q2,q3,q4⟩:=h2;refine⟨_,rfl,vs,T,q1,q2,aQm q3 (fun v hv=>?_),q4⟩;obtain⟨v',hv',hr⟩:=AV.RepL_get q3 hi;rw[hv]at hv';cases hv';unfold AV.Rep at hr;obtain⟨_,p,hp⟩:=hr;subst hp;unfold AV.Rep;exact⟨rfl,.none,by unfold aQ;rw[if_pos rfl],fun _=>.inl ⟨p,rfl,rfl⟩⟩
  ·rw[if_neg e];exact⟨bl,h1,h2⟩
 ·obtain⟨mt,k',h1⟩:=hS.nil x hx;rw[hlk];by_cases e:x=h
  ·subst e;rw[hlk1]at h1;cases h1
  ·rw[if_neg e];exact⟨mt,k',h1⟩
 ·have h1:=hS.dead x hx;rw[hlk];by_cases e:x=h
  ·subst e;rw[hlk1]at h1;cases h1
  ·rw[if_neg e];exact h1
 ·obtain⟨bl,h1,h2⟩:=hS.blkx x b sz fp hx;rw[hlk];by_cases e:x=h
  ·subst e;rw[hlk1]at h1;cases h1;exact h2.elim
  ·rw[if_neg e];exact⟨bl,h1,h2⟩
 ·have:(s.ownB h cs i k).env=s.env:=by unfold AState.ownB;rw[eY];rfl
  rw[this];exact AV.Rep.mono (Gh.le.refl G) hle _ _ (hA.env u)
 ·have:(s.ownB h cs i k).env=s.env:=by unfold AState.ownB;rw[eY];rfl
  rw[this];exact hA.jok
 ·have hj':s.nx+1<=j:=by
   have:(s.ownB h cs i k).nx=s.nx+1:=by unfold AState.ownB;rw[bZ];rfl
   omega
  unfold aQ;rw[if_neg (fun e=>by cases e;omega)];exact hA.fresh j (by omega)
 ·have:aQ m (.O s.nx) .none (.B j)=m (.B j):=by unfold aQ;rw[if_neg (fun e=>by cases e)]
  rw[this];exact hA.base j
 ·unfold aQ at hj;split at hj
  ·cases hj;exact fun hb=>by cases hb
  ·exact hA.own j b sz hj
 ·have h0:∀j,(s.put none .un [.row true k []] []).nx<=j->(s.put none .un [.row true k []] []).own j=none:=fun j hj=>pT hA.nxOk j hj;exact lJ h0 ⟨_,hlk1⟩ j (by unfold AState.ownB at hj;rw[bZ]at hj;exact hj)
def sZ(mvs:List Nat):Hd->Hd
 |.B j=>match sY j mvs 0 with
  |some i=>.O i
  |none=>.B j
 |.O i=>.O i
def aNd(args:List AV)(bs:List (Option Blk))(mvs:List Nat):AState:=
 {env:=fun t=>(AV.renL (sZ mvs) args).getD t .un,bs:=fun j=>if j∈mvs then none else((bs[j]?).join).map (Blk.ren (sZ mvs)),own:=fun i=>(mvs[i]?).bind fun j=>((bs[j]?).join).map (Blk.ren (sZ mvs)),nx:=mvs.length}
theorem aQ0{j:Nat}:∀{l:List Nat} {n i:Nat},l.Nodup->l[i]?=some j->sY j l n=some (n+i)
 |[],_,_,_,q=>by simp at q
 |x::xs,n,0,_,q=>by
  simp only[List.getElem?_cons_zero,Option.some.injEq]at q;unfold sY;rw[if_pos q];rfl
 |x::xs,n,i+1,hn,q=>by simp only[List.getElem?_cons_succ]at q;unfold sY;rw[if_neg (fun e:x=j=>(eu.1 hn).1 (by rw[e];exact bx q)),aQ0 (eu.1 hn).2 q];congr 1;omega
theorem bIq(ψ:Hd->Hd):AV.ren ψ .un=.un:=rfl
theorem aB9{ψ:Hd->Hd}:∀(l:List AV) (t:Nat),(AV.renL ψ l).getD t .un=AV.ren ψ (l.getD t .un)
 |[],t=>by simp[AV.renL,bIq]
 |a::l,0=>by simp[AV.renL]
 |a::l,t+1=>by have:=aB9 (ψ:=ψ) l t;simpa[AV.renL]using this
theorem aXo(args:List AV)(bs:List (Option Blk))(mvs:List Nat)(hnd:mvs.Nodup):Wk (entry args bs) (aNd args bs mvs):=fun E a w ⟨G,m,hA⟩=>by
 have hlk:∀j,(entry args bs).lk (.B j)=(bs[j]?).join:=fun j=>rfl;have hO:∀i,m (.O i)=none:=fun i=>hA.fresh i (di _);obtain⟨m',hm'⟩:∃m':HM,m'=fun x=>match x with
  |.O i=>(mvs[i]?).bind fun j=>m (.B j)
  |.B j=>if j∈mvs then(m (.B j)).map fun _=>.dead else m (.B j):=⟨_,rfl⟩
 have mB:∀j,j∉mvs->m' (.B j)=m (.B j):=fun j hj=>by rw[hm'];exact if_neg hj
 have mBd:∀j,j∈mvs->m' (.B j)=(m (.B j)).map fun _=>.dead:=fun j hj=>by rw[hm'];exact if_pos hj
 have mO:∀i,m' (.O i)=(mvs[i]?).bind fun j=>m (.B j):=fun i=>by rw[hm']
 have hpsi:∀j,j∉mvs->sZ mvs (.B j)=.B j:=fun j hj=>by
  cases e:sY j mvs 0 with
  |none=>simp only[sZ,e]
  |some i=>obtain⟨_,h⟩:=uK e;exact absurd (bx h) hj
 have hback:∀x loc,m x=some loc->m' (sZ mvs x)=some loc:=fun x loc hx=>by
  cases x with
  |O i=>rw[hO i]at hx;cases hx
  |B j=>
   by_cases hj:j∈mvs
   ·obtain⟨i,hi⟩:=List.getElem?_of_mem hj;have:sZ mvs (.B j)=.O i:=by simp[sZ,aQ0 (n:=0) hnd hi]
    rw[this,mO,hi];exact hx
   ·rw[hpsi j hj,mB j hj];exact hx
 have get:∀x loc,m' x=some loc->loc≠.dead->(∃j,x=.B j/\j∉mvs/\m (.B j)=some loc)\/(∃i j,x=.O i/\mvs[i]?=some j/\m (.B j)=some loc):=fun x loc hx hl=>by
  cases x with
  |B j=>
   by_cases hj:j∈mvs
   ·rw[mBd j hj,θ]at hx;obtain⟨_,_,e⟩:=hx;exact absurd e.symm hl
   ·rw[mB j hj]at hx;exact .inl ⟨j,rfl,hj,hx⟩
  |O i=>
   rw[mO,η]at hx;obtain⟨j,h1,h2⟩:=hx;exact .inr ⟨i,j,rfl,h1,h2⟩
 have lkB:∀j,j∉mvs->(aNd args bs mvs).lk (.B j)=((bs[j]?).join).map (Blk.ren (sZ mvs)):=fun j hj=>if_neg hj;have lkO:∀i j,mvs[i]?=some j->(aNd args bs mvs).lk (.O i)=((bs[j]?).join).map (Blk.ren (sZ mvs)):=fun i j hi=>by show(mvs[i]?).bind _=_;rw[hi];rfl
 have hjok:E.J ((aNd args bs mvs).env E.N) w:=by show E.J ((AV.renL (sZ mvs) args).getD E.N .un) w;rw[aB9];exact E.Jren _ _ _ hA.jok
 refine⟨G,m',⟨fun x b sz hx=>?_,fun x hx=>?_,fun x y l l' b hx hy hb hb'=>?_,hA.sim.gh,fun x hx=>?_,hA.sim.gl,fun x b sz fp hx=>?_⟩,fun t=>?_,hA.size,hA.defers,hjok,fun i hi=>?_,hA.frame,fun j=>?_,fun h0 l0 b0 q0=>?_,hA.noO,fun i hi=>?_⟩
 ·rcases get x _ hx (by simp)with⟨j,rfl,hj,h1⟩|⟨i,j,rfl,hi,h1⟩
  ·obtain⟨bl,h2,h3⟩:=hA.sim.blk _ b sz h1;rw[hlk]at h2;exact⟨_,by rw[lkB j hj,h2];rfl,h3.ren hback⟩
  ·obtain⟨bl,h2,h3⟩:=hA.sim.blk _ b sz h1;rw[hlk]at h2;exact⟨_,by rw[lkO i j hi,h2];rfl,h3.ren hback⟩
 ·rcases get x _ hx (by simp)with⟨j,rfl,hj,h1⟩|⟨i,j,rfl,hi,h1⟩
  ·obtain⟨mt,k,h2⟩:=hA.sim.nil _ h1;rw[hlk]at h2;exact⟨mt,k,by rw[lkB j hj,h2];rfl⟩
  ·obtain⟨mt,k,h2⟩:=hA.sim.nil _ h1;rw[hlk]at h2;exact⟨mt,k,by rw[lkO i j hi,h2];rfl⟩
 ·have hne:∀{l:Loc} {b:Nat},b∈l.blks->l≠.dead:=fun h e=>by subst e;cases h
  rcases get x _ hx (hne hb)with⟨j,rfl,hj,h1⟩|⟨i,j,rfl,hi,h1⟩<;>rcases get y _ hy (hne hb')with⟨j',rfl,hj',h1'⟩|⟨i',j',rfl,hi',h1'⟩
  ·exact hA.sim.injG _ _ l l' b h1 h1' hb hb'
  ·have:=hA.sim.injG _ _ l l' b h1 h1' hb hb';cases this;exact absurd (bx hi') hj
  ·have:=hA.sim.injG _ _ l l' b h1 h1' hb hb';cases this;exact absurd (bx hi) hj'
  ·have:=hA.sim.injG _ _ l l' b h1 h1' hb hb';cases this;have hlt:=(aw.1 hi).1;rw[(List.getElem?_inj hlt hnd).1 (hi.trans hi'.symm)]
 ·cases x with
  |B j=>
   by_cases hj:j∈mvs
   ·exact if_pos hj
   ·rw[mB j hj]at hx;have:=hA.sim.dead _ hx;rw[hlk]at this;rw[lkB j hj,this];rfl
  |O i=>
   rw[mO,η]at hx;obtain⟨j,h1,h2⟩:=hx;have:=hA.sim.dead _ h2;rw[hlk]at this;rw[lkO i j h1,this];rfl
 ·rcases get x _ hx (by simp)with⟨j,rfl,hj,h1⟩|⟨i,j,rfl,hi,h1⟩
  ·obtain⟨bl,h2,h3⟩:=hA.sim.blkx _ b sz fp h1;rw[hlk]at h2;exact⟨_,by rw[lkB j hj,h2];rfl,h3.ren hback⟩
  ·obtain⟨bl,h2,h3⟩:=hA.sim.blkx _ b sz fp h1;rw[hlk]at h2;exact⟨_,by rw[lkO i j hi,h2];rfl,h3.ren hback⟩
 ·show AV.Rep G m' ((AV.renL (sZ mvs) args).getD t .un) _;rw[aB9];exact AV.ren_rep hback _ _ (hA.env t)
 ·have hi:mvs.length<=i:=hi;rw[mO,db hi];rfl
 ·by_cases hj:j∈mvs
  ·rw[mBd j hj];rcases hA.base j with h1|⟨h1,h2⟩|⟨b,sz,fp,fp',h1,h2⟩
   ·cases e:m (.B j)with
    |none=>left;rw[<-h1,e];rfl
    |some l=>right;left;exact⟨by rw[<-h1,e];simp,rfl⟩
   ·right;left;exact⟨h1,by rw[h2];rfl⟩
   ·right;left;exact⟨by rw[h1];simp,by rw[h2];rfl⟩
  ·rw[mB j hj];exact hA.base j
 ·intro hb;have hne:l0≠.dead:=fun e=>by subst e;cases hb
  rcases get h0 _ q0 hne with⟨j,rfl,_,h2⟩|⟨i,j,rfl,_,h2⟩<;>exact hA.own _ _ _ h2 hb
 ·have hi:mvs.length<=i:=hi;show(mvs[i]?).bind _=none;rw[db hi];rfl
structure Arr (n:Nat)where
 l:List Int
 len:l.length=n
 deriving DecidableEq
instance{n:Nat}:Inhabited (Arr n):=⟨⟨bg n 0,by simp⟩⟩
theorem Arr.ext:∀{x y:Arr n} (_:x.l=y.l),x=y
 |⟨_,_⟩,⟨_,_⟩,rfl=>rfl
def Arr.zero(n:Nat):Arr n:=⟨bg n 0,by simp⟩
def Arr.set{n:Nat}(x:Arr n)(i:Nat)(v:Int):Arr n:=⟨x.l.set i v,by rw[List.length_set];exact x.len⟩
def Arr.putL(n:Nat)(x:List Int)(o:Nat)(ys:List Int):List Int:=if o+ys.length<=n then x.take o++ys++x.drop (o+ys.length)else x
theorem Arr.putL_len{x:List Int}(hx:x.length=n)(o:Nat)(ys:List Int):(Arr.putL n x o ys).length=n:=by
 unfold Arr.putL;split
 ·simp;omega
 ·exact hx
def Arr.put{n:Nat}(x:Arr n)(o:Nat)(ys:List Int):Arr n:=⟨Arr.putL n x.l o ys,Arr.putL_len x.len o ys⟩
def Arr.from(l:List Int)(m:Nat):Arr m:=⟨l.take m++bg (m-(l.take m).length) 0,by simp;omega⟩
def Arr.part{n:Nat}(x:Arr n)(o m:Nat):Arr m:=Arr.from (x.l.drop o) m
theorem Arr.l_set{x:Arr n}{i:Nat}{v:Int}:(x.set i v).l=x.l.set i v:=rfl
theorem Arr.l_put{x:Arr n}{o:Nat}{ys:List Int}(h:o+ys.length<=n):(x.put o ys).l=x.l.take o++ys++x.l.drop (o+ys.length):=if_pos h
theorem Arr.l_from{l:List Int}{m:Nat}(h:m<=l.length):(Arr.from l m).l=l.take m:=by
 show l.take m++bg (m-(l.take m).length) 0=_;have:(l.take m).length=m:=by simp;omega
 simp only[this,jy,List.replicate_zero,χ]
theorem Arr.l_part{x:Arr n}{o m:Nat}(h:o+m<=n):(x.part o m).l=(x.l.drop o).take m:=by unfold Arr.part;exact Arr.l_from (by rw[aq,x.len];omega)
def aG(t:Str):List Int:=t.map fun c=>(c.toNat:Int)
theorem aP{t:Str}:(aG t).length=t.length:=μ _
class YL where
 l:Nat
inductive GX where
 |go
 |exit (id:Nat)
 |ret
 deriving Inhabited
def GX.code:GX->Option Code
 |.go=>none
 |.exit id=>some (.exit id)
 |.ret=>some .ret
end Go.Eng
namespace Go.Eng
def glT:Nat→Option (IntKind×List Int)
  |0=>some (.i64,gl0)
  |1=>some (.u32,gl1)
  |2=>some (.u32,gl2)
  |_=>none
theorem bHs(g:Nat):aJd g=(glT g).map fun p=>p.2.map (DV.I p.1):=by unfold aJd glT;split<;>first|rfl|(split<;>first|rfl|(simp_all;done))
end Go.Eng
namespace Go.Eng
open Go.RowKit
variable{off i:Nat}{h:Hd}{φ:Hd->Option Hd}{KP:AV->Prop}{len:Hd->Nat}{k:IntKind}{op:BinOp}{ag:Option Nat}{sl:List Nat}
inductive Ty where
 |u
 |b
 |i (k:IntKind)
 |s
 |p (x y:Ty)
 |w (x:Ty)
 |ar (n:Nat) (k:IntKind)
 |sl (t:Ty)
 |o (t:Ty)
 deriving Inhabited
variable{t:Ty}
def Ty.beq:Ty->Ty->Bool
 |.u,.u=>true
 |.b,.b=>true
 |.i k,.i k'=>decide (k=k')
 |.s,.s=>true
 |.p a e,.p c d=>a.beq c&&e.beq d
 |.w a,.w e=>a.beq e
 |.ar n k,.ar m k'=>bb n m&&decide (k=k')
 |.sl a,.sl e=>a.beq e
 |.o a,.o e=>a.beq e
 |_,_=>false
theorem Ty.eq_of{a b:Ty}(h:a.beq b=true):a=b:=by
 induction a generalizing b with
 |p x y ih1 ih2=>cases b<;>first|(simp only[Ty.beq,ν]at h;rw[ih1 h.1,ih2 h.2];done)|exact ct (show false=true from h)
 |w x ih=>cases b<;>first|exact congrArg Ty.w (ih h)|exact ct (show false=true from h)
 |o x ih=>cases b<;>first|exact congrArg Ty.o (ih h)|exact ct (show false=true from h)
 |sl x ih=>cases b<;>first|exact congrArg Ty.sl (ih h)|exact ct (show false=true from h)
 |ar n k=>cases b<;>first|(simp only[Ty.beq,ν,decide_eq_true_eq]at h;rw[ι h.1,h.2];done)|exact ct (show false=true from h)
 |i k=>cases b<;>first|exact congrArg Ty.i (of_decide_eq_true h)|exact ct (show false=true from h)
 |u=>cases b<;>first|rfl|exact ct (show false=true from h)
 |b=>cases b<;>first|rfl|exact ct (show false=true from h)
 |s=>cases b<;>first|rfl|exact ct (show false=true from h)
@[reducible] def Ty.T:Ty->Type
 |.u=>Unit
 |.b=>Bool
 |.i _=>Int
 |.s=>Str
 |.p x y=>x.T×y.T
 |.w x=>x.T
 |.ar n _=>Arr n
 |.sl t=>List t.T
 |.o t=>List t.T
def Ty.n:Ty->Nat
 |.u=>0
 |.p x y=>x.n+y.n
 |.w x=>x.n
 |.ar n _=>n
 |_=>1
def Ty.ds:(t:Ty)->t.T->List DV
 |.u,_=>[]
 |.b,x=>[.B x]
 |.i k,n=>[.I k n]
 |.s,t=>[.S t]
 |.p a c,v=>a.ds v.1++c.ds v.2
 |.w a,v=>a.ds v
 |.ar _ k,v=>v.l.map (.I k)
 |.sl t,xs=>[.L (xs.map t.ds)]
 |.o t,xs=>[.L (xs.map t.ds)]
theorem Ty.ds_len:∀(t:Ty) (x:t.T),(t.ds x).length=t.n
 |.u,_=>rfl
 |.b,_=>rfl
 |.i _,_=>rfl
 |.s,_=>rfl
 |.p a c,v=>by
  show(a.ds v.1++c.ds v.2).length=a.n+c.n;rw[κ,a.ds_len,c.ds_len]
 |.w a,v=>a.ds_len v
 |.ar n k,v=>by
  show(v.l.map (DV.I k)).length=n;rw[μ,v.len]
 |.sl t,xs=>rfl
 |.o _,_=>rfl
theorem Ty.ds_one:∀(t:Ty) (x:t.T),(t.ds x).all DV.one=true
 |.u,_=>rfl
 |.b,_=>rfl
 |.i _,_=>rfl
 |.s,_=>rfl
 |.p a c,v=>by
  show(a.ds v.1++c.ds v.2).all DV.one=true;rw[List.all_append,a.ds_one,c.ds_one];rfl
 |.w a,v=>a.ds_one v
 |.ar n k,v=>by
  show(v.l.map (DV.I k)).all DV.one=true;rw[List.all_map,de];intro _ _;rfl
 |.sl t,xs=>rfl
 |.o _,_=>rfl
theorem uC(t:Ty)(xs:List t.T):Uni t.n (xs.map t.ds):=by rw[bD3 fun x=>t.ds_len x];trivial
theorem aUi(t:Ty)(xs:List t.T):aEy (xs.map t.ds)=true:=bE2 fun x=>t.ds_one x
@[reducible] def Ty.deq:(t:Ty)->DecidableEq t.T
 |.u=>inferInstanceAs (DecidableEq Unit)
 |.b=>inferInstanceAs (DecidableEq Bool)
 |.i _=>inferInstanceAs (DecidableEq Int)
 |.s=>inferInstanceAs (DecidableEq (List UInt8))
 |.p x y=>@instDecidableEqProd _ _ x.deq y.deq
 |.w x=>x.deq
 |.ar n _=>inferInstanceAs (DecidableEq (Arr n))
 |.sl t=>@instDecidableEqList _ t.deq
 |.o t=>@instDecidableEqList _ t.deq
instance(t:Ty):DecidableEq t.T:=t.deq
def Ty.cst(a b:Ty)(x:a.T):Option b.T:=if h:a.beq b=true then some (Ty.eq_of h▸x)else none
theorem Ty.cst_ok{a b:Ty}{x:a.T}{y:b.T}(h:a.cst b x=some y):∃e:a=b,e▸x=y:=by
 unfold Ty.cst at h;split at h
 ·exact⟨Ty.eq_of ‹_›,Option.some.inj h⟩
 ·cases h
inductive XV where
 |d (t:Ty) (x:t.T)
 |any
 |un
 |ab
 |ptr (h:Hd) (off:Nat)
 |ept (h:Hd) (t:Ty) (ix off:Nat)
 |apt (h:Hd) (ix:Nat)
 |pa (h:Hd) (off j:Nat)
 |epa (h:Hd) (t:Ty) (ix off j:Nat)
 |rpt (h:Hd) (off:Nat)
 |rpa (h:Hd) (off j:Nat)
 |rsl (h:Hd) (off l len:Nat)
 |rop (t:Ty) (x:t.T) (off:Nat)
 |fl (t:Ty) (xs:List t.T)
 |fln (t:Ty)
 |nl (t:Ty)
 |sl (h:Hd) (t:Ty) (off len:Nat)
 |asl (h:Hd) (off len:Nat)
 |slw (h:Hd) (t:Ty) (len:Nat)
 |mref (h:Hd)
 |itr (hm h:Hd)
 |sc
 |agg (cs:List XV)
 |tup (vs:List XV)
 |clo (f:Nat) (caps:List XV)
 |c (v:Value)
 |yld
 |gst (c:GX)
 deriving Inhabited
variable{cs l l2:List XV}{v a:XV}
def jB:(t:Ty)->t.T->AV
 |.b,x=>.D (.B x)
 |.i k,n=>.D (.I k n)
 |.s,t=>.D (.S t)
 |.sl t,xs=>.D (.L (xs.map t.ds))
 |.u,_=>.agg []
 |.p a c,v=>.agg (((Ty.p a c).ds v).map .D)
 |.w a,v=>.agg ((a.ds v).map .D)
 |.ar n k,v=>.agg (((Ty.ar n k).ds v).map .D)
 |.o t,xs=>.D (.L (xs.map t.ds))
mutual
def XV.er[YL]:XV->AV
 |.d t x=>jB t x
 |.any=>.any
 |.un=>.D (.C undef)
 |.ab=>.ab
 |.ptr h off=>.ptr h off
 |.ept h t ix off=>.eptr h t.n ix off
 |.apt h ix=>.eptr h 1 ix 0
 |.pa h off j=>.ptr h (off+j)
 |.rpt h off=>.eptr h 1 off 0
 |.rpa h off j=>.eptr h 1 (off+j) 0
 |.rsl h off l len=>.sl h 1 (off+l) len
 |.epa h t ix off j=>.eptr h t.n ix (off+j)
 |.mref h=>.mref h
 |.itr hm h=>.itr hm h
 |.rop t x off=>.rop ((t.ds x).drop off)
 |.fl t xs=>.fl (xs.map t.ds)
 |.fln _=>.fl []
 |.nl _=>.D (.L [])
 |.sl h t off len=>.sl h t.n off len
 |.asl h off len=>.sl h 1 off len
 |.slw h t len=>.sl h t.n 0 len
 |.sc=>.sc
 |.agg cs=>.agg (XV.fcL cs)
 |.tup vs=>.tup (XV.erL vs)
 |.clo f caps=>.clo f (XV.erL caps)
 |.c v=>.D (.C v)
 |.yld=>.yld YL.l
 |.gst q=>.gst q.code
def XV.erL[YL]:List XV->List AV
 |[]=>[]
 |a::as=>a.er::XV.erL as
def XV.fc[YL]:XV->List AV
 |.d t x=>(t.ds x).map .D
 |.agg cs=>XV.fcL cs
 |.any=>[.any]
 |.un=>[.D (.C undef)]
 |.ab=>[.ab]
 |.ptr h off=>[.ptr h off]
 |.ept h t ix off=>[.eptr h t.n ix off]
 |.apt h ix=>[.eptr h 1 ix 0]
 |.pa h off j=>[.ptr h (off+j)]
 |.rpt h off=>[.eptr h 1 off 0]
 |.rpa h off j=>[.eptr h 1 (off+j) 0]
 |.rsl h off l len=>[.sl h 1 (off+l) len]
 |.epa h t ix off j=>[.eptr h t.n ix (off+j)]
 |.mref h=>[.mref h]
 |.itr hm h=>[.itr hm h]
 |.rop t x off=>[.rop ((t.ds x).drop off)]
 |.fl t xs=>[.fl (xs.map t.ds)]
 |.fln _=>[.fl []]
 |.nl _=>[.D (.L [])]
 |.sl h t off len=>[.sl h t.n off len]
 |.asl h off len=>[.sl h 1 off len]
 |.slw h t len=>[.sl h t.n 0 len]
 |.sc=>[.sc]
 |.tup vs=>[.tup (XV.erL vs)]
 |.clo f caps=>[.clo f (XV.erL caps)]
 |.c v=>[.D (.C v)]
 |.yld=>[.yld YL.l]
 |.gst q=>[.gst q.code]
def XV.fcL[YL]:List XV->List AV
 |[]=>[]
 |a::as=>a.fc++XV.fcL as
end
def aYg:Ty->List IntKind
 |.i k=>[k]
 |.p x y=>aYg x++aYg y
 |.ar n k=>bg n k
 |_=>[]
def aWz:Ty->Bool
 |.i _=>true
 |.p x y=>aWz x&&aWz y
 |.ar _ _=>true
 |_=>false
def Ty.kd:Ty->KD
 |.i k=>.i k
 |.ar n k=>.a (bg n k)
 |.w t=>.a (aYg t)
 |_=>.s
def aDx:Ty->Bool
 |.i _=>true
 |.s=>true
 |.ar _ _=>true
 |.w t=>aWz t
 |_=>false
def aWv(wr:Bool)(t:Ty)(x:t.T):MV:=match t,x with
 |.o t,x=>match wr with
  |false=>.o t.n (x.map t.ds)
  |true=>.ow t.n (x.map t.ds)
 |t,x=>.v (jB t x)
def bId(wr:Bool)(t:Ty)(x:t.T):AV:=match wr with
 |false=>jB t x
 |true=>.any
def aEf(wr:Bool)(K V:Ty):List (K.T×V.T)->Option K.T->List (AV×MV)
 |[],_=>[]
 |e::es,none=>(jB K e.1,aWv wr V e.2)::aEf wr K V es none
 |e::es,some y=>if e.1=y then(jB K e.1,.v (bId wr V e.2))::aEf wr K V es none else(jB K e.1,aWv wr V e.2)::aEf wr K V es (some y)
def aZp(K V:Ty):List (K.T×V.T)->List K.T->List (AV×MV)
 |[],_=>[]
 |e::es,l=>if e.1∈l then(jB K e.1,aWv true V e.2)::aZp K V es (l.erase e.1)else(jB K e.1,.v .any)::aZp K V es l
inductive XB where
 |box (cs:List XV)
 |row (mt:Bool) (t:Ty) (xs:List t.T)
 |arr (mt:Bool) (n:Nat) (k:IntKind) (x:Arr n)
 |rb (mt:Bool) (t:Ty) (x:t.T)
 |mp (wr:Bool) (K V:Ty) (es:List (K.T×V.T)) (hole:Option K.T) (it:Option (Hd×Option K.T×List K.T))
 |it
 |sb (T:TypeId×TypeId) (us:Bool) (xs:List Int)
 deriving Inhabited
def arD(k:IntKind)(c:Int):List DV:=[.I k c]
def sgD(l:List DV):List (List DV):=l.map fun d=>[d]
def bKs{α:Type}:Option α->List α
 |none=>[]
 |some x=>[x]
def itX(K:Ty):Option (Hd×Option K.T×List K.T)->Option (Hd×List AV×List AV)
 |none=>none
 |some (h,cur,rem)=>some (h,(bKs cur).map (jB K),rem.map (jB K))
def aO6(wr:Bool)(K V:Ty)(es:List (K.T×V.T))(hole:Option K.T)(i:Option (Hd×Option K.T×List K.T)):List (AV×MV):=match wr,i with
 |true,some (_,cur,rem)=>aZp K V es (bKs cur++rem)
 |_,_=>aEf wr K V es hole
def bM3{α:Type}(wr:Bool)(i:Option α):Bool:=!wr||i.isNone
def XB.er[YL]:XB->Blk
 |.box cs=>.box (XV.fcL cs)
 |.row mt t xs=>.row mt t.n (xs.map t.ds)
 |.arr mt _ k x=>.row mt 1 (x.l.map (arD k))
 |.rb mt t x=>.row mt 1 (sgD (t.ds x))
 |.mp wr K V es hole i=>.mp K.kd (aO6 wr K V es hole i) (itX K i)
 |.it=>.it
 |.sb T us xs=>.sb T us (xs.map (Ty.i .u8).ds)
structure XS where
 env:List (Nat×XV)
 bs:List (Option XB)
 own:List (Option XB)
def cP:List (Nat×XV)->Nat->XV
 |[],_=>.any
 |(t,v)::r,i=>if bb i t then v else cP r i
def bG:List (Option XB)->Nat->Option XB
 |[],_=>none
 |b::_,0=>b
 |_::r,i+1=>bG r i
def xL:List (Option XB)->Nat->Option XB->List (Option XB)
 |[],_,_=>[]
 |_::r,0,x=>x::r
 |b::r,i+1,x=>b::xL r i x
def XS.lk(s:XS):Hd->Option XB
 |.B i=>bG s.bs i
 |.O i=>bG s.own i
def XS.er[YL](s:XS):AState:={env:=fun i=>(cP s.env i).er,bs:=fun i=>(bG s.bs i).map XB.er,own:=fun i=>(bG s.own i).map XB.er,nx:=s.own.length}
def aTg:Value->XV
 |.bool x=>.d .b x
 |.int k n=>.d (.i k) n
 |.string s=>.d .s s.data.toList
 |.slice none 0 0=>.fln .u
 |.agg cs=>.agg (cs.toList.map fun v=>match v with
  |.bool x=>.d .b x
  |.int k n=>.d (.i k) n
  |.string s=>.d .s s.data.toList
  |.slice none 0 0=>.fln .u
  |v=>.c v)
 |v=>.c v
def XS.ev(s:XS):Operand->XV
 |.tmp t=>cP s.env t
 |.const v=>aTg v
 |.func f=>.clo f []
 |.global g=>match glT g with
  |some (k,l)=>.rop (.ar l.length k) ⟨l,rfl⟩ 0
  |none=>.any
theorem aWh[YL](v:Value):(aTg v).er=iL v:=by
 unfold aTg iL;split
 ·rfl
 ·rfl
 ·rfl
 ·rfl
 ·rename_i cs;simp only[XV.er];congr 1;generalize cs.toList=l
  induction l with
  |nil=>rfl
  |cons v l ih=>
   simp only[cx,XV.fcL,ih];cases v with
   |slice a b c=>cases a<;>cases b<;>cases c<;>rfl
   |_=>rfl
 ·rename_i h1 h2 h3 h4 h5;cases v with
  |slice a b c=>
   cases a with
   |some a=>rfl
   |none=>
    cases b with
    |succ b=>rfl
    |zero=>
     cases c with
     |succ c=>rfl
     |zero=>exact absurd rfl h4
  |bool x=>exact absurd rfl (h1 x)
  |int k n=>exact absurd rfl (h2 k n)
  |string x=>exact absurd rfl (h3 x)
  |agg cs=>exact absurd rfl (h5 cs)
  |_=>rfl
theorem aT[YL](s:XS)(h:Hd):s.er.lk h=(s.lk h).map XB.er:=by cases h<;>rfl
section
def gl?{α β:Type}(n:Nat)(xs:List α)(a:Option β):Option β:=if n=xs.length then a else none
theorem aXy{α β:Type}{n:Nat}{xs:List α}{a:Option β}{r:β}(h:gl? n xs a=some r):n=xs.length/\a=some r:=by
 unfold gl? at h;split at h
 ·exact⟨‹_›,h⟩
 ·cases h
variable{R:Type}
def xck(k:IntKind)(n:Int)(K:Int->Option R):Option R:=match k.signed with
 |true=>ck k n (K n)
 |false=>K (k.wrap n)
theorem aL2{n:Int}{K:Int->Option R}{r:R}(h:xck k n K=some r):K (k.wrap n)=some r:=by
 unfold xck at h;split at h
 ·obtain⟨e,h⟩:=bN5 h;rw[e];exact h
 ·exact h
def bLa(op:BinOp)(k:IntKind)(x y:Int)(K:XV->Option R):Option R:=
 match op with
 |.add=>xck k (x+y) fun n=>K (.d (.i k) n)
 |.sub=>xck k (x-y) fun n=>K (.d (.i k) n)
 |.mul=>xck k (x*y) fun n=>K (.d (.i k) n)
 |.quo=>gd? (y≠0) (xck k (x.tdiv y) fun n=>K (.d (.i k) n))
 |.rem=>gd? (y≠0) (K (.d (.i k) (x.tmod y)))
 |.and=>K (.d (.i k) (bits .and k x y))
 |.or=>K (.d (.i k) (bits .or k x y))
 |.xor=>K (.d (.i k) (bits .xor k x y))
 |.andNot=>K (.d (.i k) (bits .andNot k x y))
 |.eql=>K (.d .b (x==y))
 |.neq=>K (.d .b (x !=y))
 |.lss=>K (.d .b (decide (x<y)))
 |.leq=>K (.d .b (decide (x<=y)))
 |.gtr=>K (.d .b (decide (x>y)))
 |.geq=>K (.d .b (decide (x≥y)))
 |_=>none
def bNk(op:BinOp)(x y:Str)(K:XV->Option R):Option R:=
 match op with
 |.add=>gd? (x.length+y.length<=9223372036854775807) (K (.d .s (x++y)))
 |.eql=>K (.d .b (x==y))
 |.neq=>K (.d .b (!(x==y)))
 |.lss=>K (.d .b (Op.bytesLess x y))
 |.leq=>K (.d .b (Op.bytesLess x y||x==y))
 |.gtr=>K (.d .b (!(Op.bytesLess x y||x==y)))
 |.geq=>K (.d .b (!Op.bytesLess x y))
 |_=>none
def bIk(op:BinOp)(K:XV->Option R):XV->XV->Option R
 |.d (.i k) x,.d (.i k') y=>
  match op with
  |.shl=>gd? (0<=y) (gd? (y<=k.bits) (xck k (x*2^y.toNat) fun n=>K (.d (.i k) n)))
  |.shr=>gd? (0<=y) (gd? (y<=k.bits) (K (.d (.i k) (x/2^y.toNat))))
  |op=>if k=k' then bLa op k x y K else none
 |.d .s x,.d .s y=>bNk op x y K
 |_,_=>none
def xun(op:UnOp)(K:XV->Option R):XV->Option R
 |.d .b x=>match op with
  |.not=>K (.d .b (!x))
  |_=>none
 |.d (.i k) x=>match op with
  |.neg=>xck k (-x) fun n=>K (.d (.i k) n)
  |.xor=>K (.d (.i k) (bits .xor k (if k.signed then-1 else k.max) x))
  |_=>none
 |_=>none
theorem bDq[YL]{x y:Int}{K:XV->Option R}{r:R}(h:bLa op k x y K=some r)(hK:∀v,K v=some r->KP v.er):bEs op k x y KP:=by
 cases op<;>first
  |(exact hK _ (aL2 (K:=fun n=>K (.d (.i k) n)) h);done)
  |(obtain⟨h1,h⟩:=aX h;exact⟨h1,hK _ (aL2 (K:=fun n=>K (.d (.i k) n)) h)⟩;done)
  |(obtain⟨h1,h⟩:=aX h;exact⟨h1,hK _ h⟩;done)
  |(exact hK _ h;done)
  |(cases h;done)
theorem bE9[YL]{x y:Str}{K:XV->Option R}{r:R}(h:bNk op x y K=some r)(hK:∀v,K v=some r->KP v.er):bDg op x y KP:=by
 cases op<;>first
  |(obtain⟨h1,h⟩:=aX h;exact⟨h1,hK _ h⟩;done)
  |(exact hK _ h;done)
  |(cases h;done)
theorem bFa[YL]{c:XV}{K:XV->Option R}{r:R}(h:bIk op K a c=some r)(hK:∀v,K v=some r->KP v.er):aW7 op KP a.er c.er:=by
 unfold bIk at h;split at h
 ·rename_i k x k' y;simp only[XV.er,jB];unfold aW7;split at h
  ·obtain⟨h1,h⟩:=aX h;obtain⟨h2,h⟩:=aX h;exact⟨h1,h2,hK _ (aL2 (K:=fun n=>K (.d (.i k) n)) h)⟩
  ·obtain⟨h1,h⟩:=aX h;obtain⟨h2,h⟩:=aX h;exact⟨h1,h2,hK _ h⟩
  ·split at h
   ·have:=bDq h hK;cases op<;>first|exact⟨‹_›,this⟩|contradiction
   ·cases h
 ·simp only[XV.er,jB];exact bE9 h hK
 ·cases h
theorem bHl[YL]{op:UnOp}{K:XV->Option R}{r:R}(h:xun op K a=some r)(hK:∀v,K v=some r->KP v.er):aun op KP a.er:=by
 unfold xun at h;split at h
 ·split at h
  ·exact⟨rfl,hK _ h⟩
  ·cases h
 ·rename_i k x;split at h
  ·exact hK _ (aL2 (K:=fun n=>K (.d (.i k) n)) h)
  ·exact hK _ h
  ·cases h
 ·cases h
def lvs:(t:Ty)->t.T->List XV
 |.u,_=>[]
 |.b,x=>[.d .b x]
 |.i k,x=>[.d (.i k) x]
 |.s,x=>[.d .s x]
 |.p a c,v=>lvs a v.1++lvs c v.2
 |.w a,v=>lvs a v
 |.ar n k,x=>[.d (.ar n k) x]
 |.sl t,x=>[.d (.sl t) x]
 |.o t,x=>[.d (.sl t) x]
theorem oH[YL]:∀(a c:List XV),XV.fcL (a++c)=XV.fcL a++XV.fcL c
 |[],c=>rfl
 |x::a,c=>by show x.fc++XV.fcL (a++c)=x.fc++XV.fcL a++XV.fcL c;rw[oH a c,υ]
theorem cX[YL]:∀(t:Ty) (x:t.T),XV.fcL (lvs t x)=(t.ds x).map .D
 |.u,_=>rfl
 |.b,_=>rfl
 |.i _,_=>rfl
 |.s,_=>rfl
 |.p a c,v=>by
  show XV.fcL (lvs a v.1++lvs c v.2)=(a.ds v.1++c.ds v.2).map .D;rw[oH,cX a,cX c,bn]
 |.w a,v=>cX a v
 |.ar n k,v=>by
  show((Ty.ar n k).ds v).map AV.D++[]=_;rw[χ]
 |.sl t,v=>rfl
 |.o _,_=>rfl
def XV.sz:XV->Nat
 |.d t _=>t.n
 |.agg cs=>(@XV.fcL ⟨0⟩ cs).length
 |_=>1
mutual
theorem bJd(x y:YL):∀v:XV,(@XV.fc x v).length=(@XV.fc y v).length
 |.agg cs=>aL3 x y cs
 |.d _ _|.any|.un|.ab|.ptr _ _|.ept _ _ _ _|.apt _ _|.pa _ _ _|.rpt _ _|.rpa _ _ _|.rsl _ _ _ _|.epa _ _ _ _ _|.mref _|.itr _ _|.rop _ _ _|.fl _ _|.fln _|.nl _|.sl _ _ _ _|.asl _ _ _|.slw _ _ _|.sc|.tup _|.clo _ _|.c _|.yld|.gst _=>rfl
theorem aL3(x y:YL):∀l:List XV,(@XV.fcL x l).length=(@XV.fcL y l).length
 |[]=>rfl
 |v::l=>by show(@XV.fc x v++@XV.fcL x l).length=(@XV.fc y v++@XV.fcL y l).length;rw[κ,κ,bJd x y v,aL3 x y l]
end
def nW:Ty->Bool
 |.b=>true
 |.i _=>true
 |.s=>true
 |.sl _=>true
 |.o _=>true
 |_=>false
def bM4:XV->Bool
 |.d t _=>nW t
 |.agg _=>false
 |_=>true
theorem aSy[YL]:∀{v:XV},bM4 v=true->v.fc=[v.er]
 |.d .b _,_=>rfl
 |.d (.i _) _,_=>rfl
 |.d .s _,_=>rfl
 |.d (.sl _) _,_=>rfl
 |.d .u _,h=>by cases h
 |.d (.p _ _) _,h=>by cases h
 |.d (.w _) _,h=>by cases h
 |.d (.ar _ _) _,h=>by cases h
 |.d (.o _) _,_=>rfl
 |.any,_=>rfl
 |.un,_=>rfl
 |.ab,_=>rfl
 |.ptr _ _,_=>rfl
 |.ept _ _ _ _,_=>rfl
 |.apt _ _,_=>rfl
 |.pa _ _ _,_=>rfl
 |.rpt _ _,_=>rfl
 |.rpa _ _ _,_=>rfl
 |.rsl _ _ _ _,_=>rfl
 |.epa _ _ _ _ _,_=>rfl
 |.mref _,_=>rfl
 |.itr _ _,_=>rfl
 |.rop _ _ _,_=>rfl
 |.fl _ _,_=>rfl
 |.fln _,_=>rfl
 |.nl _,_=>rfl
 |.sl _ _ _ _,_=>rfl
 |.asl _ _ _,_=>rfl
 |.slw _ _ _,_=>rfl
 |.sc,_=>rfl
 |.agg _,h=>by cases h
 |.tup _,_=>rfl
 |.clo _ _,_=>rfl
 |.c _,_=>rfl
 |.yld,_=>rfl
 |.gst _,_=>rfl
def aOw:List XV->Nat->(XV->Option R)->Option R
 |[],_,_=>none
 |v::r,off,K=>match bM4 v with
  |true=>match off with
   |0=>K v
   |off+1=>aOw r off K
  |false=>match v with
   |.d (.ar n k) x=>match Nat.blt off n with
    |true=>aZ x.l (off:Int) fun c=>K (.d (.i k) c)
    |false=>aOw r (off-n) K
   |_=>none
theorem yD[YL]{r:R}{K:XV->Option R}:∀{cs:List XV} {off:Nat},aOw cs off K=some r->∃v,(XV.fcL cs)[off]?=some v.er/\K v=some r
 |[],_,h=>by cases h
 |v::cs,off,h=>by
  unfold aOw at h;show∃u:XV,(v.fc++XV.fcL cs)[off]?=some u.er/\_;split at h
  ·rename_i h1;rw[aSy h1];split at h
   ·exact⟨v,rfl,h⟩
   ·rename_i off;obtain⟨u,e,hu⟩:=yD h;exact⟨u,by simpa using e,hu⟩
  ·split at h
   ·rename_i n k x _;have hl:(((Ty.ar n k).ds x).map AV.D).length=n:=by rw[μ,Ty.ds_len];rfl
    split at h
    ·rename_i hb;rw[la]at hb;obtain⟨c,_,hc,h⟩:=aQa h;refine⟨.d (.i k) c,?_,h⟩;show(((Ty.ar n k).ds x).map AV.D++XV.fcL cs)[off]?=_;rw[List.getElem?_append_left (by omega)];show((x.l.map (DV.I k)).map AV.D)[off]?=_;rw[Int.toNat_natCast]at hc;rw[az,az,hc];rfl
    ·rename_i hb;have hb:¬off<n:=fun h=>by rw[<-la]at h;rw[h]at hb;cases hb
     obtain⟨u,e,hu⟩:=yD h;refine⟨u,?_,hu⟩;show(((Ty.ar n k).ds x).map AV.D++XV.fcL cs)[off]?=_;rw[bz (by omega),hl];exact e
   ·cases h
end
section
variable{R:Type}
theorem aGu[YL]:∀(v:XV),v.fc.length=v.sz
 |.d t x=>by show((t.ds x).map AV.D).length=t.n;rw[μ,Ty.ds_len]
 |.agg cs=>aL3 _ _ cs
 |.any=>rfl
 |.un=>rfl
 |.ab=>rfl
 |.ptr _ _=>rfl
 |.ept _ _ _ _=>rfl
 |.apt _ _=>rfl
 |.pa _ _ _=>rfl
 |.rpt _ _=>rfl
 |.rpa _ _ _=>rfl
 |.rsl _ _ _ _=>rfl
 |.epa _ _ _ _ _=>rfl
 |.mref _=>rfl
 |.itr _ _=>rfl
 |.rop _ _ _=>rfl
 |.fl _ _=>rfl
 |.fln _=>rfl
 |.nl _=>rfl
 |.sl _ _ _ _=>rfl
 |.asl _ _ _=>rfl
 |.slw _ _ _=>rfl
 |.sc=>rfl
 |.tup _=>rfl
 |.clo _ _=>rfl
 |.c _=>rfl
 |.yld=>rfl
 |.gst _=>rfl
def skp:List XV->Nat->Option (List XV)
 |cs,0=>some cs
 |[],_+1=>none
 |v::r,n+1=>match Nat.ble v.sz (n+1)with
  |true=>skp r (n+1-v.sz)
  |false=>none
def tk:List XV->Nat->Option (List XV)
 |_,0=>some []
 |[],_+1=>none
 |v::r,n+1=>match Nat.ble v.sz (n+1)with
  |true=>match tk r (n+1-v.sz)with
   |some l=>some (v::l)
   |none=>none
  |false=>none
theorem aSg[YL]:∀{cs:List XV} {n:Nat} {l:List XV},skp cs n=some l->XV.fcL l=(XV.fcL cs).drop n/\n<=(XV.fcL cs).length
 |cs,0,l,h=>by
  have h:some cs=some l:=by cases cs<;>exact h
  cases h;exact⟨rfl,di _⟩
 |[],n+1,l,h=>by cases h
 |v::r,n+1,l,h=>by
  unfold skp at h;split at h
  ·rename_i hb;have hb:=fg hb;obtain⟨h1,h2⟩:=aSg h;show XV.fcL l=(v.fc++XV.fcL r).drop (n+1)/\n+1<=(v.fc++XV.fcL r).length;have hl:=aGu v;constructor
   ·rw[h1,ji,eg (as:=v.fc) (by omega),cg,hl]
   ·rw[κ];omega
  ·cases h
theorem bBa[YL]:∀{cs:List XV} {n:Nat} {l:List XV},tk cs n=some l->XV.fcL l=(XV.fcL cs).take n/\n<=(XV.fcL cs).length
 |cs,0,l,h=>by
  have h:some []=some l:=by cases cs<;>exact h
  cases h;exact⟨by rw[List.take_zero];rfl,di _⟩
 |[],n+1,l,h=>by cases h
 |v::r,n+1,l,h=>by
  unfold tk at h;split at h
  ·rename_i hb;have hb:=fg hb;split at h
   ·rename_i l' hl';cases h;obtain⟨h1,h2⟩:=bBa hl';show v.fc++XV.fcL l'=(v.fc++XV.fcL r).take (n+1)/\n+1<=(v.fc++XV.fcL r).length;have hl:=aGu v;constructor
    ·rw[h1,List.take_append,bc (l:=v.fc) (by omega),hl]
    ·rw[κ];omega
   ·cases h
  ·cases h
def aOo(cs:List XV)(off n:Nat):Option (List XV):=match skp cs off with
 |some l=>tk l n
 |none=>none
theorem aLx[YL]{n:Nat}(h:aOo cs off n=some l):off+n<=(XV.fcL cs).length/\XV.fcL l=((XV.fcL cs).drop off).take n:=by
 unfold aOo at h;split at h
 ·rename_i l' hl';obtain⟨h1,h2⟩:=aSg hl';obtain⟨h3,h4⟩:=bBa h;rw[h1,aq]at h4;rw[h1]at h3;exact⟨by omega,h3⟩
 ·cases h
def aMv(cs:List XV)(off:Nat)(ys:List XV)(sz:Nat):Option (List XV):=match tk cs off,skp cs (off+sz)with
 |some a,some c=>some (a++(ys++c))
 |_,_=>none
theorem uN[YL]{ys:List XV}{sz:Nat}(h:aMv cs off ys sz=some l):off+sz<=(XV.fcL cs).length/\XV.fcL l=(XV.fcL cs).take off++XV.fcL ys++(XV.fcL cs).drop (off+sz):=by
 unfold aMv at h;split at h
 ·rename_i a c ha hc;cases h;obtain⟨h1,_⟩:=bBa ha;obtain⟨h2,h3⟩:=aSg hc;exact⟨h3,by rw[oH,oH,h1,h2,υ]⟩
 ·cases h
def bKf:XV->Bool
 |.any=>false
 |.agg _=>false
 |.tup _=>false
 |.un=>false
 |.ab=>true
 |.c v=>v.oneCell'
 |.yld=>false
 |.gst _=>false
 |_=>true
theorem aA7:∀(a c:List AV),AV.allOne (a++c)=(AV.allOne a&&AV.allOne c)
 |[],c=>rfl
 |x::a,c=>by show(AV.one x&&AV.allOne (a++c))=(AV.one x&&AV.allOne a&&AV.allOne c);rw[aA7 a c,Bool.and_assoc]
theorem sU:∀(t:Ty) (x:t.T),AV.allOne ((t.ds x).map .D)=true
 |.u,_=>rfl
 |.b,_=>rfl
 |.i _,_=>rfl
 |.s,_=>rfl
 |.p a c,v=>by
  show AV.allOne ((a.ds v.1++c.ds v.2).map .D)=true;rw[bn,aA7,sU a,sU c];rfl
 |.w a,v=>sU a v
 |.ar n k,v=>by
  show AV.allOne ((v.l.map (DV.I k)).map .D)=true;generalize v.l=l
  induction l with
  |nil=>rfl
  |cons x l ih=>exact ih
 |.sl t,v=>rfl
 |.o _,_=>rfl
theorem aUw[YL]:∀{v:XV},bKf v=true->AV.allOne v.fc=true
 |.d t x,_=>sU t x
 |.any,h=>by cases h
 |.agg _,h=>by cases h
 |.tup _,h=>by cases h
 |.un,h=>by cases h
 |.ab,_=>rfl
 |.c v,h=>by show(AV.one (.D (.C v))&&true)=true;rw[gq];exact h
 |.yld,h=>by cases h
 |.gst _,h=>by cases h
 |.ptr _ _,_=>rfl
 |.ept _ _ _ _,_=>rfl
 |.apt _ _,_=>rfl
 |.pa _ _ _,_=>rfl
 |.rpt _ _,_=>rfl
 |.rpa _ _ _,_=>rfl
 |.rsl _ _ _ _,_=>rfl
 |.epa _ _ _ _ _,_=>rfl
 |.mref _,_=>rfl
 |.itr _ _,_=>rfl
 |.rop _ _ _,_=>rfl
 |.fl _ _,_=>rfl
 |.fln _,_=>rfl
 |.nl _,_=>rfl
 |.sl _ _ _ _,_=>rfl
 |.asl _ _ _,_=>rfl
 |.slw _ _ _,_=>rfl
 |.sc,_=>rfl
 |.clo _ _,_=>rfl
def bFi:List XV->Bool
 |[]=>true
 |v::r=>bKf v&&bFi r
theorem aVm[YL]:∀{cs:List XV},bFi cs=true->AV.allOne (XV.fcL cs)=true
 |[],_=>rfl
 |v::r,h=>by unfold bFi at h;rw[ν]at h;show AV.allOne (v.fc++XV.fcL r)=true;rw[aA7,aUw h.1,aVm h.2];rfl
def sS:XV->Option (List XV)
 |.agg cs=>if bFi cs=true then some cs else none
 |.d (.ar n k) x=>some [.d (.ar n k) x]
 |.d t x=>if nW t=true then some [.d t x]else none
 |v=>if bKf v=true then some [v]else none
theorem bCd{a:AV}(h:AV.allOne [a]=true):a.cells?=some [a]:=by
 have h1:AV.one a=true:=by have:(AV.one a&&true)=true:=h;rwa[gq]at this
 unfold AV.cells?;split
 ·cases h1
 ·rw[if_pos h1]
theorem nY[YL](h:sS v=some cs):v.er.cells?=some (XV.fcL cs):=by
 unfold sS at h;split at h
 ·rename_i l;rw[ζ]at h;obtain⟨h1,h⟩:=h;cases h;show(if AV.allOne (XV.fcL cs)=true then some (XV.fcL cs)else none)=_;rw[if_pos (aVm h1)]
 ·rename_i n k x;cases h;show(if AV.allOne (((Ty.ar n k).ds x).map AV.D)=true then some (((Ty.ar n k).ds x).map AV.D)else none)=some (((Ty.ar n k).ds x).map AV.D++[]);rw[if_pos (sU _ _),χ]
 ·rename_i t x _;rw[ζ]at h;obtain⟨h1,h⟩:=h;cases h;have e:=aSy (v:=.d t x) h1;show _=some ((XV.d t x).fc++[]);rw[χ,e];exact bCd (by rw[<-e];exact sU t x)
 ·rename_i h2 _ h3;rw[ζ]at h;obtain⟨h1,h⟩:=h;cases h;have e:v.fc=[v.er]:=aSy (by
   cases v with
   |d t x=>exact absurd rfl (h3 t x)
   |agg cs=>exact absurd rfl (h2 cs)
   |_=>rfl)
  show _=some (v.fc++[]);rw[χ,e];exact bCd (by rw[<-e];exact aUw h1)
end
section
variable{R:Type}
def Hd.eqb:Hd->Hd->Bool
 |.B i,.B j=>bb i j
 |.O i,.O j=>bb i j
 |_,_=>false
theorem Hd.eqb_iff:∀{a c:Hd},a.eqb c=true↔a=c
 |.B i,.B j=>by simp[Hd.eqb,gm]
 |.O i,.O j=>by simp[Hd.eqb,gm]
 |.B _,.O _=>by simp[Hd.eqb]
 |.O _,.B _=>by simp[Hd.eqb]
def hin(h:Hd):List Hd->Bool
 |[]=>false
 |x::r=>h.eqb x||hin h r
theorem uE{h:Hd}:∀{l:List Hd},hin h l=true↔h∈l
 |[]=>by simp[hin]
 |x::r=>by simp[hin,Hd.eqb_iff,uE (l:=r)]
def XB.frz:XB->XB
 |.row _ t xs=>.row false t xs
 |.arr _ n k x=>.arr false n k x
 |.rb _ t x=>.rb false t x
 |b=>b
theorem bBo[YL]:∀(b:XB),b.frz.er=b.er.frz
 |.row _ _ _=>rfl
 |.arr _ _ _ _=>rfl
 |.rb _ _ _=>rfl
 |.box _=>rfl
 |.mp _ _ _ _ _ _=>rfl
 |.it=>rfl
 |.sb _ _ _=>rfl
def yK(mk:Nat->Hd)(fz:List Hd):Nat->List (Option XB)->List (Option XB)
 |_,[]=>[]
 |i,b::r=>(match hin (mk i) fz with|true=>b.map XB.frz|false=>b)::yK mk fz (i+1) r
theorem aIt(mk:Nat->Hd)(fz:List Hd):∀(l:List (Option XB)) (n i:Nat),bG (yK mk fz n l) i=if mk (n+i)∈fz then(bG l i).map XB.frz else bG l i
 |[],n,i=>by simp[yK,bG]
 |b::r,n,0=>by
  show(match hin (mk n) fz with|true=>b.map XB.frz|false=>b)=_;rw[Nat.add_zero];cases hq:hin (mk n) fz with
  |true=>rw[if_pos (uE.1 hq)];rfl
  |false=>rw[if_neg (fun h=>by rw[uE.2 h]at hq;cases hq)];rfl
 |b::r,n,i+1=>by show bG (yK mk fz (n+1) r) i=_;rw[aIt mk fz r (n+1) i,show n+1+i=n+(i+1) by omega];rfl
theorem wY(mk:Nat->Hd)(fz:List Hd):∀(l:List (Option XB)) (n:Nat),(yK mk fz n l).length=l.length
 |[],_=>rfl
 |b::r,n=>by show(yK mk fz (n+1) r).length+1=r.length+1;rw[wY mk fz r]
theorem aGl:∀(a c:List (Option XB)) (i:Nat),bG (a++c) i=if i<a.length then bG a i else bG c (i-a.length)
 |[],c,i=>by simp
 |x::a,c,0=>by simp[bG]
 |x::a,c,i+1=>by show bG (a++c) i=_;rw[aGl a c i];simp only[List.length_cons,Nat.add_lt_add_iff_right,Nat.add_sub_add_right];rfl
theorem zA:∀(l:List XB) (i:Nat),bG (l.map some) i=l[i]?
 |[],_=>rfl
 |x::l,0=>rfl
 |x::l,i+1=>by show bG (l.map some) i=_;rw[zA l i];simp
theorem aFv:∀(l:List (Option XB)) (i:Nat),l.length<=i->bG l i=none
 |[],_,_=>rfl
 |x::l,0,h=>by simp at h
 |x::l,i+1,h=>aFv l i (by simpa using h)
def XS.put(s:XS)(dst:Option Nat)(v:XV)(nbs:List XB)(fz:List Hd):XS:=
 {env:=match dst with
   |some d=>(d,v)::s.env
   |none=>s.env
  bs:=match fz with
   |[]=>s.bs
   |fz=>yK .B fz 0 s.bs
  own:=(match fz with
   |[]=>s.own
   |fz=>yK .O fz 0 s.own)++nbs.map some}
theorem AState.ext'{s s':AState}(h1:∀i,s.env i=s'.env i)(h2:∀i,s.bs i=s'.bs i)(h3:∀i,s.own i=s'.own i)(h4:s.nx=s'.nx):s=s':=by obtain⟨a,c,d,e⟩:=s;obtain⟨a',c',d',e'⟩:=s';obtain rfl:a=a':=funext h1;obtain rfl:c=c':=funext h2;obtain rfl:d=d':=funext h3;obtain rfl:e=e':=h4;rfl
theorem cY[YL](s:XS)(dst:Option Nat)(v:XV)(nbs:List XB)(fz:List Hd):(s.put dst v nbs fz).er=s.er.put dst v.er (nbs.map XB.er) fz:=by
 have hlen:(match fz with|[]=>s.own|fz=>yK .O fz 0 s.own).length=s.own.length:=by
  cases fz with
  |nil=>rfl
  |cons x r=>exact wY _ _ _ _
 refine AState.ext' (fun i=>?_) (fun i=>?_) (fun i=>?_) ?_
 ·show(cP _ i).er=cF s.er.env dst v.er i;cases dst with
  |none=>rfl
  |some d=>
   show(if bb i d=true then v else cP s.env i).er=if i=d then v.er else(cP s.env i).er
   by_cases h:i=d
   ·rw[if_pos h,if_pos (by rw[gm];exact h)]
   ·rw[if_neg h,if_neg (by rw[gm];exact h)]
 ·show(bG _ i).map XB.er=bFf s.er.bs fz i;cases fz with
  |nil=>rfl
  |cons x r=>
   show(bG (yK .B (x::r) 0 s.bs) i).map XB.er=if Hd.B i∈x::r then((bG s.bs i).map XB.er).map Blk.frz else(bG s.bs i).map XB.er
   rw[aIt,Nat.zero_add];split
   ·rw[kx,kx];congr 1;funext b;exact bBo b
   ·rfl
 ·show(bG (_++nbs.map some) i).map XB.er=rQ (aPk s.er.own fz) s.own.length (nbs.map XB.er) i;rw[sE,aGl,hlen,μ];by_cases h1:i<s.own.length
  ·rw[if_pos h1,if_neg (by omega)];cases fz with
   |nil=>rfl
   |cons x r=>
    show(bG (yK .O (x::r) 0 s.own) i).map XB.er=if Hd.O i∈x::r then((bG s.own i).map XB.er).map Blk.frz else(bG s.own i).map XB.er
    rw[aIt,Nat.zero_add];split
    ·rw[kx,kx];congr 1;funext b;exact bBo b
    ·rfl
  ·rw[if_neg h1,zA];by_cases h2:i<s.own.length+nbs.length
   ·rw[if_pos ⟨by omega,h2⟩,az]
   ·rw[if_neg (by omega),db (by omega)];have:bG s.own i=none:=aFv _ _ (by omega);have e:s.er.own i=none:=by show(bG s.own i).map XB.er=none;rw[this];rfl
    show none=aPk s.er.own fz i;unfold aPk;cases fz with
    |nil=>exact e.symm
    |cons x r=>simp[e]
 ·cases fz with
  |nil=>
   show(s.own++nbs.map some).length=s.own.length+(nbs.map XB.er).length;rw[κ,μ,μ]
  |cons x r=>
   show(yK .O (x::r) 0 s.own++nbs.map some).length=s.own.length+(nbs.map XB.er).length;rw[κ,wY,μ,μ]
def XS.setBlk(s:XS)(h:Hd)(b:Option XB):XS:=match h with
 |.B i=>{s with bs:=xL s.bs i b}
 |.O i=>{s with own:=xL s.own i b}
theorem qM:∀(l:List (Option XB)) (i:Nat) (b:Option XB) (j:Nat),i<l.length->bG (xL l i b) j=if j=i then b else bG l j
 |[],i,b,j,h=>by simp at h
 |x::l,0,b,0,_=>rfl
 |x::l,0,b,j+1,_=>by simp[xL,bG]
 |x::l,i+1,b,0,_=>by simp[xL,bG]
 |x::l,i+1,b,j+1,h=>by show bG (xL l i b) j=_;rw[qM l i b j (by simpa using h)];simp only[Nat.add_right_cancel_iff];rfl
theorem wH:∀(l:List (Option XB)) (i:Nat) (b:Option XB),(xL l i b).length=l.length
 |[],_,_=>rfl
 |_::_,0,_=>rfl
 |x::l,i+1,b=>by show(xL l i b).length+1=_;rw[wH l i b];rfl
theorem sA:∀{l:List (Option XB)} {i:Nat} {b:XB},bG l i=some b->i<l.length
 |[],_,_,h=>by cases h
 |_::_,0,_,_=>Nat.succ_pos _
 |_::l,i+1,_,h=>Nat.succ_lt_succ (sA (l:=l) h)
theorem cA[YL]{s:XS}{b0:XB}(hl:s.lk h=some b0)(b:Option XB):(s.setBlk h b).er=s.er.setBlk h (b.map XB.er):=by
 cases h with
 |B i=>
  have hi:=sA (l:=s.bs) hl;refine AState.ext' (fun _=>rfl) (fun j=>?_) (fun _=>rfl) rfl;show(bG (xL s.bs i b) j).map XB.er=if j=i then b.map XB.er else(bG s.bs j).map XB.er
  rw[qM _ _ _ _ hi];split<;>rfl
 |O i=>
  have hi:=sA (l:=s.own) hl;refine AState.ext' (fun _=>rfl) (fun _=>rfl) (fun j=>?_) (wH _ _ _);show(bG (xL s.own i b) j).map XB.er=if j=i then b.map XB.er else(bG s.own j).map XB.er
  rw[qM _ _ _ _ hi];split<;>rfl
theorem bM7[YL](s:XS)(x:Operand):(s.ev x).er=s.er.ev x:=by
 cases x with
 |tmp t=>rfl
 |const v=>exact aWh v
 |func f=>rfl
 |global g=>
  show(match glT g with
   |some (k,l)=>XV.rop (.ar l.length k) ⟨l,rfl⟩ 0
   |none=>.any).er=(match aJd g with
   |some ds=>AV.rop ds
   |none=>.any)
  rw[bHs];cases glT g<;>rfl
def noG:Operand->Bool
 |_=>true
theorem aDz[YL](s:XS){x:Operand}(_:noG x=true):s.er.ev x=(s.ev x).er:=(bM7 s x).symm
end
section
variable{R:Type}
def gn?{α β:Type}(xs:List α)(i:Nat)(f:α->Option β):Option β:=match xs[i]?with
 |some x=>f x
 |none=>none
theorem aQy{α β:Type}{xs:List α}{f:α->Option β}{r:β}(h:gn? xs i f=some r):∃x,xs[i]?=some x/\f x=some r:=by
 unfold gn? at h;split at h
 ·exact⟨_,‹_›,h⟩
 ·cases h
def bDe(K:XV->Option R):Option (List XV)->Option R
 |some l=>K (.agg l)
 |none=>none
def aRu(ag:Option Nat)(cs:List XV)(off:Nat)(K:XV->Option R):Option R:=match ag with
 |none=>aOw cs off K
 |some n=>bDe K (aOo cs off n)
theorem aA8[YL]{K:XV->Option R}{r:R}(h:aRu ag cs off K=some r):
  ∃v,K v=some r/\match ag with
   |none=>(XV.fcL cs)[off]?=some v.er
   |some n=>off+n<=(XV.fcL cs).length/\v.er=.agg (((XV.fcL cs).drop off).take n):=by
 unfold aRu at h;cases ag with
 |none=>
  obtain⟨v,h1,h2⟩:=yD h;exact⟨v,h2,h1⟩
 |some n=>
  have h:bDe K (aOo cs off n)=some r:=h;cases hc:aOo cs off n with
  |none=>rw[hc]at h;cases h
  |some l=>
   rw[hc]at h;obtain⟨h1,h2⟩:=aLx hc;exact⟨.agg l,h,h1,by show AV.agg (XV.fcL l)=_;rw[h2]⟩
def bG8(k:IntKind)(K:XV->Option R){n:Nat}(x:Arr n):Option Nat->Nat->Option R
 |none,off=>gn? x.l off fun c=>K (.d (.i k) c)
 |some m,0=>match bb m n with
  |true=>K (.d (.ar n k) x)
  |false=>none
 |_,_=>none
def bJm(ag:Option Nat)(off:Nat)(K:XV->Option R):(t:Ty)->t.T->Option R
 |.ar _ k,x=>bG8 k K x ag off
 |t,x=>aRu ag (lvs t x) off K
structure ArL where
 n:Nat
 k:IntKind
 x:Arr n
def aAs:List XV->Nat->Option ArL
 |[],_=>none
 |v::r,0=>match v with
  |.d (.ar n k) x=>some ⟨n,k,x⟩
  |_=>none
 |v::r,off+1=>match Nat.ble v.sz (off+1)with
  |true=>aAs r (off+1-v.sz)
  |false=>none
theorem aBi[YL]:∀{cs:List XV} {off:Nat} {a:ArL},aAs cs off=some a->((XV.fcL cs).drop off).take a.n=(a.x.l.map (DV.I a.k)).map .D/\off+a.n<=(XV.fcL cs).length
 |[],_,_,h=>by cases h
 |v::r,0,a,h=>by
  unfold aAs at h;show((v.fc++XV.fcL r).drop 0).take a.n=_/\0+a.n<=(v.fc++XV.fcL r).length;split at h
  ·rename_i n k x;cases h;have hl:(XV.d (.ar n k) x).fc.length=n:=aGu _;rw[κ,hl];refine⟨?_,by show 0+n<=_;omega⟩;rw[cc];show((XV.d (.ar n k) x).fc++XV.fcL r).take n=_;rw[List.take_append_of_le_length (by omega),bc (by omega)];rfl
  ·cases h
 |v::r,off+1,a,h=>by
  unfold aAs at h;show((v.fc++XV.fcL r).drop (off+1)).take a.n=_/\off+1+a.n<=(v.fc++XV.fcL r).length;split at h
  ·rename_i hb;have hb:=fg hb;obtain⟨h1,h2⟩:=aBi h;have hl:=aGu v;rw[κ];refine⟨?_,by omega⟩;rw[ji,eg (as:=v.fc) (by omega),cg,hl];exact h1
  ·cases h
theorem aX4[YL]{a:ArL}(h:aAs cs off=some a){j:Nat}{c:Int}(hc:a.x.l[j]?=some c):(XV.fcL cs)[off+j]?=some (.D (.I a.k c)):=by obtain⟨h1,h2⟩:=aBi h;have hlt:=(aw.1 hc).1;rw[a.x.len]at hlt;have:=congrArg (fun l=>l[j]?) h1;simp only[List.getElem?_take_of_lt hlt,List.getElem?_drop,az,hc]at this;exact this
def bBc(cs:List XV)(off j:Nat)(K:XV->Option R):Option R:=match aAs cs off with
 |some a=>gn? a.x.l j fun c=>K (.d (.i a.k) c)
 |none=>aOw cs (off+j) K
theorem aMh[YL]{j:Nat}{K:XV->Option R}{r:R}(h:bBc cs off j K=some r):∃v,(XV.fcL cs)[off+j]?=some v.er/\K v=some r:=by
 unfold bBc at h;split at h
 ·rename_i a ha;obtain⟨c,hc,h⟩:=aQy h;exact⟨.d (.i a.k) c,aX4 ha hc,h⟩
 ·exact yD h
def aVb(s:XS)(ag:Option Nat)(K:XV->Option R):XV->Option R
 |.ptr h off=>match s.lk h with
  |some (.box cs)=>aRu ag cs off K
  |_=>none
 |.ept h t ix off=>match s.lk h with
  |some (.row _ t' xs)=>match t'.beq t with
   |true=>gn? xs ix fun x=>match ag with
    |none=>aOw (lvs t' x) off K
    |some n=>match bb t'.n 1 with
     |true=>match bb n 1&&bb off 0 with
      |true=>K (.agg (lvs t' x))
      |false=>none
     |false=>bDe K (aOo (lvs t' x) off n)
   |false=>none
  |_=>none
 |.apt h ix=>match s.lk h with
  |some (.arr _ n k x)=>match ag with
   |none=>gn? x.l ix fun c=>K (.d (.i k) c)
   |some m=>match ix,bb m n&&Nat.blt 0 n with
    |0,true=>K (.d (.ar n k) x)
    |ix,_=>gd? (ix+m<=n) (gd? (0<m) (K (.d (.ar m k) (x.part ix m))))
  |_=>none
 |.pa h off j=>match s.lk h,ag with
  |some (.box cs),none=>bBc cs off j K
  |_,_=>none
 |.epa h t ix off j=>match s.lk h,ag with
  |some (.row _ t' xs),none=>match t'.beq t with
   |true=>gn? xs ix fun x=>bBc (lvs t' x) off j K
   |false=>none
  |_,_=>none
 |.rpt h off=>match s.lk h with
  |some (.rb _ t x)=>match ag with
   |none=>aOw (lvs t x) off K
   |some n=>match Nat.blt 0 n with
    |true=>bDe K (aOo (lvs t x) off n)
    |false=>none
  |_=>none
 |.rpa h off j=>match s.lk h,ag with
  |some (.rb _ t x),none=>bBc (lvs t x) off j K
  |_,_=>none
 |.rop t x off=>bJm ag off K t x
 |_=>none
theorem aFq{l:List DV}{d:DV}(h:l[i]?=some d):(sgD l)[i]?=some [d]:=by unfold sgD;rw[az,h];rfl
theorem aGs:∀l:List DV,(sgD l).flatten=l
 |[]=>rfl
 |x::l=>by show[x]++(sgD l).flatten=_;rw[aGs l];rfl
theorem aM6(l:List DV)(a n:Nat):((sgD l).drop a).take n=sgD ((l.drop a).take n):=by unfold sgD;rw[br,b6]
theorem yF(l:List DV):(sgD l).length=l.length:=μ _
theorem tX{l:List DV}{v:AV}(h:(l.map AV.D)[i]?=some v):∃x,l[i]?=some x/\v=.D x:=by
 rw[az]at h;cases hx:l[i]?with
 |none=>rw[hx]at h;cases h
 |some x=>rw[hx]at h;cases h;exact⟨x,rfl,rfl⟩
theorem aCi(k:IntKind):∀l:List Int,(l.map (arD k)).flatten=l.map (DV.I k)
 |[]=>rfl
 |x::l=>by show[DV.I k x]++(l.map (arD k)).flatten=_;rw[aCi k l];rfl
def bFl(ag:Option Nat)(off:Nat)(l:List AV)(v:AV):Prop:=match ag with
 |none=>l[off]?=some v
 |some n=>off+n<=l.length/\v=.agg ((l.drop off).take n)
theorem bBn[YL]{K:XV->Option R}{n:Nat}{x:Arr n}{r:R}:∀{ag:Option Nat} {off:Nat},bG8 k K x ag off=some r->∃v,K v=some r/\bFl ag off ((x.l.map (DV.I k)).map AV.D) v.er
 |none,off,h=>by
  obtain⟨c,hc,h⟩:=aQy h;exact⟨_,h,by show((x.l.map (DV.I k)).map AV.D)[off]?=_;rw[az,az,hc];rfl⟩
 |some m,0,h=>by
  have h:(match bb m n with
   |true=>K (.d (.ar n k) x)
   |false=>none)=some r:=h
  split at h
  ·rename_i hb;obtain rfl:=ι hb;have hl:((x.l.map (DV.I k)).map AV.D).length=m:=by rw[μ,μ,x.len]
   refine⟨_,h,?_,?_⟩
   ·show 0+m<=((x.l.map (DV.I k)).map AV.D).length;rw[hl];omega
   ·show AV.agg ((x.l.map (DV.I k)).map AV.D)=.agg ((((x.l.map (DV.I k)).map AV.D).drop 0).take m);rw[cc,bc (by omega)]
  ·cases h
 |some m,_+1,h=>by have h:none=some r:=h;cases h
theorem bCw[YL]{K:XV->Option R}{r:R}{x:t.T}(h:bJm ag off K t x=some r):∃v,K v=some r/\bFl ag off ((t.ds x).map AV.D) v.er:=by
 cases t with
 |ar n k=>
  obtain⟨v,h1,h2⟩:=bBn h;exact⟨v,h1,h2⟩
 |_=>
  obtain⟨v,h1,h2⟩:=aA8 h;rw[cX]at h2;exact⟨v,h1,by cases ag<;>exact h2⟩
theorem aHs[YL]{s:XS}{K:XV->Option R}{r:R}(h:aVb s ag K a=some r)(hK:∀v,K v=some r->KP v.er):oW s.er.lk ag KP a.er:=by
 unfold aVb at h;split at h
 ·rename_i hd off;split at h
  ·rename_i cs hl;obtain⟨v,h1,h2⟩:=aA8 h;refine⟨XV.fcL cs,by rw[aT,hl];rfl,?_⟩;cases ag with
   |none=>exact⟨_,h2,hK _ h1⟩
   |some n=>exact⟨h2.1,by rw[<-h2.2];exact hK _ h1⟩
  ·cases h
 ·rename_i hd t ix off;split at h
  ·rename_i mt t' xs hl;split at h
   ·rename_i hb;obtain rfl:=Ty.eq_of hb
    replace h:=aQy h
    obtain⟨x,hx,h⟩:=h;refine⟨mt,xs.map t'.ds,t'.ds x,by rw[aT,hl];rfl,by rw[az,hx];rfl,?_⟩;cases ag with
    |none=>
     obtain⟨v,h1,h2⟩:=yD h;rw[cX]at h1;obtain⟨d,h3,h4⟩:=tX h1;exact⟨d,h3,by rw[<-h4];exact hK _ h2⟩
    |some n=>
     show if t'.n=1 then _ else _
     simp only at h;split at h
     ·rename_i h1;have h1:=ι h1;rw[if_pos h1];split at h
      ·rename_i h2;rw[ν]at h2;obtain rfl:=ι h2.1;obtain rfl:=ι h2.2;have hlt:=(aw.1 hx).1;refine⟨rfl,by rw[μ];omega,?_⟩;have e:(((xs.map t'.ds).drop ix).take 1).flatten=t'.ds x:=by rw[List.take_one,List.head?_drop,az,hx];simp
       rw[e];have:=hK _ h;simp only[XV.er,cX]at this;exact this
      ·cases h
     ·rename_i h1;rw[if_neg (fun e=>by rw[e]at h1;cases h1)];cases hc:aOo (lvs t' x) off n with
      |none=>rw[hc]at h;cases h
      |some l=>
       rw[hc]at h;obtain⟨h2,h3⟩:=aLx hc;rw[cX]at h2 h3;rw[μ]at h2;refine⟨h2,?_⟩;have:=hK _ h;simp only[XV.er,h3]at this;rw[br,b6];exact this
   ·cases h
  ·cases h
 ·rename_i hd ix;split at h
  ·rename_i mt n k x hl;cases ag with
   |none=>
    obtain⟨c,hc,h⟩:=aQy h;exact⟨mt,x.l.map (arD k),arD k c,by rw[aT,hl];rfl,by rw[az,hc];rfl,.I k c,rfl,hK _ h⟩
   |some m=>
    simp only at h;split at h
    ·rename_i hb;rw[ν,la]at hb;obtain rfl:=ι hb.1;have hlen:=x.len;obtain⟨c,hc⟩:∃c,x.l[0]?=some c:=⟨x.l[0]'(by omega),ε (by omega)⟩;refine⟨mt,x.l.map (arD k),arD k c,by rw[aT,hl];rfl,by rw[az,hc];rfl,?_⟩;show if 1=1 then _ else _
     rw[if_pos rfl];refine⟨rfl,by rw[μ];omega,?_⟩;rw[cc,bc (by rw[μ];omega),aCi];exact hK _ h
    ·rename_i ix _ _ _;obtain⟨h1,h⟩:=aX h;obtain⟨h2,h⟩:=aX h;have hlen:=x.len;obtain⟨c,hc⟩:∃c,x.l[ix]?=some c:=⟨x.l[ix]'(by omega),ε (by omega)⟩;refine⟨mt,x.l.map (arD k),arD k c,by rw[aT,hl];rfl,by rw[az,hc];rfl,?_⟩;show if 1=1 then _ else _
     rw[if_pos rfl];refine⟨rfl,by rw[μ];omega,?_⟩;rw[<-b6,<-br,aCi,<-Arr.l_part h1];exact hK _ h
  ·cases h
 ·rename_i hd off j;split at h
  ·rename_i cs hl;obtain⟨v,h1,h2⟩:=aMh h;exact⟨XV.fcL cs,by rw[aT,hl];rfl,_,h1,hK _ h2⟩
  ·cases h
 ·rename_i hd t ix off j;split at h
  ·rename_i mt t' xs hl;split at h
   ·rename_i hb;obtain rfl:=Ty.eq_of hb;obtain⟨x,hx,h⟩:=aQy h;obtain⟨v,h1,h2⟩:=aMh h;rw[cX]at h1;obtain⟨d,h3,h4⟩:=tX h1;exact⟨mt,xs.map t'.ds,t'.ds x,by rw[aT,hl];rfl,by rw[az,hx];rfl,d,h3,by rw[<-h4];exact hK _ h2⟩
   ·cases h
  ·cases h
 ·rename_i hd off;split at h
  ·rename_i mt t x hl;cases ag with
   |none=>
    obtain⟨v,h1,h2⟩:=yD h;rw[cX]at h1;obtain⟨d,h3,h4⟩:=tX h1;exact⟨mt,sgD (t.ds x),[d],by rw[aT,hl];rfl,aFq h3,d,rfl,by rw[<-h4];exact hK _ h2⟩
   |some n=>
    simp only at h;split at h
    rotate_left
    ·cases h
    rename_i h0;have h0:=fg h0;cases hc:aOo (lvs t x) off n with
    |none=>rw[hc]at h;cases h
    |some l=>
     rw[hc]at h;obtain⟨h2,h3⟩:=aLx hc;rw[cX]at h2 h3;rw[μ]at h2
     ·have hlt:off<(t.ds x).length:=by omega
      refine⟨mt,sgD (t.ds x),[(t.ds x)[off]],by rw[aT,hl];rfl,aFq (ε hlt),?_⟩;show if(1:Nat)=1 then _ else _
      rw[if_pos rfl];refine⟨rfl,by rw[yF];omega,?_⟩;rw[aM6,aGs];have:=hK _ h;simp only[XV.er,h3]at this;rw[br,b6];exact this
  ·cases h
 ·rename_i hd off j;split at h
  ·rename_i mt t x hl;obtain⟨v,h1,h2⟩:=aMh h;rw[cX]at h1;obtain⟨d,h3,h4⟩:=tX h1;exact⟨mt,sgD (t.ds x),[d],by rw[aT,hl];rfl,aFq h3,d,rfl,by rw[<-h4];exact hK _ h2⟩
  ·cases h
 ·rename_i t x off;obtain⟨v,h1,h2⟩:=bCw h;simp only[XV.er];cases ag with
  |none=>
   obtain⟨d,h3,h4⟩:=tX h2;exact⟨d,by rw[<-h3];simp,by rw[<-h4];exact hK _ h1⟩
  |some n=>
   obtain⟨h3,h4⟩:=h2;rw[μ]at h3;refine⟨by rw[aq];omega,?_⟩;rw[br,b6,<-h4];exact hK _ h1
 ·cases h
def qA(s:XS)(x:Option Operand)(dflt:Nat)(K:Nat->Option R):Option R:=match x with
 |none=>K dflt
 |some x=>match noG x with
  |true=>match s.ev x with
   |.d (.i _) n=>gd? (0<=n) (K n.toNat)
   |_=>none
  |false=>none
theorem cV[YL]{s:XS}{x:Option Operand}{d:Nat}{K:Nat->Option R}{KP:Nat->Prop}{r:R}(h:qA s x d K=some r)(hK:∀v,K v=some r->KP v):gE s.er.ev x d KP:=by
 unfold qA at h;split at h
 ·exact hK _ h
 ·rename_i x;split at h
  ·rename_i hx;split at h
   ·rename_i k n hn;obtain⟨h1,h⟩:=aX h;exact⟨k,n,by rw[aDz s hx,hn];rfl,h1,hK _ h⟩
   ·cases h
  ·cases h
def aZi(str:Bool):XV->Option Nat
 |.d (.sl _) xs=>match str with
  |false=>some xs.length
  |true=>none
 |.fl _ xs=>match str with
  |false=>some xs.length
  |true=>none
 |.fln _=>match str with
  |false=>some 0
  |true=>none
 |.nl _=>match str with
  |false=>some 0
  |true=>none
 |.sl _ _ _ len=>match str with
  |false=>some len
  |true=>none
 |.asl _ _ len=>match str with
  |false=>some len
  |true=>none
 |.rsl _ _ _ len=>match str with
  |false=>some len
  |true=>none
 |.slw _ _ len=>match str with
  |false=>some len
  |true=>none
 |.d .s t=>match str with
  |true=>some t.length
  |false=>none
 |_=>none
theorem aNs[YL]{str:Bool}{m:Nat}(h:aZi str v=some m):v.er.len? str=some m:=by
 unfold aZi at h;split at h<;>first|(cases h;done)|(split at h<;>first|(cases h;done)|skip)
 ·cases h;show some (List.length (List.map _ _))=_;rw[μ]
 ·cases h;show some (List.length (List.map _ _))=_;rw[μ]
 ·cases h;rfl
 ·cases h;rfl
 ·cases h;rfl
 ·cases h;rfl
 ·cases h;rfl
 ·cases h;rfl
 ·cases h;rfl
def vN(s:XS):XV->Bool
 |.ptr h _=>(s.lk h).isSome
 |.ept h _ _ _=>(s.lk h).isSome
 |.apt h _=>(s.lk h).isSome
 |.pa h _ _=>(s.lk h).isSome
 |.rpt h _=>(s.lk h).isSome
 |.rpa h _ _=>(s.lk h).isSome
 |.rsl h _ _ _=>(s.lk h).isSome
 |.epa h _ _ _ _=>(s.lk h).isSome
 |.sl h _ _ _=>(s.lk h).isSome
 |.asl h _ _=>(s.lk h).isSome
 |.slw h _ _=>(s.lk h).isSome
 |_=>true
theorem jG[YL]{s:XS}(h:vN s v=true):v.er.live s.er.lk=true:=by
 cases v with
 |d t x=>cases t<;>rfl
 |ptr hd off=>show(s.er.lk hd).isSome=true;rw[aT,ey];exact h
 |ept hd t ix off=>show(s.er.lk hd).isSome=true;rw[aT,ey];exact h
 |pa hd off j=>show(s.er.lk hd).isSome=true;rw[aT,ey];exact h
 |rpt hd off=>show(s.er.lk hd).isSome=true;rw[aT,ey];exact h
 |rpa hd off j=>show(s.er.lk hd).isSome=true;rw[aT,ey];exact h
 |rsl hd off l len=>show(s.er.lk hd).isSome=true;rw[aT,ey];exact h
 |epa hd t ix off j=>show(s.er.lk hd).isSome=true;rw[aT,ey];exact h
 |apt hd ix=>show(s.er.lk hd).isSome=true;rw[aT,ey];exact h
 |sl hd t off len=>show(s.er.lk hd).isSome=true;rw[aT,ey];exact h
 |slw hd t len=>show(s.er.lk hd).isSome=true;rw[aT,ey];exact h
 |asl hd off len=>show(s.er.lk hd).isSome=true;rw[aT,ey];exact h
 |_=>rfl
end
section
variable{R:Type}
def zL(l:List Int)(off len n:Nat):List Int:=match off,bb len n with
 |0,true=>l
 |off,_=>(l.drop off).take len
theorem aF0{l:List Int}{len n:Nat}(hl:l.length=n):zL l off len n=(l.drop off).take len:=by
 unfold zL;split
 ·rename_i hb;have hb:=ι hb;rw[cc,bc (by omega)]
 ·rfl
theorem nJ:∀{a b:List DV},a.map AV.D=b.map AV.D->a=b
 |[],[],_=>rfl
 |[],_::_,h=>by cases h
 |_::_,[],h=>by cases h
 |x::a,y::b,h=>by
  rw[cx,cx]at h;injection h with h1 h2
  injection h1 with h1
  rw[h1,nJ h2]
theorem aFk{x:t.T}{l len:Nat}{a:ArL}(ha:aAs (lvs t x) off=some a)(h:l+len<=a.n):off+l+len<=(sgD (t.ds x)).length/\((sgD (t.ds x)).drop (off+l)).take len=(zL a.x.l l len a.n).map (Ty.i a.k).ds:=by
 obtain⟨h1,h2⟩:=@aBi ⟨0⟩ _ _ _ ha;rw[@cX ⟨0⟩]at h1 h2;rw[μ]at h2;have e:((t.ds x).drop off).take a.n=a.x.l.map (DV.I a.k):=by rw[<-b6,<-br]at h1;exact nJ h1
 have hl:a.x.l.length=a.n:=a.x.len;refine⟨by rw[yF];omega,?_⟩;rw[aM6,aF0 hl];have e2:((t.ds x).drop (off+l)).take len=((a.x.l.drop l).take len).map (DV.I a.k):=by rw[br,b6,<-e,List.drop_take,List.drop_drop,List.take_take,Nat.min_eq_left (by omega)]
 rw[e2];show List.map _ (List.map _ _)=_;rw[List.map_map];rfl
def pK(s:XS)(t:Ty)(v:XV)(K:t.T->Option R):Option R:=match v with
 |.d t' x=>match t'.cst t x with
  |some y=>K y
  |none=>none
 |.fl t' xs=>match(Ty.sl t').cst t xs with
  |some y=>K y
  |none=>none
 |.fln _=>match t,K with
  |.sl _,K=>K []
  |.o _,K=>K []
  |_,_=>none
 |.nl _=>match t,K with
  |.sl _,K=>K []
  |.o _,K=>K []
  |_,_=>none
 |.slw h t' len=>match s.lk h with
  |some (.row _ t2 xs)=>match t2.beq t' with
   |true=>match(Ty.sl t2).cst t xs with
    |some y=>gl? len xs (K y)
    |none=>none
   |false=>none
  |_=>none
 |.sl h t' off len=>match s.lk h with
  |some (.row _ t2 xs)=>match t2.beq t' with
   |true=>match(Ty.sl t2).cst t ((xs.drop off).take len)with
    |some y=>gd? (off+len<=xs.length) (K y)
    |none=>none
   |false=>none
  |_=>none
 |.asl h off len=>match s.lk h with
  |some (.arr _ n k x)=>match(Ty.sl (.i k)).cst t (zL x.l off len n)with
   |some y=>gd? (off+len<=n) (K y)
   |none=>none
  |_=>none
 |.rsl h off l len=>match s.lk h with
  |some (.rb _ t' x)=>match aAs (lvs t' x) off with
   |some a=>match(Ty.sl (.i a.k)).cst t (zL a.x.l l len a.n)with
    |some y=>gd? (l+len<=a.n) (K y)
    |none=>none
   |none=>none
  |_=>none
 |_=>none
theorem xS[YL]{s:XS}(hφ:∀h b,s.lk h=some b->φ h=none){K:t.T->Option R}{r:R}(h:pK s t v K=some r):
  ∃x,K x=some r/\AV.convL s.er.lk φ v.fc=(t.ds x).map .D/\(nW t=true->AV.conv s.er.lk φ v.er=jB t x):=by
 have hc:∀(l:List DV),AV.convL s.er.lk φ (l.map .D)=l.map .D:=fun l=>by
  induction l with
  |nil=>rfl
  |cons x l ih=>show AV.conv _ _ (.D x)::AV.convL _ _ (l.map .D)=_;rw[ih];rfl
 unfold pK at h;split at h
 ·rename_i t' x;split at h
  ·rename_i y hy;obtain⟨e,rfl⟩:=Ty.cst_ok hy;subst e;refine⟨x,h,hc _,fun hl=>?_⟩;cases t'<;>first|rfl|(cases hl;done)
  ·cases h
 ·rename_i t' xs;split at h
  ·rename_i y hy;obtain⟨e,rfl⟩:=Ty.cst_ok hy;subst e;exact⟨xs,h,rfl,fun _=>rfl⟩
  ·cases h
 ·split at h
  ·exact⟨[],h,rfl,fun _=>rfl⟩
  ·exact⟨[],h,rfl,fun _=>rfl⟩
  ·cases h
 ·split at h
  ·exact⟨[],h,rfl,fun _=>rfl⟩
  ·exact⟨[],h,rfl,fun _=>rfl⟩
  ·cases h
 ·rename_i hd t' len;split at h
  ·rename_i mt t2 xs hl;split at h
   ·rename_i hb;obtain rfl:=Ty.eq_of hb;split at h
    ·rename_i y hy;obtain⟨e,rfl⟩:=Ty.cst_ok hy;subst e
     replace h:=aXy h
     obtain⟨rfl,h⟩:=h;have e:AV.conv s.er.lk φ (.sl hd t2.n 0 xs.length)=.D (.L (xs.map t2.ds)):=by unfold AV.conv;rw[hφ _ _ hl,aT,hl];show(if t2.n=t2.n/\0+xs.length<=(xs.map t2.ds).length then AV.D (.L (((xs.map t2.ds).drop 0).take xs.length))else .sc)=_;rw[if_pos ⟨rfl,by rw[μ];omega⟩,cc,bc (by rw[μ];exact ω _)]
     exact⟨xs,h,by show[AV.conv _ _ _]=_;rw[e];rfl,fun _=>e⟩
    ·cases h
   ·cases h
  ·cases h
 ·rename_i hd t' off len;split at h
  ·rename_i mt t2 xs hl;split at h
   ·rename_i hb;obtain rfl:=Ty.eq_of hb;split at h
    ·rename_i y hy;obtain⟨e,rfl⟩:=Ty.cst_ok hy;subst e;obtain⟨h1,h⟩:=aX h;have e:AV.conv s.er.lk φ (.sl hd t2.n off len)=.D (.L (((xs.drop off).take len).map t2.ds)):=by unfold AV.conv;rw[hφ _ _ hl,aT,hl];show(if t2.n=t2.n/\off+len<=(xs.map t2.ds).length then AV.D (.L (((xs.map t2.ds).drop off).take len))else .sc)=_;rw[if_pos ⟨rfl,by rw[μ];exact h1⟩,br,b6]
     exact⟨_,h,by show[AV.conv _ _ _]=_;rw[e];rfl,fun _=>e⟩
    ·cases h
   ·cases h
  ·cases h
 ·rename_i hd off len;split at h
  ·rename_i mt n k x hl;split at h
   ·rename_i y hy;obtain⟨e,rfl⟩:=Ty.cst_ok hy;subst e;obtain⟨h1,h⟩:=aX h;have e:AV.conv s.er.lk φ (.sl hd 1 off len)=.D (.L ((zL x.l off len n).map (Ty.i k).ds)):=by unfold AV.conv;rw[hφ _ _ hl,aT,hl,aF0 x.len];show(if 1=1/\off+len<=(x.l.map (arD k)).length then AV.D (.L (((x.l.map (arD k)).drop off).take len))else .sc)=AV.D (.L (((x.l.drop off).take len).map (arD k)));rw[if_pos ⟨rfl,by rw[μ,x.len];exact h1⟩,br,b6]
    exact⟨_,h,by show[AV.conv _ _ _]=_;rw[e];rfl,fun _=>e⟩
   ·cases h
  ·cases h
 ·rename_i hd off l len;split at h
  ·rename_i mt t2 x hl;split at h
   ·rename_i a ha;split at h
    ·rename_i y hy;obtain⟨e,rfl⟩:=Ty.cst_ok hy;subst e;obtain⟨h1,h⟩:=aX h;obtain⟨c1,c2⟩:=aFk ha h1;have e:AV.conv s.er.lk φ (.sl hd 1 (off+l) len)=.D (.L ((zL a.x.l l len a.n).map (Ty.i a.k).ds)):=by unfold AV.conv;rw[hφ _ _ hl,aT,hl];show(if 1=1/\off+l+len<=(sgD (t2.ds x)).length then AV.D (.L (((sgD (t2.ds x)).drop (off+l)).take len))else .sc)=_;rw[if_pos ⟨rfl,c1⟩,c2]
     exact⟨_,h,by show[AV.conv _ _ _]=_;rw[e];rfl,fun _=>e⟩
    ·cases h
   ·cases h
  ·cases h
 ·cases h
def pkC(s:XS):(t:Ty)->List XV->(t.T->List XV->Option R)->Option R
 |.u,l,K=>K () l
 |.p a c,l,K=>pkC s a l fun x l=>pkC s c l fun y l=>K (x,y) l
 |.w a,l,K=>pkC s a l K
 |.b,v::l,K=>pK s .b v fun x=>K x l
 |.i k,v::l,K=>pK s (.i k) v fun x=>K x l
 |.s,v::l,K=>pK s .s v fun x=>K x l
 |.ar n k,v::l,K=>pK s (.ar n k) v fun x=>K x l
 |.sl t,v::l,K=>pK s (.sl t) v fun x=>K x l
 |.o t,v::l,K=>pK s (.o t) v fun x=>K x l
 |_,[],_=>none
theorem uD(lk:bE)(φ:Hd->Option Hd):∀(a c:List AV),AV.convL lk φ (a++c)=AV.convL lk φ a++AV.convL lk φ c
 |[],c=>rfl
 |x::a,c=>by show AV.conv lk φ x::AV.convL lk φ (a++c)=_;rw[uD lk φ a c];rfl
theorem bB1[YL]{s:XS}{φ:Hd->Option Hd}(hφ:∀h b,s.lk h=some b->φ h=none){r:R}:∀{t:Ty} {l:List XV} {K:t.T->List XV->Option R},pkC s t l K=some r->∃x l1 l2,l=l1++l2/\K x l2=some r/\AV.convL s.er.lk φ (XV.fcL l1)=(t.ds x).map .D
 |.u,l,K,h=>⟨(),[],l,rfl,h,rfl⟩
 |.p a c,l,K,h=>by
  obtain⟨x,l1,l2,rfl,h,e1⟩:=bB1 hφ (t:=a) h;obtain⟨y,l3,l4,rfl,h,e2⟩:=bB1 hφ (t:=c) h;refine⟨(x,y),l1++l3,l4,by rw[υ],h,?_⟩;rw[oH,uD,e1,e2,<-bn];rfl
 |.w a,l,K,h=>bB1 hφ (t:=a) h
 |.b,v::l,K,h=>by
  obtain⟨x,h,e,_⟩:=xS hφ h;exact⟨x,[v],l,rfl,h,by show AV.convL _ _ (v.fc++[])=_;rw[χ];exact e⟩
 |.i k,v::l,K,h=>by
  obtain⟨x,h,e,_⟩:=xS hφ h;exact⟨x,[v],l,rfl,h,by show AV.convL _ _ (v.fc++[])=_;rw[χ];exact e⟩
 |.s,v::l,K,h=>by
  obtain⟨x,h,e,_⟩:=xS hφ h;exact⟨x,[v],l,rfl,h,by show AV.convL _ _ (v.fc++[])=_;rw[χ];exact e⟩
 |.ar n k,v::l,K,h=>by
  obtain⟨x,h,e,_⟩:=xS hφ h;exact⟨x,[v],l,rfl,h,by show AV.convL _ _ (v.fc++[])=_;rw[χ];exact e⟩
 |.sl t,v::l,K,h=>by
  obtain⟨x,h,e,_⟩:=xS hφ h;exact⟨x,[v],l,rfl,h,by show AV.convL _ _ (v.fc++[])=_;rw[χ];exact e⟩
 |.b,[],K,h=>by cases h
 |.i _,[],K,h=>by cases h
 |.s,[],K,h=>by cases h
 |.ar _ _,[],K,h=>by cases h
 |.sl _,[],K,h=>by cases h
 |.o t,v::l,K,h=>by
  obtain⟨x,h,e,_⟩:=xS hφ h;exact⟨x,[v],l,rfl,h,by show AV.convL _ _ (v.fc++[])=_;rw[χ];exact e⟩
 |.o _,[],K,h=>by cases h
theorem wV:∀{t:Ty} (x:t.T),nW t=false->jB t x=.agg ((t.ds x).map .D)
 |.u,_,_=>rfl
 |.p _ _,_,_=>rfl
 |.w _,_,_=>rfl
 |.ar _ _,_,_=>rfl
 |.b,_,h=>by cases h
 |.i _,_,h=>by cases h
 |.s,_,h=>by cases h
 |.sl _,_,h=>by cases h
 |.o _,_,h=>by cases h
theorem aB3(lk:bE)(φ:Hd->Option Hd):∀l:List DV,AV.convL lk φ (l.map .D)=l.map .D
 |[]=>rfl
 |x::l=>by show AV.conv _ _ (.D x)::AV.convL _ _ (l.map .D)=_;rw[aB3 lk φ l];rfl
theorem aWf(lk:bE)(φ:Hd->Option Hd)(x:t.T):AV.conv lk φ (jB t x)=jB t x:=by
 cases hl:nW t with
 |true=>cases t<;>first|rfl|(cases hl;done)
 |false=>
  rw[wV x hl];show AV.agg (AV.convL lk φ _)=_;rw[aB3]
def hm?(φ:Hd->Option Hd)(h:Hd)(f:Hd->XV)(K:XV->Option R):Option R:=match φ h with
 |some h'=>K (f h')
 |none=>K .sc
mutual
def xcv(s:XS)(φ:Hd->Option Hd):XV->(XV->Option R)->Option R
 |.ptr h off,K=>hm? φ h (.ptr · off) K
 |.ept h t ix off,K=>hm? φ h (.ept · t ix off) K
 |.apt h ix,K=>hm? φ h (.apt · ix) K
 |.pa h off j,K=>hm? φ h (.pa · off j) K
 |.rpt h off,K=>hm? φ h (.rpt · off) K
 |.rpa h off j,K=>hm? φ h (.rpa · off j) K
 |.epa h t ix off j,K=>hm? φ h (.epa · t ix off j) K
 |.mref h,K=>hm? φ h .mref K
 |.itr hm h,K=>match φ hm,φ h with
  |some a,some c=>K (.itr a c)
  |_,_=>K .sc
 |.fl t xs,K=>K (.d (.sl t) xs)
 |.fln t,K=>K (.nl t)
 |.slw h t len,K=>match s.lk h with
  |some (.row _ t2 xs)=>match t2.beq t with
   |true=>match φ h with
    |some h'=>gl? len xs (K (.slw h' t2 xs.length))
    |none=>gl? len xs (K (.d (.sl t2) xs))
   |false=>none
  |_=>none
 |.sl h t off len,K=>match φ h with
  |some h'=>K (.sl h' t off len)
  |none=>match s.lk h with
   |some (.row _ t2 xs)=>match t2.beq t with
    |true=>gd? (off+len<=xs.length) (K (.d (.sl t2) ((xs.drop off).take len)))
    |false=>none
   |_=>none
 |.asl h off len,K=>match φ h with
  |some h'=>K (.asl h' off len)
  |none=>match s.lk h with
   |some (.arr _ n k x)=>gd? (off+len<=n) (K (.d (.sl (.i k)) (zL x.l off len n)))
   |_=>none
 |.rsl h off l len,K=>match φ h with
  |some h'=>K (.rsl h' off l len)
  |none=>match s.lk h with
   |some (.rb _ t x)=>match aAs (lvs t x) off with
    |some a=>gd? (l+len<=a.n) (K (.d (.sl (.i a.k)) (zL a.x.l l len a.n)))
    |none=>none
   |_=>none
 |.agg cs,K=>aWj s φ cs fun l=>K (.agg l)
 |.tup cs,K=>aWj s φ cs fun l=>K (.tup l)
 |.clo f cs,K=>aWj s φ cs fun l=>K (.clo f l)
 |.d t x,K=>K (.d t x)
 |.any,K=>K .any
 |.un,K=>K .un
 |.ab,K=>K .ab
 |.sc,K=>K .sc
 |.nl t,K=>K (.nl t)
 |.rop t x off,K=>K (.rop t x off)
 |.c v,K=>K (.c v)
 |.yld,K=>K .yld
 |.gst q,K=>K (.gst q)
def aWj(s:XS)(φ:Hd->Option Hd):List XV->(List XV->Option R)->Option R
 |[],K=>K []
 |v::vs,K=>xcv s φ v fun v'=>aWj s φ vs fun l=>K (v'::l)
end
def slP(P:Hd->Nat->Prop):XV->Prop
 |.slw h _ n=>P h n
 |.agg cs=>slPL P cs
 |.tup cs=>slPL P cs
 |.clo _ cs=>slPL P cs
 |_=>True
where slPL (P:Hd->Nat->Prop):List XV->Prop
 |[]=>True
 |v::vs=>slP P v/\slPL P vs
def yY(s:XS)(φ:Hd->Option Hd)(h':Hd)(n:Nat):Prop:=∃h mt t xs,φ h=some h'/\s.lk h=some (.row mt t xs)/\n=xs.length
def CvOk[YL](s:XS)(φ:Hd->Option Hd)(v v':XV):Prop:=AV.conv s.er.lk φ v.er=v'.er/\AV.convL s.er.lk φ v.fc=v'.fc/\slP (yY s φ) v'
theorem CvOk.of1[YL]{s:XS}{v':XV}(h1:v.fc=[v.er])(h2:v'.fc=[v'.er])(h:AV.conv s.er.lk φ v.er=v'.er)(hp:slP (yY s φ) v':=by exact trivial):CvOk s φ v v':=⟨h,by rw[h1,h2];show[AV.conv _ _ v.er]=_;rw[h],hp⟩
theorem aEd[YL]{s:XS}{f:Hd->XV}{K:XV->Option R}{r:R}(hf:∀h,(f h).fc=[(f h).er])(hc:∀h',φ h=some h'->AV.conv s.er.lk φ (f h).er=(f h').er)(hn:φ h=none->AV.conv s.er.lk φ (f h).er=.sc)(q:hm? φ h f K=some r)(hp:∀h,slP (yY s φ) (f h):=by exact fun _=>trivial):
  ∃v',K v'=some r/\CvOk s φ (f h) v':=by
 unfold hm? at q;split at q
 ·rename_i h' e;exact⟨_,q,.of1 (hf _) (hf _) (hc _ e) (hp _)⟩
 ·rename_i e;exact⟨_,q,.of1 (hf _) rfl (hn e)⟩
mutual
theorem aR7[YL]{s:XS}{φ:Hd->Option Hd}{r:R}:∀{v:XV} {K:XV->Option R},xcv s φ v K=some r->∃v',K v'=some r/\CvOk s φ v v'
 |.ptr h off,K,q=>aEd (f:=(.ptr · off)) (fun _=>rfl) (fun h' e=>by show AV.conv _ _ (.ptr h off)=_;unfold AV.conv;rw[e];rfl) (fun e=>by show AV.conv _ _ (.ptr h off)=_;unfold AV.conv;rw[e]) q
 |.ept h t ix off,K,q=>aEd (f:=(.ept · t ix off)) (fun _=>rfl) (fun h' e=>by show AV.conv _ _ (.eptr h t.n ix off)=_;unfold AV.conv;rw[e];rfl) (fun e=>by show AV.conv _ _ (.eptr h t.n ix off)=_;unfold AV.conv;rw[e]) q
 |.apt h ix,K,q=>aEd (f:=(.apt · ix)) (fun _=>rfl) (fun h' e=>by show AV.conv _ _ (.eptr h 1 ix 0)=_;unfold AV.conv;rw[e];rfl) (fun e=>by show AV.conv _ _ (.eptr h 1 ix 0)=_;unfold AV.conv;rw[e]) q
 |.pa h off j,K,q=>aEd (f:=(.pa · off j)) (fun _=>rfl) (fun h' e=>by show AV.conv _ _ (.ptr h (off+j))=_;unfold AV.conv;rw[e];rfl) (fun e=>by show AV.conv _ _ (.ptr h (off+j))=_;unfold AV.conv;rw[e]) q
 |.rpt h off,K,q=>aEd (f:=(.rpt · off)) (fun _=>rfl) (fun h' e=>by show AV.conv _ _ (.eptr h 1 off 0)=_;unfold AV.conv;rw[e];rfl) (fun e=>by show AV.conv _ _ (.eptr h 1 off 0)=_;unfold AV.conv;rw[e]) q
 |.rpa h off j,K,q=>aEd (f:=(.rpa · off j)) (fun _=>rfl) (fun h' e=>by show AV.conv _ _ (.eptr h 1 (off+j) 0)=_;unfold AV.conv;rw[e];rfl) (fun e=>by show AV.conv _ _ (.eptr h 1 (off+j) 0)=_;unfold AV.conv;rw[e]) q
 |.epa h t ix off j,K,q=>aEd (f:=(.epa · t ix off j)) (fun _=>rfl) (fun h' e=>by show AV.conv _ _ (.eptr h t.n ix (off+j))=_;unfold AV.conv;rw[e];rfl) (fun e=>by show AV.conv _ _ (.eptr h t.n ix (off+j))=_;unfold AV.conv;rw[e]) q
 |.mref h,K,q=>aEd (f:=.mref) (fun _=>rfl) (fun h' e=>by show AV.conv _ _ (.mref h)=_;unfold AV.conv;rw[e];rfl) (fun e=>by show AV.conv _ _ (.mref h)=_;unfold AV.conv;rw[e]) q
 |.itr hm h,K,q=>by
  unfold xcv at q;split at q
  ·rename_i a c e1 e2;exact⟨_,q,.of1 rfl rfl (by show AV.conv _ _ (.itr hm h)=_;unfold AV.conv;rw[e1,e2];rfl)⟩
  ·rename_i e;refine⟨_,q,.of1 rfl rfl ?_⟩;show AV.conv _ _ (.itr hm h)=_;unfold AV.conv;split
   ·rename_i e1 e2;exact(e _ _ e1 e2).elim
   ·rfl
 |.fl t xs,K,q=>⟨_,q,.of1 rfl rfl rfl⟩
 |.fln t,K,q=>⟨_,q,.of1 rfl rfl rfl⟩
 |.slw h t len,K,q=>by
  unfold xcv at q;split at q
  ·rename_i mt t2 xs hl;split at q
   ·rename_i hb;obtain rfl:=Ty.eq_of hb;split at q
    ·rename_i h' e
     replace q:=aXy q;obtain⟨rfl,q⟩:=q
     exact⟨_,q,.of1 rfl rfl (by show AV.conv _ _ (.sl h t2.n 0 xs.length)=_;unfold AV.conv;rw[e];rfl) ⟨h,mt,t2,xs,e,hl,rfl⟩⟩
    ·rename_i e
     replace q:=aXy q;obtain⟨rfl,q⟩:=q
     refine⟨_,q,.of1 rfl rfl ?_⟩;show AV.conv _ _ (.sl h t2.n 0 xs.length)=.D (.L (xs.map t2.ds));unfold AV.conv;rw[e,aT,hl];show(if t2.n=t2.n/\0+xs.length<=(xs.map t2.ds).length then AV.D (.L (((xs.map t2.ds).drop 0).take xs.length))else .sc)=_;rw[if_pos ⟨rfl,by rw[μ];omega⟩,cc,bc (by rw[μ];exact ω _)]
   ·cases q
  ·cases q
 |.sl h t off len,K,q=>by
  unfold xcv at q;split at q
  ·rename_i h' e;exact⟨_,q,.of1 rfl rfl (by show AV.conv _ _ (.sl h t.n off len)=_;unfold AV.conv;rw[e];rfl)⟩
  ·rename_i e;split at q
   ·rename_i mt t2 xs hl;split at q
    ·rename_i hb;obtain rfl:=Ty.eq_of hb;obtain⟨h1,q⟩:=aX q;refine⟨_,q,.of1 rfl rfl ?_⟩;show AV.conv _ _ (.sl h t2.n off len)=.D (.L (((xs.drop off).take len).map t2.ds));unfold AV.conv;rw[e,aT,hl];show(if t2.n=t2.n/\off+len<=(xs.map t2.ds).length then AV.D (.L (((xs.map t2.ds).drop off).take len))else .sc)=_;rw[if_pos ⟨rfl,by rw[μ];exact h1⟩,br,b6]
    ·cases q
   ·cases q
 |.asl h off len,K,q=>by
  unfold xcv at q;split at q
  ·rename_i h' e;exact⟨_,q,.of1 rfl rfl (by show AV.conv _ _ (.sl h 1 off len)=_;unfold AV.conv;rw[e];rfl)⟩
  ·rename_i e;split at q
   ·rename_i mt n k x hl;obtain⟨h1,q⟩:=aX q;refine⟨_,q,.of1 rfl rfl ?_⟩;show AV.conv _ _ (.sl h 1 off len)=.D (.L ((zL x.l off len n).map (Ty.i k).ds));unfold AV.conv;rw[e,aT,hl,aF0 x.len];show(if 1=1/\off+len<=(x.l.map (arD k)).length then AV.D (.L (((x.l.map (arD k)).drop off).take len))else .sc)=AV.D (.L (((x.l.drop off).take len).map (arD k)));rw[if_pos ⟨rfl,by rw[μ,x.len];exact h1⟩,br,b6]
   ·cases q
 |.rsl h off l len,K,q=>by
  unfold xcv at q;split at q
  ·rename_i h' e;exact⟨_,q,.of1 rfl rfl (by show AV.conv _ _ (.sl h 1 (off+l) len)=_;unfold AV.conv;rw[e];rfl)⟩
  ·rename_i e;split at q
   ·rename_i mt t x hl;split at q
    ·rename_i a ha;obtain⟨h1,q⟩:=aX q;obtain⟨c1,c2⟩:=aFk ha h1;refine⟨_,q,.of1 rfl rfl ?_⟩;show AV.conv _ _ (.sl h 1 (off+l) len)=.D (.L ((zL a.x.l l len a.n).map (Ty.i a.k).ds));unfold AV.conv;rw[e,aT,hl];show(if 1=1/\off+l+len<=(sgD (t.ds x)).length then AV.D (.L (((sgD (t.ds x)).drop (off+l)).take len))else .sc)=_;rw[if_pos ⟨rfl,c1⟩,c2]
    ·cases q
   ·cases q
 |.agg cs,K,q=>by
  obtain⟨l,q,e1,e2,e3⟩:=aCa (vs:=cs) q;exact⟨_,q,congrArg AV.agg e2,e2,e3⟩
 |.tup cs,K,q=>by
  obtain⟨l,q,e1,e2,e3⟩:=aCa (vs:=cs) q;exact⟨_,q,.of1 rfl rfl (congrArg AV.tup e1) e3⟩
 |.clo f cs,K,q=>by
  obtain⟨l,q,e1,e2,e3⟩:=aCa (vs:=cs) q;exact⟨_,q,.of1 rfl rfl (congrArg (AV.clo f) e1) e3⟩
 |.d t x,K,q=>⟨_,q,aWf _ _ _,aB3 _ _ _,trivial⟩
 |.any,K,q=>⟨_,q,.of1 rfl rfl rfl⟩
 |.un,K,q=>⟨_,q,.of1 rfl rfl rfl⟩
 |.ab,K,q=>⟨_,q,.of1 rfl rfl rfl⟩
 |.sc,K,q=>⟨_,q,.of1 rfl rfl rfl⟩
 |.nl t,K,q=>⟨_,q,.of1 rfl rfl rfl⟩
 |.rop t x off,K,q=>⟨_,q,.of1 rfl rfl rfl⟩
 |.c v,K,q=>⟨_,q,.of1 rfl rfl rfl⟩
 |.yld,K,q=>⟨_,q,.of1 rfl rfl rfl⟩
 |.gst _,K,q=>⟨_,q,.of1 rfl rfl rfl⟩
theorem aCa[YL]{s:XS}{φ:Hd->Option Hd}{r:R}:∀{vs:List XV} {K:List XV->Option R},aWj s φ vs K=some r->∃vs',K vs'=some r/\AV.convL s.er.lk φ (XV.erL vs)=XV.erL vs'/\AV.convL s.er.lk φ (XV.fcL vs)=XV.fcL vs'/\slP.slPL (yY s φ) vs'
 |[],K,q=>⟨[],q,rfl,rfl,trivial⟩
 |v::vs,K,q=>by
  obtain⟨v',q,e1,e2,e5⟩:=aR7 (v:=v) q;obtain⟨l,q,e3,e4,e6⟩:=aCa (vs:=vs) q;refine⟨_,q,?_,?_,e5,e6⟩
  ·show AV.conv _ _ v.er::AV.convL _ _ (XV.erL vs)=v'.er::XV.erL l;rw[e1,e3]
  ·show AV.convL _ _ (v.fc++XV.fcL vs)=v'.fc++XV.fcL l;rw[uD,e2,e4]
end
end
section
variable{R:Type}
mutual
def XV.ren(ψ:Hd->Hd):XV->XV
 |.ptr h off=>.ptr (ψ h) off
 |.ept h t ix off=>.ept (ψ h) t ix off
 |.apt h ix=>.apt (ψ h) ix
 |.pa h off j=>.pa (ψ h) off j
 |.epa h t ix off j=>.epa (ψ h) t ix off j
 |.sl h t off len=>.sl (ψ h) t off len
 |.slw h t len=>.slw (ψ h) t len
 |.asl h off len=>.asl (ψ h) off len
 |.rpt h off=>.rpt (ψ h) off
 |.rpa h off j=>.rpa (ψ h) off j
 |.rsl h off l len=>.rsl (ψ h) off l len
 |.mref h=>.mref (ψ h)
 |.itr hm h=>.itr (ψ hm) (ψ h)
 |.agg cs=>.agg (XV.renL ψ cs)
 |.tup cs=>.tup (XV.renL ψ cs)
 |.clo f cs=>.clo f (XV.renL ψ cs)
 |.d t x=>.d t x
 |.any=>.any
 |.un=>.un
 |.ab=>.ab
 |.sc=>.sc
 |.rop t x off=>.rop t x off
 |.fl t xs=>.fl t xs
 |.fln t=>.fln t
 |.nl t=>.nl t
 |.c v=>.c v
 |.yld=>.yld
 |.gst q=>.gst q
def XV.renL(ψ:Hd->Hd):List XV->List XV
 |[]=>[]
 |v::vs=>XV.ren ψ v::XV.renL ψ vs
end
theorem aTu(ψ:Hd->Hd):∀l:List DV,AV.renL ψ (l.map .D)=l.map .D
 |[]=>rfl
 |x::l=>by show AV.ren ψ (.D x)::AV.renL ψ (l.map .D)=_;rw[aTu ψ l];rfl
theorem aPt(ψ:Hd->Hd):∀a c:List AV,AV.renL ψ (a++c)=AV.renL ψ a++AV.renL ψ c
 |[],_=>rfl
 |x::a,c=>by show AV.ren ψ x::AV.renL ψ (a++c)=_;rw[aPt ψ a c];rfl
theorem aYi(ψ:Hd->Hd)(x:t.T):AV.ren ψ (jB t x)=jB t x:=by
 cases hl:nW t with
 |true=>cases t<;>first|rfl|(cases hl;done)
 |false=>
  rw[wV x hl];show AV.agg (AV.renL ψ _)=_;rw[aTu]
mutual
theorem aM5[YL](ψ:Hd->Hd):∀v:XV,(v.ren ψ).er=AV.ren ψ v.er
 |.d t x=>(aYi ψ x).symm
 |.agg cs=>congrArg AV.agg (aFt ψ cs)
 |.tup cs=>congrArg AV.tup (aBe ψ cs)
 |.clo f cs=>congrArg (AV.clo f) (aBe ψ cs)
 |.ptr _ _=>rfl
 |.ept _ _ _ _=>rfl
 |.apt _ _=>rfl
 |.pa _ _ _=>rfl
 |.epa _ _ _ _ _=>rfl
 |.sl _ _ _ _=>rfl
 |.slw _ _ _=>rfl
 |.asl _ _ _=>rfl
 |.rpt _ _=>rfl
 |.rpa _ _ _=>rfl
 |.rsl _ _ _ _=>rfl
 |.mref _=>rfl
 |.itr _ _=>rfl
 |.any=>rfl
 |.un=>rfl
 |.ab=>rfl
 |.sc=>rfl
 |.rop _ _ _=>rfl
 |.fl _ _=>rfl
 |.fln _=>rfl
 |.nl _=>rfl
 |.c _=>rfl
 |.yld=>rfl
 |.gst _=>rfl
theorem bJk[YL](ψ:Hd->Hd):∀v:XV,(v.ren ψ).fc=AV.renL ψ v.fc
 |.d t x=>(aTu ψ _).symm
 |.agg cs=>aFt ψ cs
 |.tup cs=>congrArg (fun l=>[AV.tup l]) (aBe ψ cs)
 |.clo f cs=>congrArg (fun l=>[AV.clo f l]) (aBe ψ cs)
 |.ptr _ _=>rfl
 |.ept _ _ _ _=>rfl
 |.apt _ _=>rfl
 |.pa _ _ _=>rfl
 |.epa _ _ _ _ _=>rfl
 |.sl _ _ _ _=>rfl
 |.slw _ _ _=>rfl
 |.asl _ _ _=>rfl
 |.rpt _ _=>rfl
 |.rpa _ _ _=>rfl
 |.rsl _ _ _ _=>rfl
 |.mref _=>rfl
 |.itr _ _=>rfl
 |.any=>rfl
 |.un=>rfl
 |.ab=>rfl
 |.sc=>rfl
 |.rop _ _ _=>rfl
 |.fl _ _=>rfl
 |.fln _=>rfl
 |.nl _=>rfl
 |.c _=>rfl
 |.yld=>rfl
 |.gst _=>rfl
theorem aBe[YL](ψ:Hd->Hd):∀vs:List XV,XV.erL (XV.renL ψ vs)=AV.renL ψ (XV.erL vs)
 |[]=>rfl
 |v::vs=>by show(v.ren ψ).er::XV.erL (XV.renL ψ vs)=AV.ren ψ v.er::AV.renL ψ (XV.erL vs);rw[aM5 ψ v,aBe ψ vs]
theorem aFt[YL](ψ:Hd->Hd):∀vs:List XV,XV.fcL (XV.renL ψ vs)=AV.renL ψ (XV.fcL vs)
 |[]=>rfl
 |v::vs=>by show(v.ren ψ).fc++XV.fcL (XV.renL ψ vs)=AV.renL ψ (v.fc++XV.fcL vs);rw[aPt,bJk ψ v,aFt ψ vs]
end
def XB.ren(ψ:Hd->Hd):XB->XB
 |.box cs=>.box (XV.renL ψ cs)
 |.row mt t xs=>.row mt t xs
 |.rb mt t x=>.rb mt t x
 |.arr mt n k x=>.arr mt n k x
 |.mp wr K V es hole i=>.mp wr K V es hole (match i with
  |some (h,q)=>some (ψ h,q)
  |none=>none)
 |.it=>.it
 |.sb T us xs=>.sb T us xs
theorem aN7[YL](ψ:Hd->Hd):∀b:XB,(b.ren ψ).er=Blk.ren ψ b.er
 |.box cs=>congrArg Blk.box (aFt ψ cs)
 |.row _ _ _=>rfl
 |.rb _ _ _=>rfl
 |.arr _ _ _ _=>rfl
 |.mp wr K V es hole none=>by cases wr<;>rfl
 |.mp wr K V es hole (some (h,cur,rem))=>by cases wr<;>rfl
 |.it=>rfl
 |.sb _ _ _=>rfl
def aOx(t:Ty):List XV->Option (t.T×List XV)
 |.d t' x::l=>match t'.cst t x with
  |some y=>some (y,l)
  |none=>none
 |.nl _::l=>match t with
  |.sl _=>some ([],l)
  |.o _=>some ([],l)
  |_=>none
 |_=>none
theorem yJ[YL]{x:t.T}(h:aOx t l=some (x,l2)):∃v,l=v::l2/\v.fc=(t.ds x).map .D:=by
 unfold aOx at h;split at h
 ·split at h
  ·rename_i y hy;obtain⟨e,rfl⟩:=Ty.cst_ok hy;subst e;cases h;exact⟨_,rfl,rfl⟩
  ·cases h
 ·split at h
  ·cases h;exact⟨_,rfl,rfl⟩
  ·cases h;exact⟨_,rfl,rfl⟩
  ·cases h
 ·cases h
def pkD:(t:Ty)->List XV->Option (t.T×List XV)
 |.u,l=>some ((),l)
 |.p a c,l=>match pkD a l with
  |some (x,l)=>match pkD c l with
   |some (y,l)=>some ((x,y),l)
   |none=>none
  |none=>none
 |.w a,l=>pkD a l
 |.b,l=>aOx .b l
 |.i k,l=>aOx (.i k) l
 |.s,l=>aOx .s l
 |.ar n k,l=>aOx (.ar n k) l
 |.sl t,l=>aOx (.sl t) l
 |.o t,l=>aOx (.o t) l
theorem pk1[YL]{x:t.T}:(∃v:XV,l=v::l2/\v.fc=(t.ds x).map .D)->∃l1,l=l1++l2/\XV.fcL l1=(t.ds x).map .D
 |⟨v,h1,h2⟩=>⟨[v],h1,by show v.fc++[]=_;rw[χ,h2]⟩
theorem sW[YL]:∀{t:Ty} {l l2:List XV} {x:t.T},pkD t l=some (x,l2)->∃l1,l=l1++l2/\XV.fcL l1=(t.ds x).map .D
 |.u,l,l2,x,h=>by cases h;exact⟨[],rfl,rfl⟩
 |.p a c,l,l2,x,h=>by
  unfold pkD at h;split at h
  ·rename_i x1 l1 h1;split at h
   ·rename_i y1 l3 h3;cases h;obtain⟨a1,rfl,e1⟩:=sW h1;obtain⟨a2,rfl,e2⟩:=sW h3;exact⟨a1++a2,by rw[υ],by rw[oH,e1,e2,<-bn];rfl⟩
   ·cases h
  ·cases h
 |.w a,l,l2,x,h=>sW (t:=a) h
 |.b,l,l2,x,h=>pk1 (yJ (t:=.b) h)
 |.i k,l,l2,x,h=>pk1 (yJ (t:=.i k) h)
 |.s,l,l2,x,h=>pk1 (yJ (t:=.s) h)
 |.ar n k,l,l2,x,h=>pk1 (yJ (t:=.ar n k) h)
 |.sl t,l,l2,x,h=>pk1 (yJ (t:=.sl t) h)
 |.o t,l,l2,x,h=>pk1 (yJ (t:=.o t) h)
@[reducible] def tup:List Ty->Type
 |[]=>Unit
 |t::ts=>t.T×tup ts
@[reducible] def rty:List Ty->Type
 |[]=>Unit
 |[t]=>t.T
 |t::ts=>t.T×rty ts
@[reducible] def fty:List Ty->Type->Type
 |[],R=>Option R
 |.u::ts,R=>Unit->fty ts R
 |.b::ts,R=>Bool->fty ts R
 |.i _::ts,R=>Int->fty ts R
 |.s::ts,R=>Str->fty ts R
 |.p x y::ts,R=>x.T×y.T->fty ts R
 |.w x::ts,R=>x.T->fty ts R
 |.ar n _::ts,R=>Arr n->fty ts R
 |.sl t::ts,R=>List t.T->fty ts R
 |.o t::ts,R=>List t.T->fty ts R
def apF{R:Type}:(ts:List Ty)->fty ts R->tup ts->Option R
 |[],f,_=>f
 |.u::ts,f,a=>apF ts (f a.1) a.2
 |.b::ts,f,a=>apF ts (f a.1) a.2
 |.i _::ts,f,a=>apF ts (f a.1) a.2
 |.s::ts,f,a=>apF ts (f a.1) a.2
 |.p _ _::ts,f,a=>apF ts (f a.1) a.2
 |.w _::ts,f,a=>apF ts (f a.1) a.2
 |.ar _ _::ts,f,a=>apF ts (f a.1) a.2
 |.sl _::ts,f,a=>apF ts (f a.1) a.2
 |.o _::ts,f,a=>apF ts (f a.1) a.2
def cuF{R:Type}:(ts:List Ty)->(tup ts->Option R)->fty ts R
 |[],f=>f ()
 |.u::ts,f=>fun x=>cuF ts fun y=>f (x,y)
 |.b::ts,f=>fun x=>cuF ts fun y=>f (x,y)
 |.i _::ts,f=>fun x=>cuF ts fun y=>f (x,y)
 |.s::ts,f=>fun x=>cuF ts fun y=>f (x,y)
 |.p _ _::ts,f=>fun x=>cuF ts fun y=>f (x,y)
 |.w _::ts,f=>fun x=>cuF ts fun y=>f (x,y)
 |.ar _ _::ts,f=>fun x=>cuF ts fun y=>f (x,y)
 |.sl _::ts,f=>fun x=>cuF ts fun y=>f (x,y)
 |.o _::ts,f=>fun x=>cuF ts fun y=>f (x,y)
theorem cU{R:Type}:∀(ts:List Ty) (f:tup ts->Option R) (a:tup ts),apF ts (cuF ts f) a=f a
 |[],f,()=>rfl
 |.u::ts,f,a=>cU ts (fun y=>f (a.1,y)) a.2
 |.b::ts,f,a=>cU ts (fun y=>f (a.1,y)) a.2
 |.i _::ts,f,a=>cU ts (fun y=>f (a.1,y)) a.2
 |.s::ts,f,a=>cU ts (fun y=>f (a.1,y)) a.2
 |.p _ _::ts,f,a=>cU ts (fun y=>f (a.1,y)) a.2
 |.w _::ts,f,a=>cU ts (fun y=>f (a.1,y)) a.2
 |.ar _ _::ts,f,a=>cU ts (fun y=>f (a.1,y)) a.2
 |.sl _::ts,f,a=>cU ts (fun y=>f (a.1,y)) a.2
 |.o _::ts,f,a=>cU ts (fun y=>f (a.1,y)) a.2
def toR:(ts:List Ty)->tup ts->rty ts
 |[],_=>()
 |[_],a=>a.1
 |_::t2::ts,a=>(a.1,toR (t2::ts) a.2)
def ofR:(ts:List Ty)->rty ts->tup ts
 |[],_=>()
 |[_],a=>(a,())
 |_::t2::ts,a=>(a.1,ofR (t2::ts) a.2)
theorem uW:∀(ts:List Ty) (a:tup ts),ofR ts (toR ts a)=a
 |[],()=>rfl
 |[_],(_,())=>rfl
 |_::t2::ts,a=>by show(a.1,ofR (t2::ts) (toR (t2::ts) a.2))=a;rw[uW]
abbrev DS:=Sigma Ty.T
def sgs:(ts:List Ty)->tup ts->List DS
 |[],_=>[]
 |t::ts,v=>⟨t,v.1⟩::sgs ts v.2
def aDy:(ts:List Ty)->List DS->Option (tup ts)
 |[],[]=>some ()
 |t::ts,p::l=>match p.1.cst t p.2,aDy ts l with
  |some y,some v=>some (y,v)
  |_,_=>none
 |_,_=>none
theorem aIb:∀{ts:List Ty} {l:List DS} {v:tup ts},aDy ts l=some v->sgs ts v=l
 |[],[],_,h=>rfl
 |t::ts,p::l,v,h=>by
  unfold aDy at h;split at h
  ·rename_i y v' h1 h2;cases h;obtain⟨e,rfl⟩:=Ty.cst_ok h1;obtain⟨t',x⟩:=p;have e:t'=t:=e;subst e;show(⟨t',x⟩:DS)::sgs ts v'=_;rw[aIb h2]
  ·cases h
 |[],_::_,_,h=>by cases h
 |_::_,[],_,h=>by cases h
def aC8(t:Ty)(x:t.T):XV:=match t,x with
 |.w a,x=>.agg (lvs (.w a) x)
 |.p a c,x=>.agg (lvs (.p a c) x)
 |.u,_=>.agg []
 |t,x=>.d t x
theorem aCj[YL](t:Ty)(x:t.T):(aC8 t x).er=jB t x:=by cases t<;>first|rfl|(show AV.agg (XV.fcL (lvs _ x))=_;rw[cX];rfl)
theorem aUk[YL](t:Ty)(x:t.T):(aC8 t x).fc=(t.ds x).map .D:=by cases t<;>first|rfl|(show XV.fcL (lvs _ x)=_;rw[cX])
def DS.nat:DS->Nat
 |⟨.i _,n⟩=>n.toNat
 |_=>0
mutual
def XV.tys:XV->List Ty
 |.d t _=>[t]
 |.sl _ _ _ _=>[.i .i64,.i .i64]
 |.agg cs=>XV.tysL cs
 |.clo _ cs=>XV.tysL cs
 |_=>[]
def XV.tysL:List XV->List Ty
 |[]=>[]
 |v::vs=>v.tys++XV.tysL vs
end
mutual
def XV.fil(len:Hd->Nat):XV->List DS->XV×List DS
 |.d t x,l=>match l with
  |p::l=>(aC8 p.1 p.2,l)
  |[]=>(.d t x,[])
 |.slw h t _,l=>(.slw h t (len h),l)
 |.sl h t o n,l=>match l with
  |p::q::l=>(.sl h t p.nat q.nat,l)
  |l=>(.sl h t o n,l)
 |.agg cs,l=>(.agg (XV.filL len cs l).1,(XV.filL len cs l).2)
 |.clo f cs,l=>(.clo f (XV.filL len cs l).1,(XV.filL len cs l).2)
 |v,l=>(v,l)
def XV.filL(len:Hd->Nat):List XV->List DS->List XV×List DS
 |[],l=>([],l)
 |v::vs,l=>((XV.fil len v l).1::(XV.filL len vs (XV.fil len v l).2).1,(XV.filL len vs (XV.fil len v l).2).2)
end
def bKo(mt:Bool)(t:Ty):DS->XB
 |⟨.sl t',xs⟩=>.row mt t' xs
 |_=>.row mt t []
def bNc(mt:Bool)(n:Nat)(k:IntKind):DS->XB
 |⟨.ar n' k',x⟩=>.arr mt n' k' x
 |_=>.arr mt n k (Arr.zero n)
def bJl(wr:Bool)(K V:Ty):DS->XB
 |⟨.sl (.p K' V'),es⟩=>.mp wr K' V' es none none
 |_=>.mp wr K V [] none none
def bBv(h:Hd):XB->DS->XB
 |.mp wr K V es hole _,⟨.sl K',rem⟩=>match(Ty.sl K').cst (.sl K) rem with
  |some rem=>.mp wr K V es hole (some (h,none,rem))
  |none=>.mp wr K V es hole none
 |b,_=>b
def bH0(T:TypeId×TypeId):DS->DS->XB
 |⟨.b,us⟩,⟨.sl t,xs⟩=>match(Ty.sl t).cst (.sl (.i .u8)) xs with
  |some ys=>.sb T us ys
  |none=>.sb T us []
 |_,_=>.sb T false []
def XB.tys:XB->List Ty
 |.box cs=>XV.tysL cs
 |.row _ t _=>[.sl t]
 |.rb _ t _=>[t]
 |.arr _ n k _=>[.ar n k]
 |.mp _ K V _ _ none=>[.sl (.p K V)]
 |.mp _ K V _ _ (some _)=>[.sl (.p K V),.sl K]
 |.it=>[]
 |.sb _ _ _=>[.b,.sl (.i .u8)]
def XB.fil(len:Hd->Nat):XB->List DS->XB×List DS
 |.box cs,l=>(.box (XV.filL len cs l).1,(XV.filL len cs l).2)
 |.row mt t xs,p::l=>(bKo mt t p,l)
 |.rb mt _ _,p::l=>(.rb mt p.1 p.2,l)
 |.arr mt n k x,p::l=>(bNc mt n k p,l)
 |.sb T _ _,p::q::l=>(bH0 T p q,l)
 |.mp wr K V _ _ none,p::l=>(bJl wr K V p,l)
 |.mp wr K V _ _ (some (h,_)),p::q::l=>(bBv h (bJl wr K V p) q,l)
 |b,l=>(b,l)
def aEa:List (Option XB)->List Ty
 |[]=>[]
 |some b::r=>b.tys++aEa r
 |none::r=>aEa r
def pN(len:Hd->Nat):List (Option XB)->List DS->List (Option XB)×List DS
 |[],l=>([],l)
 |some b::r,l=>(some (b.fil len l).1::(pN len r (b.fil len l).2).1,(pN len r (b.fil len l).2).2)
 |none::r,l=>(none::(pN len r l).1,(pN len r l).2)
def aTj:List (Nat×XV)->List Ty
 |[]=>[]
 |(_,v)::r=>v.tys++aTj r
def aAh(len:Hd->Nat):List (Nat×XV)->List DS->List (Nat×XV)×List DS
 |[],l=>([],l)
 |(n,v)::r,l=>((n,(v.fil len l).1)::(aAh len r (v.fil len l).2).1,(aAh len r (v.fil len l).2).2)
def XS.tys(m:XS):List Ty:=aTj m.env++(aEa m.bs++aEa m.own)
def XB.rlen:XB->Nat
 |.row _ _ xs=>xs.length
 |_=>0
def DS.rlen:DS->Nat
 |⟨.sl _,xs⟩=>xs.length
 |_=>0
def oU:List (Option XB)->List DS->List Nat
 |[],_=>[]
 |none::r,l=>0::oU r l
 |some (.row _ _ _)::r,l=>(match l with
  |p::_=>DS.rlen p
  |[]=>0)::oU r (l.drop 1)
 |some b::r,l=>0::oU r (l.drop b.tys.length)
def aKv:List Nat->Nat->Nat
 |[],_=>0
 |x::_,0=>x
 |_::l,i+1=>aKv l i
def bIy(lb lo:List Nat):Hd->Nat
 |.B i=>aKv lb i
 |.O i=>aKv lo i
def XS.fil(m:XS)(l:List DS):XS:=
 let l0:=l.drop (aTj m.env).length;let len:=bIy (oU m.bs l0) (oU m.own (l0.drop (aEa m.bs).length));let e:=aAh len m.env l;let b:=pN len m.bs e.2
 {env:=e.1,bs:=b.1,own:=(pN len m.own b.2).1}
def XS.fill(m:XS)(v:tup m.tys):XS:=m.fil (sgs m.tys v)
end
section
variable{R:Type}
theorem Ty.beq_refl:∀t:Ty,t.beq t=true
 |.u=>rfl
 |.b=>rfl
 |.i k=>decide_eq_true rfl
 |.s=>rfl
 |.p a c=>by show(a.beq a&&c.beq c)=true;rw[Ty.beq_refl a,Ty.beq_refl c];rfl
 |.w a=>Ty.beq_refl a
 |.ar n k=>by show(bb n n&&decide (k=k))=true;rw[Nat.beq_refl,decide_eq_true rfl];rfl
 |.sl t=>Ty.beq_refl t
 |.o t=>Ty.beq_refl t
theorem Ty.cst_self(t:Ty)(x:t.T):t.cst t x=some x:=by unfold Ty.cst;rw[dif_pos (Ty.beq_refl t)]
def mtD(t:Ty):XV->Option DS
 |.d t' x=>match t'.beq t with
  |true=>some ⟨t',x⟩
  |false=>none
 |.nl _=>match t with
  |.sl u=>some ⟨.sl u,[]⟩
  |.o u=>some ⟨.o u,[]⟩
  |_=>none
 |.agg cs=>match nW t with
  |true=>none
  |false=>match pkD t cs with
   |some (x,[])=>some ⟨t,x⟩
   |_=>none
 |_=>none
theorem bKg[YL]{p:DS}(h:mtD t v=some p):(aC8 p.1 p.2).er=v.er/\(aC8 p.1 p.2).fc=v.fc:=by
 unfold mtD at h;split at h
 ·split at h
  ·cases h;exact⟨aCj _ _,aUk _ _⟩
  ·cases h
 ·split at h
  ·cases h;exact⟨rfl,rfl⟩
  ·cases h;exact⟨rfl,rfl⟩
  ·cases h
 ·split at h
  ·cases h
  ·rename_i cs _ hl;split at h
   ·rename_i x hp;cases h;obtain⟨l1,e1,e2⟩:=sW hp;rw[χ]at e1;subst e1;refine⟨?_,?_⟩
    ·rw[aCj,wV x hl];show _=AV.agg (XV.fcL _);rw[e2]
    ·rw[aUk];exact e2.symm
   ·cases h
 ·cases h
def cEq:Value->Value->Bool
 |.pointer none,.pointer none=>true
 |.map none,.map none=>true
 |_,_=>false
theorem aZ5{v w:Value}(h:cEq v w=true):v=w:=by
 unfold cEq at h;split at h
 ·rfl
 ·rfl
 ·cases h
def GX.eqb:GX->GX->Bool
 |.go,.go=>true
 |.exit a,.exit b=>bb a b
 |.ret,.ret=>true
 |_,_=>false
theorem GX.eqb_ok:∀{a b:GX},a.eqb b=true->a=b
 |.go,.go,_=>rfl
 |.exit a,.exit b,h=>congrArg GX.exit (ι h)
 |.ret,.ret,_=>rfl
 |.go,.exit _,h=>by cases h
 |.go,.ret,h=>by cases h
 |.exit _,.go,h=>by cases h
 |.exit _,.ret,h=>by cases h
 |.ret,.go,h=>by cases h
 |.ret,.exit _,h=>by cases h
def okL(b:Bool):Option (List DS):=match b with
 |true=>some []
 |false=>none
mutual
def XV.mt:XV->XV->Option (List DS)
 |.d t _,v=>match mtD t v with
  |some p=>some [p]
  |none=>none
 |.slw h t _,v=>match v with
  |.slw h' t' _=>okL (h.eqb h'&&t.beq t')
  |_=>none
 |.sl h t _ _,v=>match v with
  |.sl h' t' o n=>match h.eqb h'&&t.beq t' with
   |true=>some [⟨.i .i64,(o:Int)⟩,⟨.i .i64,(n:Int)⟩]
   |false=>none
  |_=>none
 |.ptr h o,v=>match v with
  |.ptr h' o'=>okL (h.eqb h'&&bb o o')
  |_=>none
 |.rpt h o,v=>match v with
  |.rpt h' o'=>okL (h.eqb h'&&bb o o')
  |_=>none
 |.apt h o,v=>match v with
  |.apt h' o'=>okL (h.eqb h'&&bb o o')
  |_=>none
 |.mref h,v=>match v with
  |.mref h'=>okL (h.eqb h')
  |_=>none
 |.itr a e,v=>match v with
  |.itr a' e'=>okL (a.eqb a'&&e.eqb e')
  |_=>none
 |.agg cs,v=>match v with
  |.agg ds=>XV.mtL cs ds
  |_=>none
 |.clo f cs,v=>match v with
  |.clo g ds=>match bb f g with
   |true=>XV.mtL cs ds
   |false=>none
  |_=>none
 |.fln _,v=>match v with
  |.fln _=>some []
  |_=>none
 |.nl _,v=>match v with
  |.nl _=>some []
  |_=>none
 |.un,v=>match v with
  |.un=>some []
  |_=>none
 |.sc,v=>match v with
  |.sc=>some []
  |_=>none
 |.c x,v=>match v with
  |.c y=>okL (cEq x y)
  |_=>none
 |.yld,v=>match v with
  |.yld=>some []
  |_=>none
 |.gst q,v=>match v with
  |.gst q'=>okL (q.eqb q')
  |_=>none
 |_,_=>none
def XV.mtL:List XV->List XV->Option (List DS)
 |[],[]=>some []
 |m::ms,v::vs=>match m.mt v,XV.mtL ms vs with
  |some a,some y=>some (a++y)
  |_,_=>none
 |_,_=>none
end
theorem kB{b:Bool}{l:List DS}(h:okL b=some l):b=true/\l=[]:=by
 cases b
 ·cases h
 ·cases h;exact⟨rfl,rfl⟩
def Fil[YL](len:Hd->Nat)(m v:XV)(l:List DS):Prop:=∀rest,∃v',m.fil len (l++rest)=(v',rest)/\v'.er=v.er/\v'.fc=v.fc
theorem Fil.c[YL]{m:XV}(h:∀l,m.fil len l=(v,l)):Fil len m v []:=fun rest=>⟨v,h rest,rfl,rfl⟩
mutual
theorem bFs[YL]{len:Hd->Nat}:∀{m v:XV} {l:List DS},m.mt v=some l->slP (fun h n=>n=len h) v->Fil len m v l
 |.d t x,v,l,h,hp=>by
  unfold XV.mt at h;split at h
  ·rename_i p hm;cases h;obtain⟨h1,h2⟩:=bKg hm;exact fun rest=>⟨_,rfl,h1,h2⟩
  ·cases h
 |.slw hd t n,v,l,h,hp=>by
  unfold XV.mt at h;split at h
  ·obtain⟨hh,rfl⟩:=kB h;replace h:=hh;rw[ν]at h;obtain rfl:=Hd.eqb_iff.1 h.1;obtain rfl:=Ty.eq_of h.2;have hp:_=len hd:=hp;subst hp;exact .c fun _=>rfl
  ·cases h
 |.fln t,v,l,h,hp=>by
  unfold XV.mt at h;split at h
  ·cases h;exact fun rest=>⟨.fln t,rfl,rfl,rfl⟩
  ·cases h
 |.sl hd t o n,v,l,h,hp=>by
  unfold XV.mt at h;split at h
  ·split at h
   ·rename_i hh;cases h;rw[ν]at hh;obtain rfl:=Hd.eqb_iff.1 hh.1;obtain rfl:=Ty.eq_of hh.2;exact fun rest=>⟨_,rfl,rfl,rfl⟩
   ·cases h
  ·cases h
 |.ptr hd o,v,l,h,hp=>by
  unfold XV.mt at h;split at h
  ·obtain⟨hh,rfl⟩:=kB h;replace h:=hh;rw[ν]at h;obtain rfl:=Hd.eqb_iff.1 h.1;obtain rfl:=ι h.2;exact .c fun _=>rfl
  ·cases h
 |.rpt hd o,v,l,h,hp=>by
  unfold XV.mt at h;split at h
  ·obtain⟨hh,rfl⟩:=kB h;replace h:=hh;rw[ν]at h;obtain rfl:=Hd.eqb_iff.1 h.1;obtain rfl:=ι h.2;exact .c fun _=>rfl
  ·cases h
 |.apt hd o,v,l,h,hp=>by
  unfold XV.mt at h;split at h
  ·obtain⟨hh,rfl⟩:=kB h;replace h:=hh;rw[ν]at h;obtain rfl:=Hd.eqb_iff.1 h.1;obtain rfl:=ι h.2;exact .c fun _=>rfl
  ·cases h
 |.mref hd,v,l,h,hp=>by
  unfold XV.mt at h;split at h
  ·obtain⟨hh,rfl⟩:=kB h;replace h:=hh;obtain rfl:=Hd.eqb_iff.1 h;exact .c fun _=>rfl
  ·cases h
 |.itr a c,v,l,h,hp=>by
  unfold XV.mt at h;split at h
  ·obtain⟨hh,rfl⟩:=kB h;replace h:=hh;rw[ν]at h;obtain rfl:=Hd.eqb_iff.1 h.1;obtain rfl:=Hd.eqb_iff.1 h.2;exact .c fun _=>rfl
  ·cases h
 |.agg cs,v,l,h,hp=>by
  unfold XV.mt at h;split at h
  ·have:=aMp (ms:=cs) h hp;intro rest;obtain⟨vs',h1,_,h3⟩:=this rest;refine⟨.agg vs',?_,congrArg AV.agg h3,h3⟩;unfold XV.fil;rw[h1]
  ·cases h
 |.clo f cs,v,l,h,hp=>by
  unfold XV.mt at h;split at h
  ·split at h
   ·rename_i hb;obtain rfl:=ι hb;have:=aMp (ms:=cs) h hp;intro rest;obtain⟨vs',h1,h2,_⟩:=this rest;refine⟨.clo f vs',?_,congrArg (AV.clo f) h2,congrArg (fun l=>[AV.clo f l]) h2⟩;unfold XV.fil;rw[h1]
   ·cases h
  ·cases h
 |.nl t,v,l,h,hp=>by
  unfold XV.mt at h;split at h
  ·cases h;exact fun rest=>⟨_,rfl,rfl,rfl⟩
  ·cases h
 |.un,v,l,h,hp=>by
  unfold XV.mt at h;split at h
  ·cases h;exact .c fun _=>rfl
  ·cases h
 |.sc,v,l,h,hp=>by
  unfold XV.mt at h;split at h
  ·cases h;exact .c fun _=>rfl
  ·cases h
 |.c x,v,l,h,hp=>by
  unfold XV.mt at h;split at h
  ·obtain⟨hh,rfl⟩:=kB h;replace h:=hh;obtain rfl:=aZ5 h;exact .c fun _=>rfl
  ·cases h
 |.yld,v,l,h,hp=>by
  unfold XV.mt at h;split at h
  ·cases h;exact .c fun _=>rfl
  ·cases h
 |.gst q,v,l,h,hp=>by
  unfold XV.mt at h;split at h
  ·obtain⟨hh,rfl⟩:=kB h;replace h:=hh;obtain rfl:=GX.eqb_ok h;exact .c fun _=>rfl
  ·cases h
 |.any,v,l,h,hp=>by cases h
 |.ab,v,l,h,hp=>by cases h
 |.ept _ _ _ _,v,l,h,hp=>by cases h
 |.pa _ _ _,v,l,h,hp=>by cases h
 |.epa _ _ _ _ _,v,l,h,hp=>by cases h
 |.rop _ _ _,v,l,h,hp=>by cases h
 |.fl _ _,v,l,h,hp=>by cases h
 |.asl _ _ _,v,l,h,hp=>by cases h
 |.rpa _ _ _,v,l,h,hp=>by cases h
 |.rsl _ _ _ _,v,l,h,hp=>by cases h
 |.tup _,v,l,h,hp=>by cases h
theorem aMp[YL]{len:Hd->Nat}:∀{ms vs:List XV} {l:List DS},XV.mtL ms vs=some l->slP.slPL (fun h n=>n=len h) vs->∀rest,∃vs',XV.filL len ms (l++rest)=(vs',rest)/\XV.erL vs'=XV.erL vs/\XV.fcL vs'=XV.fcL vs
 |[],[],l,h,hp=>by
  cases h;exact fun rest=>⟨[],rfl,rfl,rfl⟩
 |m::ms,v::vs,l,h,hp=>by
  unfold XV.mtL at h;split at h
  ·rename_i a c h1 h2;cases h;have f1:=bFs h1 hp.1;have f2:=aMp h2 hp.2;intro rest;obtain⟨v',e1,e2,e3⟩:=f1 (c++rest);obtain⟨vs',e4,e5,e6⟩:=f2 rest;refine⟨v'::vs',?_,?_,?_⟩
   ·unfold XV.filL;rw[υ,e1];simp only;rw[e4]
   ·show v'.er::XV.erL vs'=v.er::XV.erL vs;rw[e2,e5]
   ·show v'.fc++XV.fcL vs'=v.fc++XV.fcL vs;rw[e3,e6]
  ·cases h
 |[],_::_,l,h,hp=>by cases h
 |_::_,[],l,h,hp=>by cases h
end
mutual
theorem bBw[YL]:∀{m v:XV} {l:List DS},m.mt v=some l->l.length=m.tys.length
 |.d t x,v,l,h=>by
  unfold XV.mt at h;split at h
  ·cases h;rfl
  ·cases h
 |.agg cs,v,l,h=>by
  unfold XV.mt at h;split at h
  ·exact aCu (ms:=cs) h
  ·cases h
 |.clo f cs,v,l,h=>by
  unfold XV.mt at h;split at h
  ·split at h
   ·exact aCu (ms:=cs) h
   ·cases h
  ·cases h
 |.fln t,v,l,h=>by
  unfold XV.mt at h;split at h
  ·cases h;rfl
  ·cases h
 |.sl hd t o n,v,l,h=>by
  unfold XV.mt at h;split at h
  ·split at h
   ·cases h;rfl
   ·cases h
  ·cases h
 |.slw hd t n,v,l,h=>by unfold XV.mt at h;split at h<;>first|(obtain⟨_,rfl⟩:=kB h;rfl)|cases h
 |.ptr hd o,v,l,h=>by unfold XV.mt at h;split at h<;>first|(obtain⟨_,rfl⟩:=kB h;rfl)|cases h
 |.rpt hd o,v,l,h=>by unfold XV.mt at h;split at h<;>first|(obtain⟨_,rfl⟩:=kB h;rfl)|cases h
 |.apt hd o,v,l,h=>by unfold XV.mt at h;split at h<;>first|(obtain⟨_,rfl⟩:=kB h;rfl)|cases h
 |.mref hd,v,l,h=>by unfold XV.mt at h;split at h<;>first|(obtain⟨_,rfl⟩:=kB h;rfl)|cases h
 |.itr a c,v,l,h=>by unfold XV.mt at h;split at h<;>first|(obtain⟨_,rfl⟩:=kB h;rfl)|cases h
 |.c x,v,l,h=>by unfold XV.mt at h;split at h<;>first|(obtain⟨_,rfl⟩:=kB h;rfl)|cases h
 |.nl t,v,l,h=>by unfold XV.mt at h;split at h<;>first|(cases h;rfl;done)|(cases h;done)
 |.un,v,l,h=>by unfold XV.mt at h;split at h<;>first|(cases h;rfl;done)|(cases h;done)
 |.sc,v,l,h=>by unfold XV.mt at h;split at h<;>first|(cases h;rfl;done)|(cases h;done)
 |.yld,v,l,h=>by unfold XV.mt at h;split at h<;>first|(cases h;rfl;done)|(cases h;done)
 |.gst _,v,l,h=>by unfold XV.mt at h;split at h<;>first|(obtain⟨_,rfl⟩:=kB h;rfl)|cases h
 |.any,v,l,h=>by cases h
 |.ab,v,l,h=>by cases h
 |.ept _ _ _ _,v,l,h=>by cases h
 |.pa _ _ _,v,l,h=>by cases h
 |.epa _ _ _ _ _,v,l,h=>by cases h
 |.rop _ _ _,v,l,h=>by cases h
 |.fl _ _,v,l,h=>by cases h
 |.asl _ _ _,v,l,h=>by cases h
 |.rpa _ _ _,v,l,h=>by cases h
 |.rsl _ _ _ _,v,l,h=>by cases h
 |.tup _,v,l,h=>by cases h
theorem aCu[YL]:∀{ms vs:List XV} {l:List DS},XV.mtL ms vs=some l->l.length=(XV.tysL ms).length
 |[],[],l,h=>by cases h;rfl
 |m::ms,v::vs,l,h=>by
  unfold XV.mtL at h;split at h
  ·rename_i a c h1 h2;cases h;show _=(m.tys++XV.tysL ms).length;rw[κ,κ,bBw h1,aCu h2]
  ·cases h
 |[],_::_,l,h=>by cases h
 |_::_,[],l,h=>by cases h
end
def bHj(s:XS)(φ:Hd->Option Hd)(b:XB)(K:XB->Option R):Option R:=match b with
 |.box cs=>aWj s φ cs fun l=>K (.box l)
 |.mp wr K0 V es hole (some (h,q))=>match φ h with
  |some h'=>K (.mp wr K0 V es hole (some (h',q)))
  |none=>none
 |b=>K b
def bJ3(P:Hd->Nat->Prop):XB->Prop
 |.box cs=>slP.slPL P cs
 |_=>True
theorem bDb[YL]{s:XS}{b:XB}{K:XB->Option R}{r:R}(q:bHj s φ b K=some r):∃b',K b'=some r/\Blk.conv s.er.lk φ b.er=b'.er/\bJ3 (yY s φ) b'/\b'.rlen=b.rlen:=by
 unfold bHj at q;split at q
 ·obtain⟨l,q,_,e2,e3⟩:=aCa q;exact⟨_,q,congrArg Blk.box e2,e3,rfl⟩
 ·rename_i wr K0 V es hole h cur;split at q
  ·rename_i h' e;refine⟨_,q,?_,trivial,rfl⟩;show Blk.conv _ _ (.mp _ _ (itX K0 (some (h,cur))))=.mp _ _ (itX K0 (some (h',cur)));obtain⟨c,rem⟩:=cur;have e0:aO6 wr K0 V es hole (some (h',c,rem))=aO6 wr K0 V es hole (some (h,c,rem)):=by cases wr<;>rfl
   show Blk.mp _ (aO6 wr K0 V es hole (some (h,c,rem))) ((some (h,_,_):Option (Hd×List AV×List AV)).bind _)=Blk.mp _ (aO6 wr K0 V es hole (some (h',c,rem))) _;rw[e0];simp only[Option.bind_some,e,Option.map_some];rfl
  ·cases q
 ·rename_i h1 h2;refine⟨_,q,?_,?_,rfl⟩
  ·cases b with
   |box cs=>exact absurd rfl (h1 cs)
   |row=>rfl
   |rb=>rfl
   |arr=>rfl
   |mp wr K0 V es hole i=>cases i with
    |none=>rfl
    |some p=>exact absurd rfl (h2 wr K0 V es hole p.1 p.2)
   |it=>rfl
   |sb=>rfl
  ·cases b with
   |box cs=>exact absurd rfl (h1 cs)
   |_=>trivial
def aRr(s:XS)(φ:Hd->Option Hd):List (Option XB)->(List (Option XB)->Option R)->Option R
 |[],K=>K []
 |none::r,K=>aRr s φ r fun l=>K (none::l)
 |some b::r,K=>bHj s φ b fun b'=>aRr s φ r fun l=>K (some b'::l)
def slPBs(P:Hd->Nat->Prop):List (Option XB)->Prop
 |[]=>True
 |none::r=>slPBs P r
 |some b::r=>bJ3 P b/\slPBs P r
def vS:List (Option XB)->List Nat
 |[]=>[]
 |none::r=>0::vS r
 |some b::r=>b.rlen::vS r
theorem xP:∀(l:List (Option XB)) (i:Nat) (b:XB),bG l i=some b->aKv (vS l) i=b.rlen
 |[],_,_,h=>by cases h
 |none::r,0,_,h=>by cases h
 |some c::r,0,b,h=>by cases h;rfl
 |none::r,i+1,b,h=>xP r i b h
 |some c::r,i+1,b,h=>xP r i b h
def erB[YL](l:List (Option XB)):List (Option Blk):=l.map fun b=>b.map XB.er
theorem aBh[YL]{s:XS}{φ:Hd->Option Hd}{r:R}:∀{l:List (Option XB)} {K:List (Option XB)->Option R},aRr s φ l K=some r->∃l',K l'=some r/\(erB l).map (fun b=>b.map (Blk.conv s.er.lk φ))=erB l'/\slPBs (yY s φ) l'/\vS l'=vS l
 |[],K,q=>⟨[],q,rfl,trivial,rfl⟩
 |none::l,K,q=>by
  obtain⟨l',q,e1,e2,e3⟩:=aBh (l:=l) q;exact⟨_,q,by show none::(erB l).map _=none::erB l';rw[e1],e2,by show 0::vS l'=0::vS l;rw[e3]⟩
 |some b::l,K,q=>by obtain⟨b',q,f1,f2,f3⟩:=bDb (b:=b) q;obtain⟨l',q,e1,e2,e3⟩:=aBh (l:=l) q;exact⟨_,q,by show some (Blk.conv _ _ b.er)::(erB l).map _=some b'.er::erB l';rw[e1,f1],⟨f2,e2⟩,by show b'.rlen::vS l'=b.rlen::vS l;rw[e3,f3]⟩
def XB.mt(m b:XB):Option (List DS):=match m,b with
 |.box ms,.box cs=>XV.mtL ms cs
 |.row mt t _,.row mt' t' xs=>match mt==mt',t'.beq t with
  |true,true=>some [⟨.sl t',xs⟩]
  |_,_=>none
 |.arr mt n k _,.arr mt' n' k' x=>match mt==mt',(Ty.ar n' k').beq (.ar n k)with
  |true,true=>some [⟨.ar n' k',x⟩]
  |_,_=>none
 |.mp wr K V _ none none,.mp wr' K' V' es none none=>match wr==wr',(Ty.p K' V').beq (.p K V)with
  |true,true=>some [⟨.sl (.p K' V'),es⟩]
  |_,_=>none
 |.mp wr K V _ none (some (h,_)),.mp wr' K' V' es none (some (h',none,rem))=>match h.eqb h'&&(wr==wr'),(Ty.p K' V').beq (.p K V)with
  |true,true=>some [⟨.sl (.p K' V'),es⟩,⟨.sl K',rem⟩]
  |_,_=>none
 |.rb mt t _,.rb mt' t' x=>match mt==mt',t'.beq t with
  |true,true=>some [⟨t',x⟩]
  |_,_=>none
 |.it,.it=>some []
 |.sb (T,e) _ _,.sb (T',e') us' xs=>match bb T T',bb e e' with
  |true,true=>some [⟨.b,us'⟩,⟨.sl (.i .u8),xs⟩]
  |_,_=>none
 |_,_=>none
theorem bJ8[YL]{m b:XB}{l:List DS}(h:m.mt b=some l)(hp:bJ3 (fun h n=>n=len h) b):l.length=m.tys.length/\∀rest,∃b',m.fil len (l++rest)=(b',rest)/\b'.er=b.er:=by
 unfold XB.mt at h;split at h
 ·rename_i ms cs;refine⟨aCu h,fun rest=>?_⟩;obtain⟨vs',e1,_,e3⟩:=aMp h hp rest;exact⟨.box vs',by show(XB.box (XV.filL len ms (l++rest)).1,(XV.filL len ms (l++rest)).2)=_;rw[e1],congrArg Blk.box e3⟩
 ·split at h
  ·rename_i h1 _;cases h;exact⟨rfl,fun rest=>⟨_,rfl,by rw[eq_of_beq h1];rfl⟩⟩
  ·cases h
 ·split at h
  ·rename_i h1 _;cases h;exact⟨rfl,fun rest=>⟨_,rfl,by rw[eq_of_beq h1];rfl⟩⟩
  ·cases h
 ·split at h
  ·rename_i h1 _;cases h;obtain rfl:=eq_of_beq h1;exact⟨rfl,fun rest=>⟨_,rfl,rfl⟩⟩
  ·cases h
 ·split at h
  ·rename_i h1 _;cases h;rw[ν]at h1;obtain rfl:=Hd.eqb_iff.1 h1.1;obtain rfl:=eq_of_beq h1.2;refine⟨rfl,fun rest=>⟨_,rfl,?_⟩⟩;show(bBv _ (XB.mp _ _ _ _ none none) ⟨.sl _,_⟩).er=_;unfold bBv;simp only[bJl,Ty.cst_self]
  ·cases h
 ·split at h
  ·rename_i h1 _;cases h;exact⟨rfl,fun rest=>⟨_,rfl,by rw[eq_of_beq h1]⟩⟩
  ·cases h
 ·cases h;exact⟨rfl,fun rest=>⟨_,rfl,rfl⟩⟩
 ·split at h
  ·rename_i h1 h2;cases h;obtain rfl:=ι h1;obtain rfl:=ι h2;refine⟨rfl,fun rest=>⟨_,rfl,?_⟩⟩;show(bH0 _ ⟨.b,_⟩ ⟨.sl (.i .u8),_⟩).er=_;unfold bH0;simp only[Ty.cst_self]
  ·cases h
 ·cases h
def aJ4:List (Option XB)->List (Option XB)->Option (List DS)
 |[],[]=>some []
 |none::ms,none::bs=>aJ4 ms bs
 |some m::ms,some b::bs=>match m.mt b,aJ4 ms bs with
  |some a,some c=>some (a++c)
  |_,_=>none
 |_,_=>none
theorem aFr[YL]{len:Hd->Nat}:∀{ms bs:List (Option XB)} {l:List DS},aJ4 ms bs=some l->slPBs (fun h n=>n=len h) bs->l.length=(aEa ms).length/\∀rest,∃bs',pN len ms (l++rest)=(bs',rest)/\erB bs'=erB bs
 |[],[],l,h,hp=>by
  cases h;exact⟨rfl,fun rest=>⟨[],rfl,rfl⟩⟩
 |none::ms,none::bs,l,h,hp=>by
  have h:aJ4 ms bs=some l:=h;obtain⟨h1,h2⟩:=aFr h hp;refine⟨h1,fun rest=>?_⟩;obtain⟨bs',e1,e2⟩:=h2 rest;exact⟨none::bs',by unfold pN;rw[e1],by show none::erB bs'=none::erB bs;rw[e2]⟩
 |some m::ms,some b::bs,l,h,hp=>by
  unfold aJ4 at h;split at h
  ·rename_i a c h1 h2;cases h;obtain⟨f1,f2⟩:=bJ8 h1 hp.1;obtain⟨g1,g2⟩:=aFr h2 hp.2;refine⟨by show _=(m.tys++aEa ms).length;rw[κ,κ,f1,g1],fun rest=>?_⟩;obtain⟨b',e1,e2⟩:=f2 (c++rest);obtain⟨bs',e3,e4⟩:=g2 rest;refine⟨some b'::bs',?_,by show some b'.er::erB bs'=some b.er::erB bs;rw[e2,e4]⟩;unfold pN;rw[υ,e1];simp only;rw[e3]
  ·cases h
 |[],none::_,l,h,hp=>by cases h
 |[],some _::_,l,h,hp=>by cases h
 |none::_,[],l,h,hp=>by cases h
 |some _::_,[],l,h,hp=>by cases h
 |none::_,some _::_,l,h,hp=>by cases h
 |some _::_,none::_,l,h,hp=>by cases h
theorem bAe{m b:XB}{l:List DS}(h:m.mt b=some l):(∃mt t xs p,m=.row mt t xs/\l=[p]/\DS.rlen p=b.rlen)\/((∀mt t xs,m≠.row mt t xs)/\b.rlen=0):=by
 unfold XB.mt at h;split at h
 ·exact .inr ⟨fun _ _ _ e=>(by cases e),rfl⟩
 ·split at h
  ·cases h;exact .inl ⟨_,_,_,_,rfl,rfl,rfl⟩
  ·cases h
 ·exact .inr ⟨fun _ _ _ e=>(by cases e),rfl⟩
 ·exact .inr ⟨fun _ _ _ e=>(by cases e),rfl⟩
 ·exact .inr ⟨fun _ _ _ e=>(by cases e),rfl⟩
 ·exact .inr ⟨fun _ _ _ e=>(by cases e),rfl⟩
 ·exact .inr ⟨fun _ _ _ e=>(by cases e),rfl⟩
 ·exact .inr ⟨fun _ _ _ e=>(by cases e),rfl⟩
 ·cases h
theorem bCy[YL]{m b:XB}{l:List DS}(h:m.mt b=some l):l.length=m.tys.length:=by
 unfold XB.mt at h;split at h
 ·exact aCu h
 all_goals first|(cases h;rfl;done)|(split at h<;>first|(cases h;rfl;done)|(cases h;done))|(cases h;done)
theorem yH[YL]:∀{ms bs:List (Option XB)} {l:List DS},aJ4 ms bs=some l->∀rest,oU ms (l++rest)=vS bs
 |[],[],l,h,rest=>rfl
 |none::ms,none::bs,l,h,rest=>by
  have h:aJ4 ms bs=some l:=h;show 0::oU ms (l++rest)=0::vS bs;rw[yH h]
 |some m::ms,some b::bs,l,h,rest=>by
  unfold aJ4 at h;split at h
  ·rename_i a c h1 h2;cases h;have e1:=bAe h1;have e2:=bCy h1;have e3:=yH h2 rest;show oU (some m::ms) _=b.rlen::vS bs;rcases e1 with⟨mt,t,xs,p,rfl,rfl,hp⟩|⟨hn,e1⟩
   ·show DS.rlen p::oU ms (c++rest)=_;rw[hp,e3]
   ·have:oU (some m::ms) (a++c++rest)=0::oU ms ((a++c++rest).drop m.tys.length):=by
     cases m with
     |row mt t xs=>exact absurd rfl (hn mt t xs)
     |_=>rfl
    rw[this,e1,υ,<-e2,ky,e3]
  ·cases h
 |[],none::_,l,h,_=>by cases h
 |[],some _::_,l,h,_=>by cases h
 |none::_,[],l,h,_=>by cases h
 |some _::_,[],l,h,_=>by cases h
 |none::_,some _::_,l,h,_=>by cases h
 |some _::_,none::_,l,h,_=>by cases h
def bHu(s:XS)(φ:Hd->Option Hd)(ev:Nat->XV):List (Nat×XV)->(List XV->Option R)->Option R
 |[],K=>K []
 |(n,_)::r,K=>xcv s φ (ev n) fun v=>bHu s φ ev r fun l=>K (v::l)
theorem aVi[YL]{s:XS}{φ:Hd->Option Hd}{ev:Nat->XV}{r:R}:∀{l:List (Nat×XV)} {K:List XV->Option R},bHu s φ ev l K=some r->∃vs,K vs=some r/\l.map (fun p=>AV.conv s.er.lk φ (ev p.1).er)=vs.map XV.er/\slP.slPL (yY s φ) vs
 |[],K,q=>⟨[],q,rfl,trivial⟩
 |(n,m)::l,K,q=>by obtain⟨v,q,f1,_,f3⟩:=aR7 (v:=ev n) q;obtain⟨vs,q,e1,e2⟩:=aVi (l:=l) q;exact⟨_,q,by show AV.conv _ _ (ev n).er::l.map _=v.er::vs.map XV.er;rw[f1,e1],f3,e2⟩
def mtE:List (Nat×XV)->List XV->Option (List DS)
 |[],[]=>some []
 |(_,m)::ms,v::vs=>match m.mt v,mtE ms vs with
  |some a,some c=>some (a++c)
  |_,_=>none
 |_,_=>none
theorem aSk[YL]{len:Hd->Nat}:∀{ms:List (Nat×XV)} {vs:List XV} {l:List DS},mtE ms vs=some l->slP.slPL (fun h n=>n=len h) vs->l.length=(aTj ms).length/\∀rest,∃e,aAh len ms (l++rest)=(e,rest)/\e.map (·.1)=ms.map (·.1)/\e.map (fun p=>p.2.er)=vs.map XV.er
 |[],[],l,h,hp=>by
  cases h;exact⟨rfl,fun rest=>⟨[],rfl,rfl,rfl⟩⟩
 |(n,m)::ms,v::vs,l,h,hp=>by
  unfold mtE at h;split at h
  ·rename_i a c h1 h2;cases h;have f1:=bFs h1 hp.1;obtain⟨g1,g2⟩:=aSk h2 hp.2;refine⟨by show _=(m.tys++aTj ms).length;rw[κ,κ,bBw h1,g1],fun rest=>?_⟩;obtain⟨v',e1,e2,_⟩:=f1 (c++rest);obtain⟨e,e3,e4,e5⟩:=g2 rest;refine⟨(n,v')::e,?_,by show n::e.map _=n::ms.map _;rw[e4],by show v'.er::e.map _=v.er::vs.map XV.er;rw[e2,e5]⟩;unfold aAh;rw[υ,e1];simp only;rw[e3]
  ·cases h
 |[],_::_,l,h,hp=>by cases h
 |_::_,[],l,h,hp=>by cases h
mutual
theorem slP.mono[YL]{P Q:Hd->Nat->Prop}(h:∀a n,P a n->Q a n):∀{v:XV},slP P v->slP Q v
 |.slw _ _ _,hp=>h _ _ hp
 |.agg cs,hp=>slPL.mono h (vs:=cs) hp
 |.tup cs,hp=>slPL.mono h (vs:=cs) hp
 |.clo _ cs,hp=>slPL.mono h (vs:=cs) hp
 |.d _ _,_=>trivial
 |.any,_=>trivial
 |.un,_=>trivial
 |.ab,_=>trivial
 |.ptr _ _,_=>trivial
 |.ept _ _ _ _,_=>trivial
 |.apt _ _,_=>trivial
 |.pa _ _ _,_=>trivial
 |.epa _ _ _ _ _,_=>trivial
 |.rop _ _ _,_=>trivial
 |.fl _ _,_=>trivial
 |.fln _,_=>trivial
 |.nl _,_=>trivial
 |.sl _ _ _ _,_=>trivial
 |.asl _ _ _,_=>trivial
 |.rpt _ _,_=>trivial
 |.rpa _ _ _,_=>trivial
 |.rsl _ _ _ _,_=>trivial
 |.mref _,_=>trivial
 |.itr _ _,_=>trivial
 |.sc,_=>trivial
 |.c _,_=>trivial
 |.yld,_=>trivial
 |.gst _,_=>trivial
theorem slPL.mono[YL]{P Q:Hd->Nat->Prop}(h:∀a n,P a n->Q a n):∀{vs:List XV},slP.slPL P vs->slP.slPL Q vs
 |[],_=>trivial
 |_::_,hp=>⟨slP.mono h hp.1,slPL.mono h hp.2⟩
end
theorem slPBs.mono[YL]{P Q:Hd->Nat->Prop}(h:∀a n,P a n->Q a n):∀{l:List (Option XB)},slPBs P l->slPBs Q l
 |[],_=>trivial
 |none::l,hp=>slPBs.mono h (l:=l) hp
 |some (.box cs)::l,hp=>⟨slPL.mono h hp.1,slPBs.mono h (l:=l) hp.2⟩
 |some (.row _ _ _)::l,hp=>⟨trivial,slPBs.mono h (l:=l) hp.2⟩
 |some (.rb _ _ _)::l,hp=>⟨trivial,slPBs.mono h (l:=l) hp.2⟩
 |some (.arr _ _ _ _)::l,hp=>⟨trivial,slPBs.mono h (l:=l) hp.2⟩
 |some (.mp _ _ _ _ _ _)::l,hp=>⟨trivial,slPBs.mono h (l:=l) hp.2⟩
 |some .it::l,hp=>⟨trivial,slPBs.mono h (l:=l) hp.2⟩
 |some (.sb _ _ _)::l,hp=>⟨trivial,slPBs.mono h (l:=l) hp.2⟩
def rdK(s:XS)(φ:Hd->Option Hd)(m:XS)(ev:Nat->XV)(bl ol:List (Option XB))(K:tup m.tys->Option R):Option R:=
 bHu s φ ev m.env fun vs=>aRr s φ bl fun bs=>aRr s φ ol fun os=>match mtE m.env vs,aJ4 m.bs bs,aJ4 m.own os with
  |some l1,some l2,some l3=>match aDy m.tys (l1++(l2++l3))with
   |some v=>K v
   |none=>none
  |_,_,_=>none
theorem aZx[YL]{s:XS}{m:XS}{ev:Nat->XV}{bl ol:List (Option XB)}{K:tup m.tys->Option R}{r:R}(hφ:∀h h' b,φ h=some h'->s.lk h=some b->match h' with|.B i=>bG bl i=some b|.O i=>bG ol i=some b)
  (q:rdK s φ m ev bl ol K=some r):∃v,K v=some r/\(m.fill v).env.map (fun p=>(p.1,p.2.er))=m.env.map (fun p=>(p.1,AV.conv s.er.lk φ (ev p.1).er))/\
   erB (m.fill v).bs=(erB bl).map (fun b=>b.map (Blk.conv s.er.lk φ))/\erB (m.fill v).own=(erB ol).map (fun b=>b.map (Blk.conv s.er.lk φ)):=by
 unfold rdK at q;obtain⟨vs,q,a1,a2⟩:=aVi q;obtain⟨bs,q,b1,b2,b3⟩:=aBh q;obtain⟨os,q,c1,c2,c3⟩:=aBh q;split at q
 ·rename_i l1 l2 l3 h1 h2 h3;split at q
  ·rename_i v hv;refine⟨v,q,?_⟩;have hL:=aIb hv;have hlen:∀h n,yY s φ h n->n=bIy (oU m.bs (l2++l3)) (oU m.own (l3++[])) h:=fun h' n ⟨h,mt,t,xs,e1,e2,e3⟩=>by
    have:=hφ h h' _ e1 e2;cases h' with
    |B i=>
     show n=aKv (oU m.bs (l2++l3)) i;rw[yH h2,b3,xP _ _ _ this];exact e3
    |O i=>
     show n=aKv (oU m.own (l3++[])) i;rw[yH h3,c3,xP _ _ _ this];exact e3
   obtain⟨x1,x2⟩:=aSk h1 (slPL.mono hlen a2);obtain⟨y1,y2⟩:=aFr h2 (slPBs.mono hlen b2);obtain⟨z1,z2⟩:=aFr h3 (slPBs.mono hlen c2);obtain⟨e,x3,x4,x5⟩:=x2 (l2++l3);obtain⟨bs',y3,y4⟩:=y2 l3;obtain⟨os',z3,z4⟩:=z2 [];have hf:m.fill v={env:=e,bs:=bs',own:=os'}:=by show m.fil (sgs m.tys v)=_;rw[hL];unfold XS.fil;simp only;rw[<-x1,ky,<-y1,ky];rw[χ]at x3 y3 z3;rw[x3];simp only;rw[y3];simp only;rw[z3]
   rw[hf];refine⟨?_,by show erB bs'=_;rw[y4,b1],by show erB os'=_;rw[z4,c1]⟩;show e.map _=_;have e1:e.map (fun p=>(p.1,p.2.er))=(e.map (·.1)).zip (e.map fun p=>p.2.er):=by rw[List.zip_map',]
   have e2:m.env.map (fun p=>(p.1,AV.conv s.er.lk φ (ev p.1).er))=(m.env.map (·.1)).zip (m.env.map fun p=>AV.conv s.er.lk φ (ev p.1).er):=by rw[List.zip_map']
   rw[e1,e2,x4,x5,a1]
  ·cases q
 ·cases q
end
section
variable{R:Type}
theorem Wk.mpIt(s:AState)(h:Hd){kd:KD}{es:List (AV×MV)}{i i':Option (Hd×List AV×List AV)}(hl:s.lk h=some (.mp kd es i))(hi:i'=none\/∃x cur rem,i=some (x,cur,rem)/\i'=some (x,[],rem)):Wk s (s.setBlk h (some (.mp kd es i'))):=fun E a w ⟨G,m,hA⟩=>by
 have hlk:∀x,(s.setBlk h (some (.mp kd es i'))).lk x=if x=h then some (.mp kd es i')else s.lk x:=fun x=>bL _ _ _ _
 have henv:(s.setBlk h (some (.mp kd es i'))).env=s.env:=eY _ _ _;refine⟨G,m,⟨fun x b sz hx=>?_,fun x hx=>?_,hA.sim.injG,hA.sim.gh,fun x hx=>?_,hA.sim.gl,fun x b sz fp hx=>?_⟩,fun u=>by rw[henv];exact hA.env u,hA.size,hA.defers,by rw[henv];exact hA.jok,fun j hj=>hA.fresh j (by rw[bZ]at hj;exact hj),hA.frame,hA.base,hA.own,trivial,fun j hj=>lJ hA.nxOk ⟨_,hl⟩ j (by rw[bZ]at hj;exact hj)⟩
 ·obtain⟨bl,h1,h2⟩:=hA.sim.blk x b sz hx;rw[hlk];by_cases e:x=h
  ·subst e;rw[hl]at h1;cases h1;exact h2.elim
  ·rw[if_neg e];exact⟨bl,h1,h2⟩
 ·obtain⟨mt,k,h1⟩:=hA.sim.nil x hx;rw[hlk];by_cases e:x=h
  ·subst e;rw[hl]at h1;cases h1
  ·rw[if_neg e];exact⟨mt,k,h1⟩
 ·have h1:=hA.sim.dead x hx;rw[hlk];by_cases e:x=h
  ·subst e;rw[hl]at h1;cases h1
  ·rw[if_neg e];exact h1
 ·obtain⟨bl,h1,h2⟩:=hA.sim.blkx x b sz fp hx;rw[hlk];by_cases e:x=h
  ·subst e;rw[hl]at h1;cases h1;rw[if_pos rfl];obtain⟨q1,q2,arr,clk,q3,q4,q5,q6,q7⟩:=h2;refine⟨_,rfl,q1,q2,arr,clk,q3,q4,q5,q6,fun y q hq=>?_⟩;rcases hi with rfl|⟨x',cur,rem,rfl,rfl⟩
   ·cases hq
   ·cases hq;obtain⟨loc,p1,p2⟩:=q7 _ _ rfl;refine⟨loc,p1,fun hd=>?_⟩;obtain⟨bi,sz',fp',seen,l,p3,p4,p5,p6,_⟩:=p2 hd;exact⟨bi,sz',fp',seen,l,p3,p4,p5,p6,fun key e=>by cases e⟩
  ·rw[if_neg e];exact⟨bl,h1,h2⟩
def bJa(keep:Bool)(s:XS)(h:Hd):XS:=match s.lk h with
 |some (.mp false K V es hole (some (x,cur,rem)))=>match keep with
  |true=>match cur with
   |some _=>s.setBlk h (some (.mp false K V es hole (some (x,none,rem))))
   |none=>s
  |false=>s.setBlk h (some (.mp false K V es hole none))
 |_=>s
theorem bC0[YL](keep:Bool)(s:XS)(h:Hd):Wk s.er (bJa keep s h).er:=by
 unfold bJa;split
 ·rename_i K V es hole x cur rem hl;have hl':s.er.lk h=some (.mp K.kd (aEf false K V es hole) (itX K (some (x,cur,rem)))):=by rw[aT,hl];rfl
  split
  ·split
   ·rw[cA hl];exact Wk.mpIt _ _ hl' (.inr ⟨_,_,_,rfl,rfl⟩)
   ·exact Wk.refl _
  ·rw[cA hl];exact Wk.mpIt _ _ hl' (.inl rfl)
 ·exact Wk.refl _
def aU1(s:XS)(h:Hd)(pre:List XV)(t:Ty)(cs:List XV):XS:=(s.put none .un [.row true t []] []).setBlk h (some (.box (pre++.slw (.O s.own.length) t 0::cs)))
theorem aR2{s:XS}{b:XB}(hl:s.lk h=some b)(nbs:List XB):(s.put none .un nbs []).lk h=some b:=by
 cases h with
 |B i=>exact hl
 |O i=>
  show bG (s.own++nbs.map some) i=_;rw[aGl,if_pos (sA (l:=s.own) hl)];exact hl
theorem aXq{s:XS}{b0:XB}(hl:s.lk h=some b0)(b:Option XB):(s.setBlk h b).lk h=b:=by
 cases h with
 |B i=>
  show bG (xL s.bs i b) i=b;rw[qM _ _ _ _ (sA (l:=s.bs) hl),if_pos rfl]
 |O i=>
  show bG (xL s.own i b) i=b;rw[qM _ _ _ _ (sA (l:=s.own) hl),if_pos rfl]
theorem bBj[YL]{s:XS}{pre:List XV}{t0:Ty}(hl:s.lk h=some (.box (pre++.fln t0::cs))):Wk s.er (aU1 s h pre t cs).er/\(aU1 s h pre t cs).lk h=some (.box (pre++.slw (.O s.own.length) t 0::cs)):=by
 have hl1:=aR2 hl [.row true t []];refine⟨?_,aXq hl1 _⟩;have hl':s.er.lk h=some (.box (XV.fcL (pre++.fln t0::cs))):=by rw[aT,hl];rfl
 have:=AState.ownB_ok s.er h _ (XV.fcL pre).length t.n hl' (by rw[oH,bz (ω _),jy];rfl);unfold aU1;rw[cA hl1,cY];have e:(some (XB.box (pre++XV.slw (.O s.own.length) t 0::cs))).map XB.er=some (.box ((XV.fcL (pre++.fln t0::cs)).set (XV.fcL pre).length (.sl (.O s.er.nx) t.n 0 0))):=by show some (Blk.box (XV.fcL _))=_;rw[oH,oH,List.set_append_right _ _ (ω _),jy];rfl
 rw[e];exact this
def nzC(h:Hd):List XV->List XV->List XV->XS->XS
 |pre,.slw _ t _::ms,.fln _::cs,s=>nzC h (pre++[.slw (.O s.own.length) t 0]) ms cs (aU1 s h pre t cs)
 |pre,_::ms,v::cs,s=>nzC h (pre++[v]) ms cs s
 |_,_,_,s=>s
theorem bJ5[YL]:∀{ms pre cs:List XV} {s:XS},s.lk h=some (.box (pre++cs))->Wk s.er (nzC h pre ms cs s).er:=fun{ms}=>by
 induction ms with
 |nil=>intro pre cs s hl;unfold nzC;exact Wk.refl _
 |cons m ms ih=>
  intro pre cs s hl;unfold nzC;split
  ·cases‹m::ms=_›;obtain⟨h1,h2⟩:=bBj (t:=_) hl;exact h1.trans (ih (by rw[υ];exact h2))
  ·cases‹m::ms=_›;exact ih (by rw[υ];exact hl)
  ·exact Wk.refl _
theorem Wk.trunc(s:AState)(h:Hd){k:Nat}{es:List (List DV)}(n:Nat)(hl:s.lk h=some (.row true k es)):Wk s (s.setBlk h (some (.row true k (es.take n)))):=fun E a w ⟨G,m,hA⟩=>by
 have hlk:∀x,(s.setBlk h (some (.row true k (es.take n)))).lk x=if x=h then some (.row true k (es.take n))else s.lk x:=fun x=>bL _ _ _ _
 have henv:(s.setBlk h (some (.row true k (es.take n)))).env=s.env:=eY _ _ _;refine⟨G,m,⟨fun x b sz hx=>?_,fun x hx=>?_,hA.sim.injG,hA.sim.gh,fun x hx=>?_,hA.sim.gl,fun x b sz fp hx=>?_⟩,fun u=>by rw[henv];exact hA.env u,hA.size,hA.defers,by rw[henv];exact hA.jok,fun j hj=>hA.fresh j (by rw[bZ]at hj;exact hj),hA.frame,hA.base,hA.own,trivial,fun j hj=>lJ hA.nxOk ⟨_,hl⟩ j (by rw[bZ]at hj;exact hj)⟩
 ·obtain⟨bl,h1,h2⟩:=hA.sim.blk x b sz hx;rw[hlk];by_cases e:x=h
  ·subst e;rw[hl]at h1;cases h1;rw[if_pos rfl];obtain⟨vs,T,q1,q2,q3,q4,q5⟩:=h2;exact⟨_,rfl,vs,T,q1,q2,Nat.le_trans (Nat.mul_le_mul_right k (by rw[List.length_take];exact Nat.min_le_right _ _)) q3,DV.rows_take n q4,q5⟩
  ·rw[if_neg e];exact⟨bl,h1,h2⟩
 ·obtain⟨mt,k',h1⟩:=hA.sim.nil x hx;rw[hlk];by_cases e:x=h
  ·subst e;rw[hl]at h1;cases h1;rw[if_pos rfl];exact⟨true,k,by rw[List.take_nil]⟩
  ·rw[if_neg e];exact⟨mt,k',h1⟩
 ·have h1:=hA.sim.dead x hx;rw[hlk];by_cases e:x=h
  ·subst e;rw[hl]at h1;cases h1
  ·rw[if_neg e];exact h1
 ·obtain⟨bl,h1,h2⟩:=hA.sim.blkx x b sz fp hx;rw[hlk];by_cases e:x=h
  ·subst e;rw[hl]at h1;cases h1;exact h2.elim
  ·rw[if_neg e];exact⟨bl,h1,h2⟩
def aMq(s:XS)(n:Nat)(h:Hd)(t:Ty)(len:Nat):XS:=match s.lk h with
 |some (.row true t' xs)=>match t'.beq t with
  |true=>(s.setBlk h (some (.row true t' (xs.take len)))).put (some n) (.slw h t len) [] []
  |false=>s
 |_=>s
theorem aK8[YL]{s:XS}{n:Nat}{len:Nat}(he:cP s.env n=.sl h t 0 len):Wk s.er (aMq s n h t len).er:=by
 unfold aMq;split
 ·rename_i t' xs hl;split
  ·rw[cY,cA hl];have hl':s.er.lk h=some (.row true t'.n (xs.map t'.ds)):=by rw[aT,hl];rfl
   have h1:=Wk.trunc s.er h len hl';have e1:(some (XB.row true t' (xs.take len))).map XB.er=some (.row true t'.n ((xs.map t'.ds).take len)):=by show some (Blk.row true t'.n ((xs.take len).map t'.ds))=_;rw[br]
   rw[e1];refine h1.trans ?_;have e2:((s.er.setBlk h (some (.row true t'.n ((xs.map t'.ds).take len)))).put (some n) (XV.slw h t len).er (List.map XB.er []) [])=s.er.setBlk h (some (.row true t'.n ((xs.map t'.ds).take len))):=by
    refine AState.ext' (fun i=>?_) (fun i=>?_) (fun i=>?_) rfl
    ·show upd _ n _ i=_;unfold upd;rw[eY];by_cases hi:i=n
     ·rw[if_pos hi,hi];show _=(cP s.env n).er;rw[he];rfl
     ·rw[if_neg hi]
    ·rfl
    ·rfl
   rw[e2];exact Wk.refl _
  ·exact Wk.refl _
 ·exact Wk.refl _
def nzE:List (Nat×XV)->XS->XS
 |[],s=>s
 |(n,m)::r,s=>match m,cP s.env n with
  |.slw _ t _,.fln _=>nzE r (s.put (some n) (.slw (.O s.own.length) t 0) [.row true t []] [])
  |.slw _ _ _,.sl h t 0 len=>nzE r (aMq s n h t len)
  |_,_=>nzE r s
theorem aOe[YL]:∀(l:List (Nat×XV)) (s:XS),Wk s.er (nzE l s).er
 |[],s=>Wk.refl _
 |(n,m)::l,s=>by
  unfold nzE;split
  ·rename_i h;refine Wk.trans ?_ (aOe l _);rw[cY];exact AState.own0_ok s.er n _ (by show(cP s.env n).er=_;rw[h];rfl)
  ·rename_i h;exact(aK8 h).trans (aOe l _)
  ·exact aOe l s
def bFz:List (Option Hd)->Nat->Hd->List (Option Hd)
 |[],_,_=>[]
 |none::r,0,h=>some h::r
 |some x::r,0,_=>some x::r
 |x::r,i+1,h=>x::bFz r i h
def aO2(l:List (Option Hd))(i:Option Nat)(h:Hd):List (Option Hd):=match i with
 |some i=>bFz l i h
 |none=>l
mutual
def bNi(vr:Hd->Option Nat):XV->XV->List (Option Hd)->List (Option Hd)
 |.slw h _ _,v,l=>match v with
  |.slw h' _ _=>aO2 l (vr h) h'
  |_=>l
 |.ptr h _,v,l=>match v with
  |.ptr h' _=>aO2 l (vr h) h'
  |_=>l
 |.rpt h _,v,l=>match v with
  |.rpt h' _=>aO2 l (vr h) h'
  |_=>l
 |.apt h _,v,l=>match v with
  |.apt h' _=>aO2 l (vr h) h'
  |_=>l
 |.mref h,v,l=>match v with
  |.mref h'=>aO2 l (vr h) h'
  |_=>l
 |.itr a e,v,l=>match v with
  |.itr a' e'=>aO2 (aO2 l (vr a) a') (vr e) e'
  |_=>l
 |.agg ms,v,l=>match v with
  |.agg vs=>bCi vr ms vs l
  |_=>l
 |.clo _ ms,v,l=>match v with
  |.clo _ vs=>bCi vr ms vs l
  |_=>l
 |_,_,l=>l
def bCi(vr:Hd->Option Nat):List XV->List XV->List (Option Hd)->List (Option Hd)
 |m::ms,v::vs,l=>bCi vr ms vs (bNi vr m v l)
 |_,_,l=>l
end
def aYk(vr:Hd->Option Nat)(ev:Nat->XV):List (Nat×XV)->List (Option Hd)->List (Option Hd)
 |[],l=>l
 |(n,m)::r,l=>aYk vr ev r (bNi vr m (ev n) l)
structure NZ where
 s:XS
 l:List (Option Hd)
def nzB(vr:Hd->Option Nat)(h:Option Hd)(mb:Option XB)(st:NZ):NZ:=match h,mb with
 |some h,some m=>match st.s.lk h,m with
  |some (.box cs),.box ms=>nzB1 vr h ms (nzC h [] ms cs st.s) st.l
  |some (.mp _ _ _ _ _ i),.mp _ _ _ _ _ mi=>⟨bJa mi.isSome st.s h,match mi,i with
   |some (x,_),some (y,_)=>aO2 st.l (vr x) y
   |_,_=>st.l⟩
  |_,_=>st
 |_,_=>st
where nzB1 (vr:Hd->Option Nat) (h:Hd) (ms:List XV) (s:XS) (l:List (Option Hd)):NZ:=⟨s,match s.lk h with
 |some (.box cs)=>bCi vr ms cs l
 |_=>l⟩
theorem aZj[YL](vr:Hd->Option Nat)(h:Option Hd)(mb:Option XB)(st:NZ):Wk st.s.er (nzB vr h mb st).s.er:=by
 unfold nzB;split
 ·split
  ·rename_i hl;exact bJ5 (pre:=[]) hl
  ·exact bC0 _ _ _
  ·exact Wk.refl _
 ·exact Wk.refl _
def bDd(vr:Hd->Option Nat):Nat->List (Option XB)->NZ->NZ
 |_,[],st=>st
 |i,m::r,st=>bDd vr (i+1) r (nzB vr (some (.B i)) m st)
def bJx:List (Option Hd)->Nat->Option Hd
 |[],_=>none
 |x::_,0=>x
 |_::r,i+1=>bJx r i
def bFc(vr:Hd->Option Nat):Nat->List (Option XB)->NZ->NZ
 |_,[],st=>st
 |i,m::r,st=>bFc vr (i+1) r (nzB vr (bJx st.l i) m st)
theorem aMc[YL](vr:Hd->Option Nat):∀(l:List (Option XB)) (i:Nat) (st:NZ),Wk st.s.er (bDd vr i l st).s.er
 |[],_,_=>Wk.refl _
 |m::r,i,st=>(aZj vr _ m st).trans (aMc vr r _ _)
theorem aOi[YL](vr:Hd->Option Nat):∀(l:List (Option XB)) (i:Nat) (st:NZ),Wk st.s.er (bFc vr i l st).s.er
 |[],_,_=>Wk.refl _
 |m::r,i,st=>(aZj vr _ m st).trans (aOi vr r _ _)
def vrO:Hd->Option Nat
 |.O i=>some i
 |.B _=>none
def vrB:Hd->Option Nat
 |.B i=>some i
 |.O _=>none
def aQv:List (Option XB)->List (Option Hd)
 |[]=>[]
 |_::r=>none::aQv r
def bK8(m:XS)(s:XS):NZ:=⟨s,aYk vrO (cP s.env) m.env (aQv m.own)⟩
def nzS(m s:XS):NZ:=bFc vrO 0 m.own (bDd vrO 0 m.bs (bK8 m (nzE m.env s)))
theorem bJo[YL](m s:XS):Wk s.er (nzS m s).s.er:=(aOe m.env s).trans ((aMc vrO m.bs 0 (bK8 m (nzE m.env s))).trans (aOi vrO _ _ _))
def bGh:List (Option Hd)->Option (List Nat)
 |[]=>some []
 |some (.O j)::r=>match bGh r with
  |some l=>some (j::l)
  |none=>none
 |_=>none
def aOr:List Nat->Bool
 |[]=>true
 |x::l=>(sY x l 0).isNone&&aOr l
theorem aK6:∀{l:List Nat},aOr l=true->l.Nodup
 |[],_=>List.nodup_nil
 |x::l,h=>by unfold aOr at h;rw[ν]at h;exact eu.2 ⟨aAq (Option.isNone_iff_eq_none.1 h.1),aK6 h.2⟩
def rH(s:XS):List Nat->List (Option XB)
 |[]=>[]
 |j::r=>bG s.own j::rH s r
theorem aC6(s:XS):∀(sl:List Nat) (i:Nat),bG (rH s sl) i=(sl[i]?).bind fun j=>bG s.own j
 |[],_=>by simp[rH,bG]
 |j::r,0=>rfl
 |j::r,i+1=>by show bG (rH s r) i=_;rw[aC6 s r i];simp
def rd1(m:XS)(ev:XS->Nat->XV)(st:NZ)(K:tup m.tys->Option R):Option R:=match bGh st.l with
 |some sl=>match aOr sl with
  |true=>rdK st.s (phi sl) m (ev st.s) st.s.bs (rH st.s sl) K
  |false=>none
 |none=>none
def rd(m s:XS)(K:tup m.tys->Option R):Option R:=rd1 m (fun s=>cP s.env) (nzS m s) K
theorem oI[YL]:∀(l:List (Option XB)) (i:Nat),((erB l)[i]?).join=(bG l i).map XB.er
 |[],_=>by simp[erB,bG]
 |b::r,0=>rfl
 |b::r,i+1=>by have:=oI r i;simpa[erB,bG]using this
theorem aT4[YL](i:Nat):∀l:List (Nat×XV),(cP l i).er=aJs (l.map fun p=>(p.1,p.2.er)) i
 |[]=>rfl
 |(n,v)::r=>by
  show(if bb i n=true then v else cP r i).er=if i=n then v.er else aJs (r.map _) i
  by_cases h:i=n
  ·rw[if_pos h,if_pos (by rw[gm];exact h)]
  ·rw[if_neg h,if_neg (by rw[gm];exact h)];exact aT4 i r
theorem bBd{s:XS}:∀h h' b,phi sl h=some h'->s.lk h=some b->match h' with|.B i=>bG s.bs i=some b|.O i=>bG (rH s sl) i=some b:=fun h h' b e hl=>by
 cases h with
 |B i=>cases e;exact hl
 |O j=>
  have e:(sY j sl 0).map Hd.O=some h':=e;rw[θ]at e;obtain⟨i,hi,rfl⟩:=e;obtain⟨_,h2⟩:=uK hi;show bG (rH s sl) i=some b;rw[aC6,show sl[i]?=some j from h2];exact hl
structure RdOk [YL] (m s1:XS) (sl:List Nat) (ev:Nat->XV) (f:XS):Prop where
 nd:sl.Nodup
 env:f.env.map (fun p=>(p.1,p.2.er))=m.env.map (fun p=>(p.1,AV.conv s1.er.lk (phi sl) (ev p.1).er))
 bs:erB f.bs=(erB s1.bs).map (fun b=>b.map (Blk.conv s1.er.lk (phi sl)))
 own:erB f.own=(erB (rH s1 sl)).map (fun b=>b.map (Blk.conv s1.er.lk (phi sl)))
theorem bB8[YL]{m:XS}{ev:XS->Nat->XV}{st:NZ}{K:tup m.tys->Option R}{r:R}(h:rd1 m ev st K=some r):∃v sl,K v=some r/\RdOk m st.s sl (ev st.s) (m.fill v):=by
 unfold rd1 at h;split at h
 ·rename_i sl _;split at h
  ·rename_i hn;obtain⟨v,h,e1,e2,e3⟩:=aZx bBd h;exact⟨v,sl,h,aK6 hn,e1,e2,e3⟩
  ·cases h
 ·cases h
theorem RdOk.wk[YL]{m s1:XS}{sl:List Nat}{f:XS}(h:RdOk m s1 sl (cP s1.env) f):Wk s1.er f.er:=by
 have hw:=AState.wk_ok s1.er (m.env.map (·.1)) h.nd;have e:s1.er.wk (m.env.map (·.1)) sl=f.er:=by
  refine AState.ext' (fun i=>?_) (fun i=>?_) (fun i=>?_) ?_
  ·show aJs _ i=(cP f.env i).er;rw[aT4,h.env,List.map_map];rfl
  ·show((bG s1.bs i).map XB.er).map _=(bG f.bs i).map XB.er;rw[<-oI,<-oI,h.bs,az];cases(erB s1.bs)[i]?<;>rfl
  ·show(sl[i]?).bind _=(bG f.own i).map XB.er;rw[<-oI f.own,h.own,az];have:((erB (rH s1 sl))[i]?).join=(sl[i]?).bind fun j=>s1.er.own j:=by rw[oI,aC6];cases sl[i]?<;>rfl
   cases hq:(erB (rH s1 sl))[i]?with
   |none=>
    rw[hq]at this;cases hs:sl[i]?with
    |none=>rfl
    |some j=>
     rw[hs]at this;have this:none=s1.er.own j:=this;show(s1.er.own j).map _=_;rw[<-this];rfl
   |some b=>
    rw[hq]at this;cases hs:sl[i]?with
    |none=>
     rw[hs]at this;have this:b=none:=this;subst this;rfl
    |some j=>
     rw[hs]at this;have this:b=s1.er.own j:=this;subst this;rfl
  ·show sl.length=f.own.length;have:=congrArg List.length h.own;rw[μ]at this;have e1:(erB f.own).length=f.own.length:=μ _;have e2:(erB (rH s1 sl)).length=(rH s1 sl).length:=μ _;have e3:∀l:List Nat,(rH s1 l).length=l.length:=fun l=>by
    induction l with
    |nil=>rfl
    |cons x l ih=>exact congrArg (· +1) ih
   rw[e1,e2,e3]at this;exact this.symm
 rw[e]at hw;exact hw
theorem aRn[YL]{m s:XS}{K:tup m.tys->Option R}{r:R}(h:rd m s K=some r):∃v,K v=some r/\Wk s.er (m.fill v).er:=by obtain⟨v,sl,h,hr⟩:=bB8 h;exact⟨v,h,(bJo m s).trans hr.wk⟩
end
end Go.Eng
