/- Texts of this claim. -/
import Derived.Test.YtoklpgfaedjjpaaGreatDoorYA
import Derived.ProofKit
import Derived.Deep.Slices
import Derived.OpenShut
import Derived.Lib.LaidTab
open Bool renaming and_assoc->k7,and_eq_true->μ,and_true->jl,eq_iff_iff->e7,noConfusion->dh,not_eq_true'->dn,or_eq_true->ig
open Int renaming toNat_natCast->ξ
open List renaming append_assoc->υ,append_nil->bb,drop_append_of_le_length->ee,drop_drop->dv,drop_eq_nil_of_le->ff,drop_zero->cc,ext_getElem?->jc,getD_cons_succ->nu,getElem?_append_left->bp,getElem?_append_right->bx,getElem?_drop->fq,getElem?_eq_getElem->ν,getElem?_eq_none->bw,getElem?_eq_some_iff->χ,getElem?_map->ba,getElem?_of_mem->fg,getElem?_take_of_lt->c6,length_append->ι,length_drop->aw,length_map->κ,length_take->bn,map_append->bq,map_cons->cu,map_drop->cn,map_eq_nil_iff->jd,map_map->ij,map_replicate->jj,map_set->jz,map_take->bu,mem_cons->bo,mem_cons_of_mem->cp,mem_cons_self->cr,nil_append->cz,nodup_cons->fm,nodup_nil->js,replicate->ω,take_append_of_le_length->gf,take_of_length_le->bk
open Nat renaming add_assoc->fw,beq->au,beq_eq->gw,beq_refl->lg,ble->m9,blt->ny,eq_of_beq_eq_true->η,le_add_right->iv,le_of_ble_eq_true->ez,le_refl->τ,lt_of_lt_of_le->dm,lt_or_ge->dj,mul_one->ct,zero_add->bg,zero_le->fo
open Option renaming ite_none_right_eq_some->ε,map_eq_some_iff->θ
set_option linter.all false
namespace Go.Eng
open Go.RowKit
variable{s m ent s':XS}{P:Program}{v a vy y vf vz:XV}{KP:AState->Prop}{k off n sz N bytes:Nat}{t V K:Ty}{vs l xs ys:List XV}{out:List XS}{α:Type}{dst ag:Option Nat}{f:FuncId}{fn:Func}{ty:Option Ty}{hd h:Hd}{rs:List RRes}{c:Code}{q wr:Bool}{yo xo zo:Operand}{hs:List Hd}{j:Int}{zs:List AV}{w:Value}{ds:List DV}{b:Option XB}{nbs:List Blk}{u u1:FrameMode}
section
variable{R:Type}
theorem aHp[YL]{K:List t.T->Option R}{r:R}(h:qV s (.sl t) v K=some r):
  ∃xs:List t.T,K xs=some r/\AV.content s.er.lk v.er=some (xs.map t.ds)/\AV.isS v.er=false:=by
 unfold qV at h;split at h
 ·rename_i t' x;split at h
  ·rename_i y hy;obtain⟨e,rfl⟩:=Ty.cst_ok hy;subst e;exact⟨x,h,rfl,rfl⟩
  ·cases h
 ·rename_i t' xs;split at h
  ·rename_i y hy;obtain⟨e,rfl⟩:=Ty.cst_ok hy;cases e;exact⟨xs,h,rfl,rfl⟩
  ·cases h
 ·have h:K []=some r:=h;exact⟨[],h,rfl,rfl⟩
 ·have h:K []=some r:=h;exact⟨[],h,rfl,rfl⟩
 ·rename_i hd t' len;split at h
  ·rename_i mt t2 xs hl;split at h
   ·rename_i hb;obtain rfl:=Ty.eq_of hb;split at h
    ·rename_i y hy;obtain⟨e,rfl⟩:=Ty.cst_ok hy;cases e
     replace h:=bDg h
     obtain⟨rfl,h⟩:=h;refine⟨xs,h,?_,rfl⟩;show(match s.er.lk hd with|some (.row _ k' es)=>if k'=t.n/\0+xs.length<=es.length then some ((es.drop 0).take xs.length)else none|_=>none)=_;rw[aQ,hl];show(if t.n=t.n/\0+xs.length<=(xs.map t.ds).length then some (((xs.map t.ds).drop 0).take xs.length)else none)=_;rw[if_pos ⟨rfl,by rw[κ];omega⟩,cc,bk (by rw[κ];exact τ _)]
    ·cases h
   ·cases h
  ·cases h
 ·rename_i hd t' off len;split at h
  ·rename_i mt t2 xs hl;split at h
   ·rename_i hb;obtain rfl:=Ty.eq_of hb;split at h
    ·rename_i y hy;obtain⟨e,rfl⟩:=Ty.cst_ok hy;cases e;obtain⟨h1,h⟩:=aX h;refine⟨_,h,?_,rfl⟩;show(match s.er.lk hd with|some (.row _ k' es)=>if k'=t.n/\off+len<=es.length then some ((es.drop off).take len)else none|_=>none)=_;rw[aQ,hl];show(if t.n=t.n/\off+len<=(xs.map t.ds).length then some (((xs.map t.ds).drop off).take len)else none)=_;rw[if_pos ⟨rfl,by rw[κ];exact h1⟩,bu,cn]
    ·cases h
   ·cases h
  ·cases h
 ·rename_i hd off len;split at h
  ·rename_i mt n k x hl;split at h
   ·rename_i y hy;obtain⟨e,rfl⟩:=Ty.cst_ok hy;cases e;obtain⟨h1,h⟩:=aX h;refine⟨_,h,?_,rfl⟩;show(match s.er.lk hd with|some (.row _ k' es)=>if k'=1/\off+len<=es.length then some ((es.drop off).take len)else none|_=>none)=_;rw[aQ,hl];show(if 1=1/\off+len<=(x.l.map (arD k)).length then some (((x.l.map (arD k)).drop off).take len)else none)=some ((aC3 x.l off len n).map (arD k));rw[aJ2 x.len,if_pos ⟨rfl,by rw[κ,x.len];exact h1⟩,bu,cn]
   ·cases h
  ·cases h
 ·rename_i hd off l len;split at h
  ·rename_i mt t2 x hl;split at h
   ·rename_i a ha;split at h
    ·rename_i y hy;obtain⟨e,rfl⟩:=Ty.cst_ok hy;cases e;obtain⟨h1,h⟩:=aX h;obtain⟨c1,c2⟩:=aJs ha h1;refine⟨_,h,?_,rfl⟩;show(match s.er.lk hd with|some (.row _ k' es)=>if k'=1/\off+l+len<=es.length then some ((es.drop (off+l)).take len)else none|_=>none)=_;rw[aQ,hl];show(if 1=1/\off+l+len<=(sgD (t2.ds x)).length then some (((sgD (t2.ds x)).drop (off+l)).take len)else none)=_;rw[if_pos ⟨rfl,c1⟩,c2]
    ·cases h
   ·cases h
  ·cases h
 ·cases h
mutual
def XV.hr:XV->List Hd
 |.sl h _ _ _=>[h]
 |.slw h _ _=>[h]
 |.asl h _ _=>[h]
 |.rsl h _ _ _=>[h]
 |.agg cs=>XV.hrL cs
 |.tup vs=>XV.hrL vs
 |.clo _ vs=>XV.hrL vs
 |_=>[]
def XV.hrL:List XV->List Hd
 |[]=>[]
 |v::vs=>v.hr++XV.hrL vs
end
theorem aOg:∀(a c:List AV),AV.rowsL (a++c)=AV.rowsL a++AV.rowsL c
 |[],c=>rfl
 |x::a,c=>by show AV.rows x++AV.rowsL (a++c)=AV.rows x++AV.rowsL a++AV.rowsL c;rw[aOg a c,υ]
theorem aRf:∀l:List DV,AV.rowsL (l.map .D)=[]
 |[]=>rfl
 |x::l=>aRf l
theorem bCq(x:t.T):AV.rows (cH t x)=[]:=by
 cases hl:nR t with
 |true=>cases t<;>first|rfl|(cases hl;done)
 |false=>rw[nH x hl];exact aRf _
mutual
theorem aH7[YL]:∀v:XV,AV.rows v.er=v.hr
 |.d t x=>bCq x
 |.agg cs=>aRw cs
 |.tup vs=>aC0 vs
 |.clo _ vs=>aC0 vs
 |.any=>rfl
 |.un=>rfl
 |.ab=>rfl
 |.sc=>rfl
 |.ptr _ _=>rfl
 |.ept _ _ _ _=>rfl
 |.apt _ _=>rfl
 |.pa _ _ _=>rfl
 |.epa _ _ _ _ _=>rfl
 |.rop _ _ _=>rfl
 |.fl _ _=>rfl
 |.fln _=>rfl
 |.nl _=>rfl
 |.sl _ _ _ _=>rfl
 |.slw _ _ _=>rfl
 |.asl _ _ _=>rfl
 |.rpt _ _=>rfl
 |.rpa _ _ _=>rfl
 |.rsl _ _ _ _=>rfl
 |.mref _=>rfl
 |.itr _ _=>rfl
 |.c _=>rfl
 |.yld=>rfl
 |.gst _=>rfl
theorem aC0[YL]:∀vs:List XV,AV.rowsL (XV.erL vs)=XV.hrL vs
 |[]=>rfl
 |v::vs=>by show AV.rows v.er++AV.rowsL (XV.erL vs)=_;rw[aH7 v,aC0 vs];rfl
theorem bSo[YL]:∀v:XV,AV.rowsL v.fc=v.hr
 |.d t x=>aRf _
 |.agg cs=>aRw cs
 |.tup vs=>by show AV.rowsL (XV.erL vs)++[]=_;rw[aC0 vs,bb];rfl
 |.clo _ vs=>by show AV.rowsL (XV.erL vs)++[]=_;rw[aC0 vs,bb];rfl
 |.any=>rfl
 |.un=>rfl
 |.ab=>rfl
 |.sc=>rfl
 |.ptr _ _=>rfl
 |.ept _ _ _ _=>rfl
 |.apt _ _=>rfl
 |.pa _ _ _=>rfl
 |.epa _ _ _ _ _=>rfl
 |.rop _ _ _=>rfl
 |.fl _ _=>rfl
 |.fln _=>rfl
 |.nl _=>rfl
 |.sl _ _ _ _=>rfl
 |.slw _ _ _=>rfl
 |.asl _ _ _=>rfl
 |.rpt _ _=>rfl
 |.rpa _ _ _=>rfl
 |.rsl _ _ _ _=>rfl
 |.mref _=>rfl
 |.itr _ _=>rfl
 |.c _=>rfl
 |.yld=>rfl
 |.gst _=>rfl
theorem aRw[YL]:∀vs:List XV,AV.rowsL (XV.fcL vs)=XV.hrL vs
 |[]=>rfl
 |v::vs=>by show AV.rowsL (v.fc++XV.fcL vs)=_;rw[aOg,bSo v,aRw vs];rfl
end
def xfz(s:XS):List Hd->List Hd
 |[]=>[]
 |h::l=>match s.lk h with
  |some _=>h::xfz s l
  |none=>xfz s l
theorem sW[YL](s:XS):∀l:List Hd,fzL s.er.lk l=xfz s l
 |[]=>rfl
 |h::l=>by
  show(h::l).filter _=_;rw[List.filter_cons,aQ];unfold xfz;cases s.lk h with
  |none=>exact sW s l
  |some b=>exact congrArg (h::·) (sW s l)
def flD:Ty->Bool
 |.sl _=>false
 |.o _=>false
 |.p a c=>flD a&&flD c
 |.w a=>flD a
 |_=>true
theorem aXu:∀(a c:List AV),AV.flatL (a++c)=(AV.flatL a&&AV.flatL c)
 |[],c=>rfl
 |x::a,c=>by show(AV.flat x&&AV.flatL (a++c))=(AV.flat x&&AV.flatL a&&AV.flatL c);rw[aXu a c,k7]
theorem sO:∀(t:Ty) (x:t.T),AV.flatL ((t.ds x).map .D)=flD t
 |.u,_=>rfl
 |.b,_=>rfl
 |.i _,_=>rfl
 |.s,_=>rfl
 |.p a c,v=>by
  show AV.flatL ((a.ds v.1++c.ds v.2).map .D)=(flD a&&flD c);rw[bq,aXu,sO a,sO c]
 |.w a,v=>sO a v
 |.ar n k,v=>by
  show AV.flatL ((v.l.map (DV.I k)).map .D)=true;generalize v.l=l
  induction l with
  |nil=>rfl
  |cons x l ih=>exact ih
 |.sl t,v=>rfl
 |.o _,_=>rfl
theorem aO5(x:t.T):AV.flat (cH t x)=flD t:=by
 cases hl:nR t with
 |true=>cases t<;>first|rfl|(cases hl;done)
 |false=>rw[nH x hl];exact sO t x
mutual
def flX:XV->Bool
 |.d t _=>flD t
 |.any=>true
 |.un=>true
 |.ab=>true
 |.sc=>true
 |.c _=>true
 |.gst _=>true
 |.yld=>true
 |.agg cs=>aTd cs
 |.tup cs=>aTd cs
 |_=>false
def aTd:List XV->Bool
 |[]=>true
 |v::vs=>flX v&&aTd vs
end
mutual
theorem aYl[YL]:∀v:XV,AV.flat v.er=flX v
 |.d t x=>aO5 x
 |.agg cs=>aRn cs
 |.tup cs=>aS3 cs
 |.clo _ _=>rfl
 |.any=>rfl
 |.un=>rfl
 |.ab=>rfl
 |.sc=>rfl
 |.ptr _ _=>rfl
 |.ept _ _ _ _=>rfl
 |.apt _ _=>rfl
 |.pa _ _ _=>rfl
 |.epa _ _ _ _ _=>rfl
 |.rop _ _ _=>rfl
 |.fl _ _=>rfl
 |.fln _=>rfl
 |.nl _=>rfl
 |.sl _ _ _ _=>rfl
 |.slw _ _ _=>rfl
 |.asl _ _ _=>rfl
 |.rpt _ _=>rfl
 |.rpa _ _ _=>rfl
 |.rsl _ _ _ _=>rfl
 |.mref _=>rfl
 |.itr _ _=>rfl
 |.c _=>rfl
 |.yld=>rfl
 |.gst _=>rfl
theorem aS3[YL]:∀vs:List XV,AV.flatL (XV.erL vs)=aTd vs
 |[]=>rfl
 |v::vs=>by show(AV.flat v.er&&AV.flatL (XV.erL vs))=(flX v&&aTd vs);rw[aYl v,aS3 vs]
theorem bPa[YL]:∀v:XV,AV.flatL v.fc=flX v
 |.d t x=>sO t x
 |.agg cs=>aRn cs
 |.tup cs=>by show(AV.flatL (XV.erL cs)&&true)=aTd cs;rw[jl,aS3]
 |.clo _ _=>rfl
 |.any=>rfl
 |.un=>rfl
 |.ab=>rfl
 |.sc=>rfl
 |.ptr _ _=>rfl
 |.ept _ _ _ _=>rfl
 |.apt _ _=>rfl
 |.pa _ _ _=>rfl
 |.epa _ _ _ _ _=>rfl
 |.rop _ _ _=>rfl
 |.fl _ _=>rfl
 |.fln _=>rfl
 |.nl _=>rfl
 |.sl _ _ _ _=>rfl
 |.slw _ _ _=>rfl
 |.asl _ _ _=>rfl
 |.rpt _ _=>rfl
 |.rpa _ _ _=>rfl
 |.rsl _ _ _ _=>rfl
 |.mref _=>rfl
 |.itr _ _=>rfl
 |.c _=>rfl
 |.yld=>rfl
 |.gst _=>rfl
theorem aRn[YL]:∀vs:List XV,AV.flatL (XV.fcL vs)=aTd vs
 |[]=>rfl
 |v::vs=>by show AV.flatL (v.fc++XV.fcL vs)=(flX v&&aTd vs);rw[aXu,bPa v,aRn vs]
end
@[reducible] def RT:List XS->Type
 |[]=>Unit
 |[m]=>rty m.tys
 |m::m2::l=>rty m.tys⊕RT (m2::l)
structure Sig where
 fn:Nat
 ent:XS
 out:List XS
 F:fty ent.tys (RT out)
def dU:(l:List XS)->RT l->XS
 |[],_=>⟨[],[],[]⟩
 |[m],v=>m.fill (ofR m.tys v)
 |m::_::_,.inl v=>m.fill (ofR m.tys v)
 |_::m2::l,.inr v=>dU (m2::l) v
def XV.val:List (Nat×XV)->XV
 |[(_,v)]=>v
 |l=>.tup (l.map (·.2))
def XS.pv(o:XS):Option Value:=match o.env with
 |[(k,.c v)]=>match au k 1000000 with
  |true=>some v
  |false=>none
 |_=>none
def aFk[YL](P:Program)(fn:Nat)(args:List AV)(bs:List (Option Blk))(o:XS)(nbs:List Blk):Prop:=match o.pv with
 |some pv=>bs=[]->aTi P fn args pv
 |none=>ACall P fn args bs (XV.val o.env).er (erB o.bs) nbs
def aD(P:Program)(g:Sig):Prop:=∀[YL] (v:tup g.ent.tys) (r:RT g.out),apF g.ent.tys g.F v=some r->∀nbs:List Blk,nbs.map some=erB (dU g.out r).own->
 aFk P g.fn ((g.ent.fill v).env.map fun p=>p.2.er) (erB (g.ent.fill v).bs) (dU g.out r) nbs
def kJ(P:Program):List Sig->Prop
 |[]=>True
 |g::l=>aD P g/\kJ P l
mutual
def bUe:XV->XV->Bool
 |.clo f ms,v=>match v with
  |.clo g vs=>au f g&&bIc ms vs
  |_=>false
 |.ptr _ _,v=>match v with
  |.ptr _ _=>true
  |_=>false
 |.apt _ _,v=>match v with
  |.apt _ _=>true
  |_=>false
 |.rpt _ _,v=>match v with
  |.rpt _ _=>true
  |_=>false
 |.mref _,v=>match v with
  |.mref _=>true
  |_=>false
 |.slw _ _ _,v=>match v with
  |.slw _ _ _=>true
  |.fln _=>true
  |_=>false
 |.nl _,v=>match v with
  |.fln _=>true
  |.nl _=>true
  |_=>false
 |.fln _,v=>match v with
  |.fln _=>true
  |_=>false
 |.c x,v=>match v with
  |.c y=>cEq x y
  |_=>false
 |.agg ms,v=>match v with
  |.agg vs=>bIc ms vs
  |_=>false
 |.sc,_=>true
 |.d _ _,v=>match v with
  |.ptr _ _=>false
  |.apt _ _=>false
  |.rpt _ _=>false
  |.mref _=>false
  |.clo _ _=>false
  |.c _=>false
  |.sc=>false
  |_=>true
 |_,_=>false
def bIc:List XV->List XV->Bool
 |[],[]=>true
 |m::ms,v::vs=>bUe m v&&bIc ms vs
 |_,_=>false
end
def xM:List (Nat×XV)->List XV
 |[]=>[]
 |p::r=>p.2::xM r
def bBx:List Sig->Nat->List XV->Option Sig
 |[],_,_=>none
 |g::l,f,vs=>match au g.fn f&&bIc (xM g.ent.env) vs with
  |true=>some g
  |false=>bBx l f vs
theorem aJo{P:Program}{vs:List XV}:∀{l:List Sig} {f:Nat} {g:Sig},kJ P l->bBx l f vs=some g->aD P g/\g.fn=f
 |[],_,_,_,h=>by cases h
 |g0::l,f,g,ht,h=>by
  unfold bBx at h;split at h
  ·rename_i hb;cases h;rw[μ]at hb;exact⟨ht.1,η hb.1⟩
  ·exact aJo ht.2 h
def sm?{α β γ:Type}(v:α⊕β)(f:α->Option γ)(g:β->Option γ):Option γ:=match v with
 |.inl a=>f a
 |.inr y=>g y
def bLw:(l:List XS)->RT l->(XS->Option R)->Option R
 |[],_,_=>none
 |[m],v,K=>K (m.fill (ofR m.tys v))
 |m::m2::l,v,K=>sm? v (fun a=>K (m.fill (ofR m.tys a))) fun y=>bLw (m2::l) y K
theorem aRi:∀{l:List XS} {v:RT l} {K:XS->Option R} {r:R},bLw l v K=some r->K (dU l v)=some r
 |[],_,_,_,h=>by cases h
 |[_],_,_,_,h=>h
 |_::_::_,.inl _,_,_,h=>h
 |_::m2::l,.inr _,_,_,h=>aRi (l:=m2::l) h
def aU6:List (Option XB)->Option (List XB)
 |[]=>some []
 |some b::r=>match aU6 r with
  |some l=>some (b::l)
  |none=>none
 |none::_=>none
theorem aKz[YL]:∀{l:List (Option XB)} {bl:List XB},aU6 l=some bl->(bl.map XB.er).map some=erB l
 |[],_,h=>by cases h;rfl
 |some b::r,bl,h=>by
  unfold aU6 at h;split at h
  ·rename_i l hl;cases h;show some b.er::(l.map XB.er).map some=some b.er::erB r;rw[aKz hl]
  ·cases h
 |none::_,_,h=>by cases h
def wR:List XV->Nat->XV
 |[],_=>.any
 |v::_,0=>v
 |_::r,i+1=>wR r i
def aDa:Nat->List (Nat×XV)->List XV->Bool
 |_,[],[]=>true
 |n,(k,_)::r,_::vs=>au k n&&aDa (n+1) r vs
 |_,_,_=>false
theorem aHh{f:XV->AV}:∀{l:List (Nat×XV)} {vs:List XV} {n:Nat} {ev:Nat->XV},aDa n l vs=true->(∀i,i<vs.length->ev (n+i)=wR vs i)->l.map (fun p=>f (ev p.1))=vs.map f
 |[],[],_,_,_,_=>rfl
 |(k,_)::r,v::vs,n,ev,h,he=>by
  have h:(au k n&&aDa (n+1) r vs)=true:=h;rw[μ]at h;have e0:ev k=v:=by rw[η h.1];exact he 0 (Nat.succ_pos _)
  show f (ev k)::r.map (fun p=>f (ev p.1))=f v::vs.map f;rw[e0,aHh h.2 fun i hi=>by rw[show n+1+i=n+(i+1) by omega,he (i+1) (Nat.succ_lt_succ hi)];rfl]
 |[],_::_,_,_,h,_=>by cases h
 |_::_,[],_,_,h,_=>by cases h
theorem aKq[YL](lk:bA)(φ:Hd->Option Hd):∀vs:List XV,AV.convL lk φ (XV.erL vs)=vs.map fun v=>AV.conv lk φ v.er
 |[]=>rfl
 |v::vs=>by show AV.conv _ _ v.er::AV.convL _ _ (XV.erL vs)=_;rw[aKq lk φ vs];rfl
theorem rH[YL]:∀a c:List XV,XV.erL (a++c)=XV.erL a++XV.erL c
 |[],_=>rfl
 |x::a,c=>by show x.er::XV.erL (a++c)=_;rw[rH a c];rfl
mutual
def bBj:XV->Bool
 |.d t _=>flD t
 |.any=>true
 |.un=>true
 |.ab=>true
 |.sc=>true
 |.c _=>true
 |.slw _ _ _=>true
 |.sl _ _ _ _=>true
 |.agg cs=>aK9 cs
 |.tup cs=>aK9 cs
 |_=>false
def aK9:List XV->Bool
 |[]=>true
 |v::vs=>bBj v&&aK9 vs
end
theorem aZu:∀(a c:List AV),AV.flatOL (a++c)=(AV.flatOL a&&AV.flatOL c)
 |[],_=>rfl
 |x::a,c=>by show(AV.flatO x&&AV.flatOL (a++c))=(AV.flatO x&&AV.flatOL a&&AV.flatOL c);rw[aZu a c,k7]
theorem aAs:∀l:List DV,AV.flatOL (l.map .D)=AV.flatL (l.map .D)
 |[]=>rfl
 |x::l=>by show(DV.flat x&&AV.flatOL (l.map .D))=(DV.flat x&&AV.flatL (l.map .D));rw[aAs l]
theorem aX1(x:t.T):AV.flatO (cH t x)=AV.flat (cH t x):=by
 cases t with
 |u=>rfl
 |b=>rfl
 |i k=>rfl
 |s=>rfl
 |p a c=>exact aAs _
 |w a=>exact aAs _
 |ar n k=>exact aAs _
 |sl t=>rfl
 |o t=>rfl
mutual
theorem aZp[YL]:∀v:XV,bBj v=true->AV.flatO v.er=true
 |.d t x,h=>by show AV.flatO (cH t x)=true;rw[aX1,aO5];exact h
 |.agg cs,h=>aLy cs h
 |.tup cs,h=>aLf cs h
 |.slw _ _ _,_=>rfl
 |.sl _ _ _ _,_=>rfl
 |.any,_=>rfl
 |.un,_=>rfl
 |.ab,_=>rfl
 |.sc,_=>rfl
 |.c _,_=>rfl
 |.ptr _ _,h=>by cases h
 |.ept _ _ _ _,h=>by cases h
 |.apt _ _,h=>by cases h
 |.pa _ _ _,h=>by cases h
 |.epa _ _ _ _ _,h=>by cases h
 |.rpt _ _,h=>by cases h
 |.rpa _ _ _,h=>by cases h
 |.rsl _ _ _ _,h=>by cases h
 |.rop _ _ _,h=>by cases h
 |.fl _ _,h=>by cases h
 |.fln _,h=>by cases h
 |.nl _,h=>by cases h
 |.asl _ _ _,h=>by cases h
 |.mref _,h=>by cases h
 |.itr _ _,h=>by cases h
 |.clo _ _,h=>by cases h
 |.yld,h=>by cases h
 |.gst _,h=>by cases h
theorem aLf[YL]:∀vs:List XV,aK9 vs=true->AV.flatOL (XV.erL vs)=true
 |[],_=>rfl
 |v::vs,h=>by have h:(bBj v&&aK9 vs)=true:=h;rw[μ]at h;show(AV.flatO v.er&&AV.flatOL (XV.erL vs))=true;rw[aZp v h.1,aLf vs h.2];rfl
theorem bLp[YL]:∀v:XV,bBj v=true->AV.flatOL v.fc=true
 |.d t x,h=>by show AV.flatOL ((t.ds x).map .D)=true;rw[aAs,sO];exact h
 |.agg cs,h=>aLy cs h
 |.tup cs,h=>by show(AV.flatOL (XV.erL cs)&&true)=true;rw[aLf cs h];rfl
 |.slw _ _ _,_=>rfl
 |.sl _ _ _ _,_=>rfl
 |.any,_=>rfl
 |.un,_=>rfl
 |.ab,_=>rfl
 |.sc,_=>rfl
 |.c _,_=>rfl
 |.ptr _ _,h=>by cases h
 |.ept _ _ _ _,h=>by cases h
 |.apt _ _,h=>by cases h
 |.pa _ _ _,h=>by cases h
 |.epa _ _ _ _ _,h=>by cases h
 |.rpt _ _,h=>by cases h
 |.rpa _ _ _,h=>by cases h
 |.rsl _ _ _ _,h=>by cases h
 |.rop _ _ _,h=>by cases h
 |.fl _ _,h=>by cases h
 |.fln _,h=>by cases h
 |.nl _,h=>by cases h
 |.asl _ _ _,h=>by cases h
 |.mref _,h=>by cases h
 |.itr _ _,h=>by cases h
 |.clo _ _,h=>by cases h
 |.yld,h=>by cases h
 |.gst _,h=>by cases h
theorem aLy[YL]:∀vs:List XV,aK9 vs=true->AV.flatOL (XV.fcL vs)=true
 |[],_=>rfl
 |v::vs,h=>by have h:(bBj v&&aK9 vs)=true:=h;rw[μ]at h;show AV.flatOL (v.fc++XV.fcL vs)=true;rw[aZu,bLp v h.1,aLy vs h.2];rfl
end
def bJt:List XB->Bool
 |[]=>true
 |.row true t _::l=>flD t&&bJt l
 |_::_=>false
theorem aZ1[YL]:∀l:List XB,bJt l=true->(l.map XB.er).all Blk.flatR=true
 |[],_=>rfl
 |.row true t xs::l,h=>by
  have h:(flD t&&bJt l)=true:=h;rw[μ]at h;rw[cu,List.all_cons,aZ1 l h.2,jl];show(xs.map t.ds).all (fun e=>e.all DV.flat)=true;rw[List.all_map,List.all_eq_true];intro x _;have:=sO t x;rw[h.1]at this;have key:∀l:List DV,AV.flatL (l.map .D)=l.all DV.flat:=fun l=>by
   induction l with
   |nil=>rfl
   |cons d l ih=>show(DV.flat d&&AV.flatL (l.map .D))=(DV.flat d&&l.all DV.flat);rw[ih]
  rw[key]at this;exact this
 |.row false _ _::_,h=>by cases h
 |.box _::_,h=>by cases h
 |.arr _ _ _ _::_,h=>by cases h
 |.rb _ _ _::_,h=>by cases h
 |.mp _ _ _ _ _ _::_,h=>by cases h
 |.it::_,h=>by cases h
 |.sb _ _ _::_,h=>by cases h
def bFu(al:Bool)(v:XV)(bl:List XB):Bool:=al&&(bBj v&&bJt bl)
def xfl(s:XS)(al:Bool)(v:XV)(bl:List XB)(hs:List Hd):List Hd:=match flX v,bl with
 |true,[]=>[]
 |_,_=>match bFu al v bl with
  |true=>[]
  |false=>xfz s hs
theorem bPx[YL](s:XS)(al:Bool)(v:XV)(bl:List XB)(vs:List XV):xfl s al v bl (XV.hrL vs)=if AV.flat v.er=true/\bl.map XB.er=[]then[]else fzC (bFu al v bl) (fzL s.er.lk (AV.rowsL (XV.erL vs))):=by
 unfold xfl;rw[aYl,aC0,sW];cases flX v with
 |false=>rw[if_neg (fun h=>by cases h.1)];rfl
 |true=>cases bl with
  |nil=>rw[if_pos ⟨rfl,rfl⟩]
  |cons b bl=>rw[if_neg (fun h=>by cases h.2)];rfl
def bEe(s:XS)(al:Bool)(vs:List XV)(o:XS)(K:XV->List XB->List Hd->Option R):Option R:=match aU6 o.own with
 |some bl=>K ((XV.val o.env).ren (bG [] s.own.length)) (bl.map (XB.ren (bG [] s.own.length))) (xfl s al (XV.val o.env) bl (XV.hrL vs))
 |none=>none
def bEn:XV->Bool
 |.fln _=>true
 |_=>false
def aNx:List (Nat×XV)->List Bool
 |[]=>[]
 |p::r=>bEn p.2::aNx r
def aWc:List (Nat×XV)->Bool
 |[]=>true
 |p::r=>!bEn p.2&&aWc r
theorem aNd(lk:bA):∀{l:List (Nat×XV)} (as:List AV),aWc l=true->AV.convK lk (aNx l) as=AV.convL lk (fun _=>none) as
 |[],_,_=>rfl
 |p::r,as,h=>by
  unfold aWc at h;rw[μ,dn]at h;unfold aNx;rw[h.1];cases as with
  |nil=>rfl
  |cons a as=>
   show AV.conv _ _ a::AV.convK lk (aNx r) as=AV.conv _ _ a::AV.convL lk _ as;rw[aNd lk as h.2]
def bEt(s:XS):List (Nat×XV)->List XV->(List XV->Option R)->Option R
 |[],[],K=>K []
 |p::ms,v::vs,K=>match bEn p.2 with
  |true=>match v with
   |.fln t=>bEt s ms vs fun l=>K (.fln t::l)
   |_=>none
  |false=>xcv s (fun _=>none) v fun v'=>bEt s ms vs fun l=>K (v'::l)
 |_,_,_=>none
theorem aRh[YL]{s:XS}{r:R}:∀{ms:List (Nat×XV)} {vs:List XV} {K:List XV->Option R},bEt s ms vs K=some r->∃l,K l=some r/\l.map XV.er=AV.convK s.er.lk (aNx ms) (XV.erL vs)/\slP.slPL (aB9 s fun _=>none) l
 |[],[],K,h=>⟨[],h,rfl,trivial⟩
 |p::ms,v::vs,K,h=>by
  unfold bEt at h;unfold aNx;split at h
  ·rename_i hp;rw[hp];split at h
   ·rename_i t;obtain⟨l,h,h1,h2⟩:=aRh h;refine⟨_,h,?_,trivial,h2⟩;show AV.fl []::l.map XV.er=AV.fl []::AV.convK _ (aNx ms) (XV.erL vs);rw[h1]
   ·cases h
  ·rename_i hp;rw[hp];obtain⟨v',h,h0,_,h3⟩:=aWw h;obtain⟨l,h,h1,h2⟩:=aRh h;refine⟨_,h,?_,h3,h2⟩;show v'.er::l.map XV.er=AV.conv _ _ v.er::AV.convK _ (aNx ms) (XV.erL vs);rw[h1,h0]
 |[],_::_,_,h=>by cases h
 |_::_,[],_,h=>by cases h
theorem bDm[YL]{ds:List DS}{v:tup m.tys}(h1:mtE m.env l=some ds)(h2:aH1 m.tys ds=some v)(hp:slP.slPL (aB9 s fun _=>none) l):(m.fill v).env.map (fun p=>p.2.er)=l.map XV.er:=by have hL:=aL2 h2;show(m.fil (sgs m.tys v)).env.map _=_;rw[hL];obtain⟨_,x2⟩:=aW4 (len:=bQb (qJ m.bs (ds.drop (aYr m.env).length)) (qJ m.own ((ds.drop (aYr m.env).length).drop (aHs m.bs).length))) h1 (slPL.mono (fun h' n ⟨h,mt,t,xs,e1,e2,e3⟩=>by cases e1) hp);obtain⟨e,x3,x4,x5⟩:=x2 [];rw[bb]at x3;show(aD8 _ m.env ds).1.map _=_;rw[x3];exact x5
def aRa(s:XS)(al:Bool)(g:Sig)(vs:List XV)(K:XV->List XB->List Hd->Option R)(Kp:Value->Option R):Option R:=match g.ent.bs,g.ent.own with
 |[],[]=>bEt s g.ent.env vs fun l=>match mtE g.ent.env l with
  |some ds=>match aH1 g.ent.tys ds with
   |some v=>bd? (apF g.ent.tys g.F v) fun r=>bLw g.out r fun o=>match o.bs,o.pv with
    |[],none=>bEe s al vs o K
    |_,some pv=>match o.own,aWc g.ent.env with
     |[],true=>Kp pv
     |_,_=>none
    |_,_=>none
   |none=>none
  |none=>none
 |_,_=>none
def bPz(s:XS)(g:Sig)(vs:List XV)(K:XV->List XB->List Hd->Option R):Option R:=aRa s true g vs K fun _=>none
def bHt(T:List Sig)(s:XS)(vs:List XV)(K:XV->List XB->List Hd->Option R):XV->Option R
 |.clo fn caps=>match bBx T fn (vs++caps)with
  |some g=>bPz s g (vs++caps) K
  |none=>none
 |_=>none
theorem aX9(h:m.bs=[])(v:tup m.tys):(m.fill v).bs=[]:=by show(sQ _ m.bs _).1=[];rw[h];rfl
theorem bM5[YL](ψ:Hd->Hd)(l:List XB):(l.map (XB.ren ψ)).map XB.er=(l.map XB.er).map (Blk.ren ψ):=by rw[ij,ij];congr 1;funext b;exact aRv ψ b
theorem aPc[YL]{g:Sig}(hs:aD P g){al:Bool}{K:XV->List XB->List Hd->Option R}{Kp:Value->Option R}{r:R}(h:aRa s al g vs K Kp=some r){KP:AV->List Blk->List Hd->Prop}(hK:∀v nbs fz,K v nbs fz=some r->KP v.er (nbs.map XB.er) fz):
  (∃z rr nbs,(al=false->z=false)/\(z=true->AV.flatO rr=true/\nbs.all Blk.flatR=true)/\ACall P g.fn (AV.convK s.er.lk (aNx g.ent.env) (XV.erL vs)) [] rr [] nbs/\
   KP (AV.ren (bG [] s.er.nx) rr) (nbs.map (Blk.ren (bG [] s.er.nx))) (if AV.flat rr=true/\nbs=[]then[]else fzC z (fzL s.er.lk (AV.rowsL (XV.erL vs)))))\/
   ∃pv,aTi P g.fn (AV.convL s.er.lk (fun _=>none) (XV.erL vs)) pv/\Kp pv=some r:=by
 unfold aRa at h;split at h
 case h_2=>cases h
 rename_i hb ho;obtain⟨l,h,e1,hp⟩:=aRh h;split at h
 case h_2=>cases h
 rename_i ds hds;split at h
 case h_2=>cases h
 rename_i v hv;obtain⟨rr,hr,h⟩:=bPi h;have h:=aRi h;have hargs:(g.ent.fill v).env.map (fun p=>p.2.er)=AV.convK s.er.lk (aNx g.ent.env) (XV.erL vs):=(bDm hds hv hp).trans e1;split at h
 ·rename_i hob hpv;unfold bEe at h;split at h
  case h_2=>cases h
  rename_i bl hbl;have hcall:=hs v rr hr (bl.map XB.er) (aKz hbl);unfold aFk at hcall;rw[hpv]at hcall;rw[hargs,aX9 hb,hob]at hcall;refine .inl ⟨bFu al (XV.val (dU g.out rr).env) bl,_,_,fun e=>by unfold bFu;rw[e];rfl,fun e=>?_,hcall,?_⟩
  ·unfold bFu at e;rw[μ,μ]at e;exact⟨aZp _ e.2.1,aZ1 _ e.2.2⟩
  have:=hK _ _ _ h;rw[aSy,bM5]at this;rw[bPx]at this;exact this
 ·rename_i pv hpv;split at h
  case h_2=>cases h
  rename_i hown hno;have:=hs v rr hr [] (by rw[hown];rfl);unfold aFk at this;rw[hpv,hargs,aX9 hb,aNd _ _ hno]at this;exact .inr ⟨pv,this rfl,h⟩
 ·cases h
def aXk(T:List Sig)(s:XS)(vs:List XV)(K:XV->List XB->List Hd->Option R)(Kp:Value->Option R):XV->Option R
 |.clo fn caps=>match bBx T fn (vs++caps)with
  |some g=>match aWc g.ent.env with
   |true=>aRa s false g (vs++caps) K Kp
   |false=>none
  |none=>none
 |_=>none
theorem bB2[YL]{T:List Sig}(hT:kJ P T){K:XV->List XB->List Hd->Option R}{Kp:Value->Option R}{r:R}(h:aXk T s vs K Kp vf=some r){KP:AV->List Blk->List Hd->Prop}(hK:∀v nbs fz,K v nbs fz=some r->KP v.er (nbs.map XB.er) fz):
  ∃fn caps,vf.er=.clo fn caps/\((∃rr nbs,ACall P fn (AV.convL s.er.lk (fun _=>none) (XV.erL vs++caps)) [] rr [] nbs/\
   KP (AV.ren (bG [] s.er.nx) rr) (nbs.map (Blk.ren (bG [] s.er.nx))) (if AV.flat rr=true/\nbs=[]then[]else fzL s.er.lk (AV.rowsL (XV.erL vs++caps))))\/
   ∃pv,aTi P fn (AV.convL s.er.lk (fun _=>none) (XV.erL vs++caps)) pv/\Kp pv=some r):=by
 unfold aXk at h;split at h
 case h_2=>cases h
 rename_i fn caps;split at h
 case h_2=>cases h
 rename_i g hg;obtain⟨hs,hfn⟩:=aJo hT hg;split at h
 case h_2=>cases h
 rename_i hno;rcases aPc hs h hK with⟨z,rr,nbs,hz,_,h1,h2⟩|h1
 ·rw[aNd _ _ hno,hfn,rH]at h1;rw[hz rfl,rH]at h2;exact⟨fn,XV.erL caps,rfl,.inl ⟨rr,nbs,h1,h2⟩⟩
 ·rw[hfn,rH]at h1;exact⟨fn,XV.erL caps,rfl,.inr h1⟩
theorem bF1[YL]{T:List Sig}(hT:kJ P T){K:XV->List XB->List Hd->Option R}{r:R}(h:bHt T s vs K vf=some r){KP:AV->List Blk->List Hd->Prop}(hK:∀v nbs fz,K v nbs fz=some r->KP v.er (nbs.map XB.er) fz):
  ∃fn caps ks z rr nbs,vf.er=.clo fn caps/\(z=true->AV.flatO rr=true/\nbs.all Blk.flatR=true)/\ACall P fn (AV.convK s.er.lk ks (XV.erL vs++caps)) [] rr [] nbs/\
   KP (AV.ren (bG [] s.er.nx) rr) (nbs.map (Blk.ren (bG [] s.er.nx))) (if AV.flat rr=true/\nbs=[]then[]else fzC z (fzL s.er.lk (AV.rowsL (XV.erL vs++caps)))):=by
 unfold bHt at h;split at h
 case h_2=>cases h
 rename_i fn caps;split at h
 case h_2=>cases h
 rename_i g hg;obtain⟨hs,hfn⟩:=aJo hT hg;rcases aPc hs h hK with⟨z,rr,nbs,_,hz,h1,h2⟩|⟨pv,_,h⟩
 ·rw[hfn,rH]at h1;rw[rH]at h2;exact⟨fn,XV.erL caps,_,z,rr,nbs,rfl,hz,h1,h2⟩
 ·cases h
end
section
variable{R:Type}
def w1(s:XS)(x:Operand)(f:XV->Option R):Option R:=match noG x with
 |true=>f (s.ev x)
 |false=>none
theorem aM[YL]{x:Operand}{f:XV->Option R}{r:R}(h:w1 s x f=some r):f (s.ev x)=some r/\s.er.ev x=(s.ev x).er:=by
 unfold w1 at h;split at h
 ·exact⟨h,aDu s ‹_›⟩
 ·cases h
def wL(s:XS):List Operand->(List XV->Option R)->Option R
 |[],f=>f []
 |x::xs,f=>w1 s x fun v=>wL s xs fun vs=>f (v::vs)
theorem aNi[YL]{s:XS}{r:R}:∀{xs:List Operand} {f:List XV->Option R},wL s xs f=some r->∃vs,f vs=some r/\xs.map s.er.ev=XV.erL vs
 |[],f,h=>⟨[],h,rfl⟩
 |x::xs,f,h=>by obtain⟨h,e1⟩:=aM h;obtain⟨vs,h,e2⟩:=aNi h;exact⟨s.ev x::vs,h,by show s.er.ev x::xs.map s.er.ev=_;rw[e1,e2];rfl⟩
def bIv(c:Bool)(K:XV->Option R):XV->XV->Option R
 |.d t x,v=>match v with
  |.d t' y=>match t'.cst t y with
   |some y=>K (.d t (cond c x y))
   |none=>if? c (K (.d t x)) (K (.d t' y))
  |v=>if? c (K (.d t x)) (K v)
 |u,v=>if? c (K u) (K v)
theorem bHo[YL]{c:Bool}{K:XV->Option R}{KP:AV->Prop}{r:R}{b:XV}(h:bIv c K a b=some r)(hK:∀v,K v=some r->KP v.er):KP (if c=true then a.er else b.er):=by
 have hif:∀{a b:XV},if? c (K a) (K b)=some r->KP (if c=true then a.er else b.er):=fun h=>by
  rcases aQz h with⟨rfl,h⟩|⟨rfl,h⟩
  ·exact hK _ h
  ·exact hK _ h
 unfold bIv at h;split at h
 ·split at h
  ·split at h
   ·rename_i y hy;obtain⟨e,rfl⟩:=Ty.cst_ok hy;subst e;have:=hK _ h;cases c<;>exact this
   ·exact hif h
  ·exact hif h
 ·exact hif h
def nth:List XV->Nat->Option XV
 |[],_=>none
 |v::_,0=>some v
 |_::r,i+1=>nth r i
theorem bH1[YL]:∀{l:List XV} {i:Nat} {v:XV},nth l i=some v->(XV.erL l)[i]?=some v.er
 |[],_,_,h=>by cases h
 |v::_,0,_,h=>by cases h;rfl
 |_::r,i+1,v,h=>by have:=bH1 (l:=r) (i:=i) h;show(_::XV.erL r)[i+1]?=_;rw[List.getElem?_cons_succ];exact this
def aLj(kd:Nat):XV->XV->Option Bool
 |.d .b x,.d .b y=>match au kd 0 with
  |true=>some (x==y)
  |false=>none
 |.d (.i k) x,.d (.i k') y=>if kd=1/\k=k' then some (x==y)else none
 |.d .s x,.d .s y=>match au kd 2 with
  |true=>some (x==y)
  |false=>none
 |_,_=>none
def nB:List Nat->Bool->Bool->Bool
 |[],p,_=>p
 |_::_,p,q=>p&&q
def aTg:List Nat->List XV->List XV->Option Bool
 |[],[],[]=>some true
 |kd::kds,x::xs,y::ys=>match aLj kd x y with
  |some p=>match aTg kds xs ys with
   |some q=>some (nB kds p q)
   |none=>none
  |none=>none
 |_,_,_=>none
theorem bEc(h:aTg [] xs ys=some q):q=true:=by cases xs<;>cases ys<;>first|(cases h;rfl;done)|(cases h;done)
theorem aVn[YL]:∀{kds:List Nat} {xs ys:List XV} {b:Bool},aTg kds xs ys=some b->jS kds (XV.fcL xs) (XV.fcL ys)=some b
 |[],xs,ys,b,h=>by
  cases xs<;>cases ys<;>first|(cases h;rfl;done)|(cases h;done)
 |kd::kds,[],ys,b,h=>by cases h
 |kd::kds,x::xs,[],b,h=>by cases h
 |kd::kds,x::xs,y::ys,b,h=>by
  unfold aTg at h;split at h
  case h_2=>cases h
  rename_i p hp;split at h
  case h_2=>cases h
  rename_i q hq;cases h;have e:nB kds p q=(p&&q):=by
   cases kds with
   |nil=>rw[bEc hq,jl];rfl
   |cons _ _=>rfl
  have ih:=aVn hq;obtain⟨d1,d2,e1,e2,e3⟩:∃d1 d2,x.fc=[.D d1]/\y.fc=[.D d2]/\DV.same kd d1 d2=some p:=by
   unfold aLj at hp;split at hp
   ·split at hp
    ·rename_i hb;obtain rfl:=η hb;exact⟨_,_,rfl,rfl,hp⟩
    ·cases hp
   ·exact⟨_,_,rfl,rfl,hp⟩
   ·split at hp
    ·rename_i hb;obtain rfl:=η hb;exact⟨_,_,rfl,rfl,hp⟩
    ·cases hp
   ·cases hp
  show jS (kd::kds) (x.fc++XV.fcL xs) (y.fc++XV.fcL ys)=_;rw[e1,e2];show(match DV.same kd d1 d2,jS kds (XV.fcL xs) (XV.fcL ys)with|some p,some q=>some (p&&q)|_,_=>none)=_;rw[e3,ih,e]
def aSf(off:Nat)(K:XV->Option R):XV->Option R
 |.ptr h o=>K (.ptr h (o+off))
 |.ept h t ix o=>match au t.n 1 with
  |true=>match o,off with
   |0,0=>K (.ept h t ix 0)
   |_,_=>none
  |false=>K (.ept h t ix (o+off))
 |.apt h ix=>K (.apt h (ix+off))
 |.rpt h o=>K (.rpt h (o+off))
 |.rop t x o=>K (.rop t x (o+off))
 |_=>none
def ixA(o j k:Nat):Nat:=match o,k with
 |0,1=>j
 |o,1=>o+j
 |o,k=>o+j*k
theorem vS(o j k:Nat):ixA o j k=o+j*k:=by
 unfold ixA;split
 ·omega
 ·omega
 ·rfl
def aM9(k:Nat)(j:Int)(K:XV->Option R):XV->Option R
 |.d (.sl t) xs=>match au t.n k with
  |true=>aU xs j fun x=>K (.rop t x 0)
  |false=>none
 |.fl t xs=>match au t.n k with
  |true=>aU xs j fun x=>K (.rop t x 0)
  |false=>none
 |.slw h t len=>match au t.n k with
  |true=>gd? (0<=j) (gd? (j<(len:Int)) (K (.ept h t j.toNat 0)))
  |false=>none
 |.sl h t off len=>match au t.n k with
  |true=>gd? (0<=j) (gd? (j<(len:Int)) (K (.ept h t (off+j.toNat) 0)))
  |false=>none
 |.asl h off len=>match au 1 k with
  |true=>gd? (0<=j) (gd? (j<(len:Int)) (K (.apt h (ixA off j.toNat 1))))
  |false=>none
 |.rsl h off l len=>match au 1 k with
  |true=>gd? (0<=j) (gd? (j<(len:Int)) (K (.rpa h off (ixA l j.toNat 1))))
  |false=>none
 |_=>none
def bN1(m k:Nat)(j:Int)(K:XV->Option R):XV->Option R
 |.apt h ix=>gd? (0<=j) (gd? (j<(m:Int)) (K (.apt h (ixA ix j.toNat k))))
 |.rop t x o=>gd? (0<=j) (gd? (j<(m:Int)) (K (.rop t x (ixA o j.toNat k))))
 |.ptr h o=>match au k 1 with
  |true=>gd? (0<=j) (gd? (j<(m:Int)) (K (.pa h o j.toNat)))
  |false=>gd? (0<=j) (gd? (j<(m:Int)) (K (.ptr h (ixA o j.toNat k))))
 |.rpt h o=>match au k 1 with
  |true=>gd? (0<=j) (gd? (j<(m:Int)) (K (.rpa h o j.toNat)))
  |false=>gd? (0<=j) (gd? (j<(m:Int)) (K (.rpt h (ixA o j.toNat k))))
 |.ept h t ix o=>match au t.n 1,au k 1 with
  |false,true=>gd? (0<=j) (gd? (j<(m:Int)) (K (.epa h t ix o j.toNat)))
  |_,_=>none
 |_=>none
def aLu(s:XS)(k:Nat)(lo hi mx:Option Operand)(K:XV->Option R):XV->Option R
 |.d (.sl t) xs=>match au t.n k with
  |true=>match mx with
   |none=>rW s hi xs.length fun h=>rW s lo 0 fun l=>gd? (l<=h) (gd? (h<=xs.length) (K (.d (.sl t) ((xs.drop l).take (h-l)))))
   |some _=>match hi with
    |none=>none
    |some _=>rW s mx xs.length fun m=>rW s hi xs.length fun h=>rW s lo 0 fun l=>gd? (l<=h) (gd? (h<=xs.length) (gd? (h=m) (K (.fl t ((xs.drop l).take (h-l))))))
  |false=>none
 |.fln t=>match mx with
  |none=>rW s hi 0 fun h=>rW s lo 0 fun l=>gd? (l<=h) (gd? (h<=0) (K (.fln t)))
  |some _=>none
 |.slw hd t len=>match au t.n k,mx with
  |true,none=>match lo,hi with
   |none,none=>K (.slw hd t len)
   |none,hi=>rW s hi len fun h=>gd? (h<=len) (K (.sl hd t 0 h))
   |lo,hi=>rW s hi len fun h=>rW s lo 0 fun l=>gd? (l<=h) (gd? (h<=len) (K (.sl hd t l (h-l))))
  |_,_=>none
 |.sl hd t off len=>match au t.n k,mx with
  |true,none=>rW s hi len fun h=>rW s lo 0 fun l=>gd? (l<=h) (gd? (h<=len) (K (.sl hd t (off+l) (h-l))))
  |_,_=>none
 |.asl hd off len=>match au 1 k,mx with
  |true,none=>rW s hi len fun h=>rW s lo 0 fun l=>gd? (l<=h) (gd? (h<=len) (K (.asl hd (ixA off l 1) (h-l))))
  |_,_=>none
 |.rsl hd off l0 len=>match au 1 k,mx with
  |true,none=>rW s hi len fun h=>rW s lo 0 fun l=>gd? (l<=h) (gd? (h<=len) (K (.rsl hd off (ixA l0 l 1) (h-l))))
  |_,_=>none
 |_=>none
theorem aPn[YL]{K:XV->Option R}{r:R}(h:aSf off K v=some r){KP:AV->Prop}(hK:∀v,K v=some r->KP v.er):
  match v.er with
  |.ptr h o=>KP (.ptr h (o+off))
  |.eptr h k ix o=>KP (AV.eadd h k ix o off)
  |.rop ds=>KP (.rop (ds.drop off))
  |_=>False:=by
 unfold aSf at h;split at h
 ·exact hK _ h
 ·rename_i hd t ix o;show KP (AV.eadd hd t.n ix o off);unfold AV.eadd;split at h
  ·rename_i hb;have hb:=η hb;split at h
   ·have:=hK _ h;simp only[XV.er,hb]at this;rw[if_pos hb];exact this
   ·cases h
  ·rename_i hb;rw[if_neg (fun e=>by rw[e]at hb;cases hb)];exact hK _ h
 ·rename_i hd ix;show KP (AV.eadd hd 1 ix 0 off);unfold AV.eadd;rw[if_pos rfl];exact hK _ h
 ·rename_i hd ix;show KP (AV.eadd hd 1 ix 0 off);unfold AV.eadd;rw[if_pos rfl];exact hK _ h
 ·rename_i t x o;have:=hK _ h;simp only[XV.er]at this|-;rw[dv];exact this
 ·cases h
theorem aHc[YL]{K:XV->Option R}{r:R}(h:aM9 k j K v=some r){KP:AV->Prop}(hK:∀v,K v=some r->KP v.er):0<=j/\
  match v.er with
  |.D (.L es)=>∃e,es[j.toNat]?=some e/\e.length=k/\KP (.rop e)
  |.fl es=>∃e,es[j.toNat]?=some e/\e.length=k/\KP (.rop e)
  |.sl h k' off len=>k'=k/\j<len/\KP (.eptr h k (off+j.toNat) 0)
  |_=>False:=by
 unfold aM9 at h;split at h
 ·rename_i t xs;split at h
  ·rename_i hb;obtain⟨x,h0,hx,h⟩:=aUb h;refine⟨h0,t.ds x,by rw[ba,hx];rfl,by rw[Ty.ds_len];exact η hb,hK _ h⟩
  ·cases h
 ·rename_i t xs;split at h
  ·rename_i hb;obtain⟨x,h0,hx,h⟩:=aUb h;refine⟨h0,t.ds x,by rw[ba,hx];rfl,by rw[Ty.ds_len];exact η hb,hK _ h⟩
  ·cases h
 ·split at h
  ·rename_i hb;obtain⟨h0,h⟩:=aX h;obtain⟨h1,h⟩:=aX h;have hb:=η hb;have:=hK _ h;simp only[XV.er,hb]at this;exact⟨h0,hb,h1,by rw[bg];exact this⟩
  ·cases h
 ·split at h
  ·rename_i hb;obtain⟨h0,h⟩:=aX h;obtain⟨h1,h⟩:=aX h;have hb:=η hb;have:=hK _ h;simp only[XV.er,hb]at this;exact⟨h0,hb,h1,this⟩
  ·cases h
 ·split at h
  ·rename_i hb;obtain⟨h0,h⟩:=aX h;obtain⟨h1,h⟩:=aX h;have hb:=η hb;subst hb;have:=hK _ h;rw[vS,ct]at this;exact⟨h0,rfl,h1,this⟩
  ·cases h
 ·rename_i hd off l len;split at h
  ·rename_i hb;obtain⟨h0,h⟩:=aX h;obtain⟨h1,h⟩:=aX h;have hb:=η hb;subst hb;have:=hK _ h;simp only[XV.er,vS,ct]at this;exact⟨h0,rfl,h1,by rw[fw];exact this⟩
  ·cases h
 ·cases h
theorem bKe[YL]{m:Nat}{K:XV->Option R}{r:R}(h:bN1 m k j K v=some r){KP:AV->Prop}(hK:∀v,K v=some r->KP v.er):0<=j/\j<(m:Int)/\
  match v.er with
  |.ptr h o=>KP (.ptr h (o+j.toNat*k))
  |.eptr h k' ix o=>KP (AV.eadd h k' ix o (j.toNat*k))
  |.rop ds=>KP (.rop (ds.drop (j.toNat*k)))
  |_=>False:=by
 unfold bN1 at h;split at h
 ·rename_i hd ix;obtain⟨h0,h⟩:=aX h;obtain⟨h1,h⟩:=aX h;have:=hK _ h;rw[vS]at this;refine⟨h0,h1,?_⟩;show KP (AV.eadd hd 1 ix 0 (j.toNat*k));unfold AV.eadd;rw[if_pos rfl];exact this
 ·rename_i t x o;obtain⟨h0,h⟩:=aX h;obtain⟨h1,h⟩:=aX h;have:=hK _ h;rw[vS]at this;refine⟨h0,h1,?_⟩;simp only[XV.er]at this|-;rw[dv];exact this
 ·rename_i hd o;split at h
  ·rename_i hb;obtain⟨h0,h⟩:=aX h;obtain⟨h1,h⟩:=aX h;have hb:=η hb;subst hb;have:=hK _ h;refine⟨h0,h1,?_⟩;show KP (.ptr hd (o+j.toNat*1));rw[ct];exact this
  ·obtain⟨h0,h⟩:=aX h;obtain⟨h1,h⟩:=aX h;have:=hK _ h;rw[vS]at this;exact⟨h0,h1,this⟩
 ·rename_i hd o;split at h
  ·rename_i hb;obtain⟨h0,h⟩:=aX h;obtain⟨h1,h⟩:=aX h;have hb:=η hb;subst hb;have:=hK _ h;refine⟨h0,h1,?_⟩;show KP (AV.eadd hd 1 o 0 (j.toNat*1));unfold AV.eadd;rw[if_pos rfl,ct];exact this
  ·obtain⟨h0,h⟩:=aX h;obtain⟨h1,h⟩:=aX h;have:=hK _ h;rw[vS]at this;refine⟨h0,h1,?_⟩;show KP (AV.eadd hd 1 o 0 (j.toNat*k));unfold AV.eadd;rw[if_pos rfl];exact this
 ·rename_i hd t ix o;split at h
  ·rename_i hb1 hb;obtain⟨h0,h⟩:=aX h;obtain⟨h1,h⟩:=aX h;have hb:=η hb;subst hb;have:=hK _ h;refine⟨h0,h1,?_⟩;show KP (AV.eadd hd t.n ix o (j.toNat*1));unfold AV.eadd;rw[if_neg (fun e=>by rw[e]at hb1;cases hb1),ct];exact this
  ·cases h
 ·cases h
theorem aGq[YL]{lo hi mx:Option Operand}{K:XV->Option R}{r:R}(h:aLu s k lo hi mx K v=some r){KP:AV->Prop}(hK:∀v,K v=some r->KP v.er):tQ k s.er.ev lo hi mx KP v.er:=by
 unfold aLu at h;split at h
 ·rename_i t xs;split at h
  ·rename_i hb;have hb:=η hb;have hu:Uni k (xs.map t.ds):=hb▸wK t xs;have hl:(xs.map t.ds).length=xs.length:=κ _;split at h
   ·refine⟨hu,?_⟩;rw[hl];rw[show∀(Q:Nat->Prop),gV s.er.ev none xs.length Q=Q xs.length from fun _=>rfl];refine dB h fun hh h=>dB h fun l h=>?_;obtain⟨h1,h⟩:=aX h;obtain⟨h2,h⟩:=aX h;refine⟨h1,h2,fun e=>dh e,?_⟩;have:=hK _ h;simp only[XV.er,cH,bu,cn]at this;exact this
   ·split at h
    ·cases h
    ·refine⟨hu,?_⟩;rw[hl];refine dB h fun m h=>dB h fun hh h=>dB h fun l h=>?_;obtain⟨h1,h⟩:=aX h;obtain⟨h2,h⟩:=aX h;obtain⟨h3,h⟩:=aX h;refine⟨h1,h2,fun _=>⟨rfl,h3⟩,?_⟩;have:=hK _ h;simp only[XV.er,bu,cn]at this;rw[if_pos (show(some _).isSome=true from rfl)];exact this
  ·cases h
 ·rename_i t;split at h
  ·refine⟨fun e he=>(by simp at he),?_⟩;refine(show∀Q:Nat->Prop,Q 0->gV s.er.ev none ([]:List (List DV)).length Q from fun _ h=>h) _ ?_;refine dB (d:=0) h fun hh h=>dB h fun l h=>?_;obtain⟨h1,h⟩:=aX h;obtain⟨h2,h⟩:=aX h;refine⟨h1,h2,τ _,fun e=>dh e,?_⟩;have:=hK _ h;rw[if_pos (show hh=0 by omega),List.drop_nil,List.take_nil];exact this
  ·cases h
 ·rename_i hd t len;split at h
  ·rename_i hb;have hb:=η hb;split at h
   ·refine⟨hb,rfl,?_⟩;show 0<=len/\len<=len/\_;refine⟨fo _,τ _,?_⟩;have:=hK _ h;simp only[XV.er,hb]at this;exact this
   ·refine⟨hb,rfl,dB h fun hh h=>?_⟩;obtain⟨h2,h⟩:=aX h;show 0<=hh/\hh<=len/\_;refine⟨fo _,h2,?_⟩;have:=hK _ h;simp only[XV.er,hb]at this;exact this
   ·refine⟨hb,rfl,dB h fun hh h=>dB h fun l h=>?_⟩;obtain⟨h1,h⟩:=aX h;obtain⟨h2,h⟩:=aX h;refine⟨h1,h2,?_⟩;have:=hK _ h;simp only[XV.er,hb]at this;rw[bg];exact this
  ·cases h
 ·rename_i hd t off len;split at h
  ·rename_i hb;have hb:=η hb;refine⟨hb,rfl,dB h fun hh h=>dB h fun l h=>?_⟩;obtain⟨h1,h⟩:=aX h;obtain⟨h2,h⟩:=aX h;refine⟨h1,h2,?_⟩;have:=hK _ h;simp only[XV.er,hb]at this;exact this
  ·cases h
 ·rename_i hd off len;split at h
  ·rename_i hb;have hb:=η hb;refine⟨hb,rfl,dB h fun hh h=>dB h fun l h=>?_⟩;obtain⟨h1,h⟩:=aX h;obtain⟨h2,h⟩:=aX h;refine⟨h1,h2,?_⟩;have:=hK _ h;rw[vS,ct]at this;subst hb;exact this
  ·cases h
 ·rename_i hd off l0 len;split at h
  ·rename_i hb;have hb:=η hb;refine⟨hb,rfl,dB h fun hh h=>dB h fun l h=>?_⟩;obtain⟨h1,h⟩:=aX h;obtain⟨h2,h⟩:=aX h;refine⟨h1,h2,?_⟩;have:=hK _ h;simp only[XV.er,vS,ct]at this;subst hb;rw[fw];exact this
  ·cases h
 ·cases h
end
section
variable{R:Type}
def aO(xs:List Int):Str:=xs.map fun n=>UInt8.ofNat n.toNat
theorem aH2:∀{xs:List Int},rP (xs.map (Ty.i .u8).ds)=some (aO xs)
 |[]=>rfl
 |x::xs=>by have ih:=aH2 (xs:=xs);show(rP (xs.map (Ty.i .u8).ds)).map _=_;rw[ih];rfl
def szL:List XV->Nat
 |[]=>0
 |v::r=>v.sz+szL r
theorem aHe[YL]:∀l:List XV,(XV.fcL l).length=szL l
 |[]=>rfl
 |v::r=>by show(v.fc++XV.fcL r).length=v.sz+szL r;rw[ι,aM3,aHe r]
theorem aAu:∀l:List DV,AV.data (l.map .D)=some l
 |[]=>rfl
 |x::l=>by show(AV.data (l.map .D)).map (x::·)=_;rw[aAu l];rfl
def zl:Ty->List XV
 |.u=>[]
 |.b=>[.d .b false]
 |.i k=>[.d (.i k) 0]
 |.s=>[.d .s []]
 |.p a c=>zl a++zl c
 |.w a=>zl a
 |.ar n k=>[.d (.ar n k) (Arr.zero n)]
 |.sl t=>[.fln t]
 |.o t=>[.fln t]
def aCr:Ty->List AV
 |.u=>[]
 |.b=>[.D (.B false)]
 |.i k=>[.D (.I k 0)]
 |.s=>[.D (.S [])]
 |.p a c=>aCr a++aCr c
 |.w a=>aCr a
 |.ar n k=>ω n (.D (.I k 0))
 |.sl _=>[.fl []]
 |.o _=>[.fl []]
theorem aF4[YL]:∀t:Ty,XV.fcL (zl t)=aCr t
 |.u=>rfl
 |.b=>rfl
 |.i _=>rfl
 |.s=>rfl
 |.p a c=>by show XV.fcL (zl a++zl c)=aCr a++aCr c;rw[pV,aF4 a,aF4 c]
 |.w a=>aF4 a
 |.ar n k=>by
  show(((ω n (0:Int)).map (DV.I k)).map AV.D)++[]=ω n (.D (.I k 0));rw[bb,jj,jj]
 |.sl _=>rfl
 |.o _=>rfl
def zeq:List AV->List AV->Bool
 |[],[]=>true
 |.D (.B x)::r,.D (.B y)::r'=>(x==y)&&zeq r r'
 |.D (.I k x)::r,.D (.I k' y)::r'=>decide (k=k')&&((x==y)&&zeq r r')
 |.D (.S x)::r,.D (.S y)::r'=>(x==y)&&zeq r r'
 |.fl []::r,.fl []::r'=>zeq r r'
 |.D (.L [])::r,.D (.L [])::r'=>zeq r r'
 |_,_=>false
theorem aCu:∀{a c:List AV},zeq a c=true->a=c:=by
 intro a
 induction a with
 |nil=>intro c h;cases c<;>first|rfl|(cases h;done)
 |cons x r ih=>
  intro c h;unfold zeq at h;split at h
  ·cases‹x::r=[]›
  ·rename_i e;cases e;rw[μ,beq_iff_eq]at h;rw[h.1,ih h.2]
  ·rename_i e;cases e;rw[μ,μ,beq_iff_eq,decide_eq_true_eq]at h;rw[h.1,h.2.1,ih h.2.2]
  ·rename_i e;cases e;rw[μ,beq_iff_eq]at h;rw[h.1,ih h.2]
  ·rename_i e;cases e;rw[ih h]
  ·rename_i e;cases e;rw[ih h]
  ·cases h
def zX:List AV->Option (List XV)
 |[]=>some []
 |.D (.B x)::r=>(zX r).map (.d .b x::·)
 |.D (.I k x)::r=>(zX r).map (.d (.i k) x::·)
 |.D (.S x)::r=>(zX r).map (.d .s x::·)
 |.fl []::r=>(zX r).map (.fln .u::·)
 |.D (.C v)::r=>(zX r).map (.c v::·)
 |_=>none
theorem bMc[YL]:∀{a:List AV} {l:List XV},zX a=some l->XV.fcL l=a:=by
  intro a
  induction a with
  |nil=>intro l h;cases h;rfl
  | cons x r ih =>
    intro l h;unfold zX at h;split at h
    · rename_i e;cases e
    all_goals first
      | (rename_i e;cases e
         rw[θ]at h;obtain⟨l',h1,rfl⟩:=h;exact congrArg (_::·) (ih h1))
      |(cases h;done)
def aZf(ty:Option Ty)(zs:List AV):Option (List XV):=match ty with
 |some t=>match zeq zs (aCr t)with
  |true=>some (zl t)
  |false=>none
 |none=>zX zs
theorem aT2[YL](h:aZf ty zs=some l):XV.fcL l=zs:=by
 unfold aZf at h;split at h
 ·split at h
  ·rename_i hz;cases h;rw[aF4,aCu hz]
  ·cases h
 ·exact bMc h
def elT:Option Ty->Option Ty
 |some (.sl t)=>some t
 |_=>none
def xbs(s:XS)(t:Ty):List XV->(List t.T->Option R)->Option R
 |[],K=>K []
 |v::vs,K=>match vL v with
  |some cs=>pkC s t cs fun x l=>match l with
   |[]=>xbs s t vs fun ys=>K (x::ys)
   |_=>none
  |none=>none
theorem bFq[YL]{s:XS}{t:Ty}{k:Nat}(hk:t.n=k){r:R}:∀{ps:List Operand} {vs:List XV} {K:List t.T->Option R},ps.map s.er.ev=XV.erL vs->xbs s t vs K=some r->∃xs,K xs=some r/\xI s.er.lk s.er.ev k ps=some (xs.map t.ds)/\eR s.er.ev ps=XV.hrL vs
 |[],[],K,_,h=>⟨[],h,rfl,rfl⟩
 |p::ps,v::vs,K,e,h=>by
  have e1:s.er.ev p=v.er:=List.head_eq_of_cons_eq e;have e2:ps.map s.er.ev=XV.erL vs:=List.tail_eq_of_cons_eq e;unfold xbs at h;split at h
  ·rename_i cs hcs;obtain⟨x,l1,l2,rfl,h,ec⟩:=bGk (φ:=fun _=>none) (fun _ _ _=>rfl) h;split at h
   ·obtain⟨xs,h,h1,h2⟩:=bFq hk e2 h;refine⟨x::xs,h,?_,?_⟩
    ·unfold xI;rw[e1,pE hcs,h1];show(match AV.data (AV.convL s.er.lk (fun _=>none) (XV.fcL (l1++[]))),some (xs.map t.ds)with|some e,some es=>if e.length=k then some (e::es)else none|_,_=>none)=_;rw[bb,ec,aAu];show(if(t.ds x).length=k then _ else _)=_;rw[if_pos (by rw[Ty.ds_len];exact hk)];rfl
    ·show AV.rows (s.er.ev p)++eR s.er.ev ps=_;rw[e1,aH7,h2];rfl
   ·cases h
  ·cases h
 |[],_::_,_,e,_=>by cases e
 |_::_,[],_,e,_=>by cases e
def aX4(s:XS):List (Nat×Nat×Operand)->List XV->(List XV->Option R)->Option R
 |[],l,K=>K l
 |(o,sz,x)::r,l,K=>w1 s x fun v=>match vL v with
  |some cs=>match au (szL cs) sz,aRe l o cs sz with
   |true,some l'=>aX4 s r l' K
   |_,_=>none
  |none=>none
theorem aLs(o:Nat)(xs:List AV):∀(r:List (Nat×List AV)) (cs:List AV),zO cs (r++[(o,xs)])=(zO cs r).take o++xs++(zO cs r).drop (o+xs.length)
 |[],cs=>rfl
 |(o',ys)::r,cs=>by show zO _ (r++[(o,xs)])=_;rw[aLs o xs r];rfl
theorem aPf[YL]{s:XS}{zs:List AV}{K:List XV->Option R}{r:R}{KP:AV->Prop}(hK:∀l,K l=some r->KP (.agg (XV.fcL l))):∀{ps:List (Nat×Nat×Operand)} {l:List XV} {acc:List (Nat×List AV)},XV.fcL l=zO zs acc.reverse->(XV.fcL l).length=zs.length->aX4 s ps l K=some r->aG1 s.er.ev zs ps acc KP
 |[],l,acc,e,_,h=>by show KP (.agg (zO zs acc.reverse));rw[<-e];exact hK _ h
 |(o,sz,x)::ps,l,acc,e,el,h=>by
  obtain⟨h,e1⟩:=aM h;split at h
  ·rename_i cs hcs;split at h
   ·rename_i l' hb hu;obtain⟨u1,u2⟩:=xD hu;have hsz:(XV.fcL cs).length=sz:=by rw[aHe];exact η hb
    refine⟨XV.fcL cs,by rw[e1];exact pE hcs,hsz,by rw[<-el];exact u1,?_⟩;refine aPf hK (l:=l') ?_ ?_ h
    ·rw[u2,e,List.reverse_cons,aLs,hsz]
    ·rw[u2,ι,ι,bn,aw,hsz];omega
   ·cases h
  ·cases h
def unA:XV->XV
 |.agg [.d (.ar n k) x]=>.d (.ar n k) x
 |v=>v
theorem aSk[YL](v:XV):(unA v).er=v.er:=by
 unfold unA;split
 ·rename_i n k x;show AV.agg (((Ty.ar n k).ds x).map .D)=.agg (((Ty.ar n k).ds x).map .D++[]);rw[bb]
 ·rfl
def Ty.z:(t:Ty)->t.T
 |.u=>()
 |.b=>false
 |.i _=>0
 |.s=>[]
 |.p a c=>(a.z,c.z)
 |.w a=>a.z
 |.ar n _=>Arr.zero n
 |.sl _=>[]
 |.o _=>[]
def bPn(t:Ty)(k bytes:Nat)(zs:List DV)(K:XV->XB->Option R)(m:Nat):XV->XV->Option R
 |.d (.i _) l,.d (.i _) c=>match au t.n k,zeq (zs.map .D) ((t.ds t.z).map .D)with
  |true,true=>gd? (0<=l) (gd? (l<=c) (gd? (c.toNat<=9223372036854775807) (gd? (c.toNat*bytes<=281474976710656) (K (.slw (.O m) t l.toNat) (.row true t (ω l.toNat t.z))))))
  |_,_=>none
 |_,_=>none
theorem bLh[YL]{zs:List DV}{K:XV->XB->Option R}{r:R}{m:Nat}{vx:XV}(h:bPn t k bytes zs K m vx vy=some r):
  ∃(k1 k2:IntKind) (l c:Int) (v:XV) (b:XB),vx.er=.D (.I k1 l)/\vy.er=.D (.I k2 c)/\0<=l/\l<=c/\c<=9223372036854775807/\(bytes:Int)*c<=281474976710656/\K v b=some r/\v.er=.sl (.O m) k 0 l.toNat/\b.er=.row true k (ω l.toNat zs):=by
 unfold bPn at h;split at h
 ·rename_i k1 l k2 c;split at h
  ·rename_i hb hz;have hb:=η hb;have hz:=nU (aCu hz);obtain⟨h1,h⟩:=aX h;obtain⟨h2,h⟩:=aX h;obtain⟨h3,h⟩:=aX h;obtain⟨h4,h⟩:=aX h;have h0:(0:Int)<=c:=Int.le_trans (show(0:Int)<=l from h1) h2;have hc:((Int.toNat c:Nat):Int)=c:=Int.toNat_of_nonneg h0;have h3:(c:Int)<=9223372036854775807:=by rw[<-hc];exact Int.ofNat_le.2 h3
   have h4:(bytes:Int)*c<=281474976710656:=by rw[<-hc,Int.mul_comm,<-Int.natCast_mul];exact Int.ofNat_le.2 h4
   refine⟨k1,k2,l,c,_,_,rfl,rfl,h1,h2,h3,h4,h,?_,?_⟩
   ·show AV.sl (.O m) t.n 0 _=_;rw[hb]
   ·show Blk.row true t.n ((ω _ t.z).map t.ds)=_;rw[hb,jj,<-hz]
  ·cases h
 ·cases h
def xpk(j:Int)(K:XV->Option R):Nat->List XV->Option R
 |_,[]=>none
 |i,v::vs=>match v with
  |.clo f c=>if? (decide (j=(i:Int))) (K (.clo f c)) (xpk j K (i+1) vs)
  |_=>none
theorem bFf[YL]{j:Int}{K:XV->Option R}{r:R}:∀{vs:List XV} {i:Nat},xpk j K i vs=some r->∃n v,j=((i+n:Nat):Int)/\n<vs.length/\(XV.fcL vs)[n]?=some v.er/\K v=some r
 |[],i,h=>by cases h
 |v::vs,i,h=>by
  unfold xpk at h;split at h
  ·rename_i f c;by_cases hj:j=(i:Int)
   ·rw[decide_eq_true hj]at h;exact⟨0,.clo f c,hj,Nat.succ_pos _,rfl,h⟩
   ·rw[decide_eq_false hj]at h;have h:xpk j K (i+1) vs=some r:=h;obtain⟨n,v,h1,h2,h3,h4⟩:=bFf h;exact⟨n+1,v,by rw[h1];congr 1;omega,Nat.succ_lt_succ h2,h3,h4⟩
  ·cases h
def bQi(m k:Nat)(ag:Option Nat)(j:Int)(K:XV->Option R):XV->Option R
 |.d (.ar n k') y=>match ag with
  |none=>match au n m,au k 1 with
   |true,true=>aU y.l j fun c=>K (.d (.i k') c)
   |_,_=>none
  |some q=>match au (m*k) n,au q k with
   |true,true=>gd? (0<=j) (gd? (j<(m:Int)) (K (.d (.ar q k') (y.part (ixA 0 j.toNat k) q))))
   |_,_=>none
 |.agg cs=>match ag,au cs.length m,au k 1 with
  |none,true,true=>xpk j K 0 cs
  |_,_,_=>none
 |_=>none
theorem bJo[YL]{m:Nat}{K:XV->Option R}{r:R}(h:bQi m k ag j K v=some r){KP:AV->Prop}(hK:∀v,K v=some r->KP v.er):∃cs,v.er=.agg cs/\0<=j/\j<(m:Int)/\
  match(generalizing:=false) ag with
  |none=>∃a,cs[j.toNat*k]?=some a/\KP a
  |some q=>j.toNat*k+q<=cs.length/\KP (.agg ((cs.drop (j.toNat*k)).take q)):=by
 unfold bQi at h;split at h
 ·rename_i n k' y;cases ag with
  |none=>
   replace h:(match au n m,au k 1 with
    |true,true=>aU y.l j fun c=>K (.d (.i k') c)
    |_,_=>none)=some r:=h
   split at h
   ·rename_i hb hb2;have hb:=η hb;have hb2:=η hb2;obtain⟨c,h0,hc,h⟩:=aUb h;have hlt:=(χ.1 hc).1;rw[y.len]at hlt;refine⟨(y.l.map (DV.I k')).map .D,rfl,h0,by omega,.D (.I k' c),?_,hK (.d (.i k') c) h⟩;rw[hb2,ct,ba,ba,hc];rfl
   ·cases h
  |some q=>
   replace h:(match au (m*k) n,au q k with
    |true,true=>gd? (0<=j) (gd? (j<(m:Int)) (K (.d (.ar q k') (y.part (ixA 0 j.toNat k) q))))
    |_,_=>none)=some r:=h
   split at h
   ·rename_i hb hb2;have hb:=η hb;obtain rfl:=η hb2;obtain⟨h0,h⟩:=aX h;obtain⟨h1,h⟩:=aX h;have hle:j.toNat*q+q<=n:=by rw[<-hb,<-Nat.succ_mul];exact Nat.mul_le_mul_right _ (by omega)
    have:=hK _ h;rw[vS,bg]at this;refine⟨(y.l.map (DV.I k')).map .D,rfl,h0,h1,by rw[κ,κ,y.len];exact hle,?_⟩;have e:(XV.d (.ar q k') (y.part (j.toNat*q) q)).er=.agg ((((y.l.map (DV.I k')).map AV.D).drop (j.toNat*q)).take q):=by show AV.agg (((y.part (j.toNat*q) q).l.map (DV.I k')).map .D)=_;rw[Arr.l_part hle,bu,cn,bu,cn]
    rw[e]at this;exact this
   ·cases h
 ·rename_i cs;split at h
  ·rename_i hb hb2;have hb:=η hb;obtain rfl:=η hb2;obtain⟨n,v,h1,h2,h3,h4⟩:=bFf h;refine⟨XV.fcL cs,rfl,by omega,by omega,v.er,?_,hK v h4⟩;rw[h1,ξ,ct,bg];exact h3
  ·cases h
 ·cases h
def bS7(s:XS)(m:Nat)(lo hi:Option Operand)(K:XV->Option R):XV->Option R
 |.apt h ix=>match s.lk h with
  |some (.arr _ n _ _)=>match m9 (ix+m) n with
   |true=>rW s hi m fun hh=>rW s lo 0 fun l=>gd? (l<=hh) (gd? (hh<=m) (K (.asl h (ixA ix l 1) (hh-l))))
   |false=>none
  |_=>none
 |.rpt h off=>match s.lk h with
  |some (.rb _ t x)=>match aCp (lvs t x) off with
   |some a=>match au a.n m with
    |true=>rW s hi m fun hh=>rW s lo 0 fun l=>gd? (l<=hh) (gd? (hh<=m) (K (.rsl h off l (hh-l))))
    |false=>none
   |none=>none
  |_=>none
 |_=>none
def zK(k:IntKind):Nat->List AV->Bool
 |0,[]=>true
 |n+1,.D (.I k' 0)::l=>decide (k'=k)&&zK k n l
 |_,_=>false
theorem bNc{k:IntKind}:∀{n:Nat} {l:List AV},zK k n l=true->l=(ω n (DV.I k 0)).map .D
 |0,[],_=>rfl
 |n+1,.D (.I k' 0)::l,h=>by have h:(decide (k'=k)&&zK k n l)=true:=h;rw[μ,decide_eq_true_eq]at h;rw[h.1,bNc h.2];rfl
def bNd(zs:List AV)(K:XV->XB->Option R)(m:Nat):Ty->Option R
 |.ar n k=>match zK k n zs with
  |true=>K (.apt (.O m) 0) (.arr true n k (Arr.zero n))
  |false=>none
 |t=>match zeq zs ((t.ds t.z).map .D)with
  |true=>K (.rpt (.O m) 0) (.rb true t t.z)
  |false=>none
def bMo(ty:Option Ty)(K:XV->XB->Option R)(m:Nat):XV->Option R
 |.d (.ar n k) y=>K (.apt (.O m) 0) (.arr true n k y)
 |.agg cs=>match ty with
  |some t=>match pkD t cs with
   |some (x,[])=>K (.rpt (.O m) 0) (.rb true t x)
   |_=>none
  |none=>none
 |_=>none
def bPd(k:IntKind)(m:Nat)(K:Bool->Option R):XV->XV->Option R
 |.d (.ar n k1) a,.d (.ar n2 k2) b=>match au n m,au n2 m,decide (k1=k),decide (k2=k)with
  |true,true,true,true=>K (a.l==b.l)
  |_,_,_,_=>none
 |_,_=>none
def bAi(K:XV->Option R):XV->Option R
 |.ptr h o=>K (.ptr h o)
 |.ept h t ix o=>K (.ept h t ix o)
 |.apt h ix=>K (.apt h ix)
 |.rpt h o=>K (.rpt h o)
 |.rop t x o=>K (.rop t x o)
 |_=>none
theorem aAk{k:IntKind}:∀(l:List Int),yC k ((l.map (DV.I k)).map .D)=some l
 |[]=>rfl
 |x::l=>by show(if k=k then(yC k ((l.map (DV.I k)).map .D)).map (x::·)else none)=_;rw[if_pos rfl,aAk l];rfl
theorem bLi[YL]{k:IntKind}{m:Nat}{K:Bool->Option R}{r:R}{c:XV}(h:bPd k m K a c=some r):∃xs ys p q,a.er=.agg xs/\c.er=.agg ys/\yC k xs=some p/\yC k ys=some q/\p.length=m/\q.length=m/\K (p==q)=some r:=by
 unfold bPd at h;split at h
 ·rename_i n k1 a n2 k2 b;split at h
  ·rename_i h1 h2 h3 h4;have h1:=η h1;have h2:=η h2;have h3:=of_decide_eq_true h3;have h4:=of_decide_eq_true h4;subst h1 h2 h3 h4;exact⟨(a.l.map (DV.I _)).map .D,(b.l.map (DV.I _)).map .D,a.l,b.l,rfl,rfl,aAk _,aAk _,a.len,b.len,h⟩
  ·cases h
 ·cases h
theorem aUi[YL]{K:XV->Option R}{r:R}(h:bAi K v=some r){KP:AV->Prop}(hK:∀v,K v=some r->KP v.er):match v.er with
  |.ptr h o=>KP (.ptr h o)
  |.eptr h k ix o=>KP (.eptr h k ix o)
  |.rop ds=>KP (.rop ds)
  |_=>False:=by
 unfold bAi at h;split at h
 ·exact hK _ h
 ·exact hK _ h
 ·exact hK _ h
 ·exact hK _ h
 ·exact hK _ h
 ·cases h
theorem aGa:∀l:List DV,AV.data (l.map .D)=some l
 |[]=>rfl
 |x::l=>by show(AV.data (l.map AV.D)).map (x::·)=_;rw[aGa l];rfl
def oU:List Sh->Bool->Bool->Bool
 |[],p,_=>p
 |_::_,p,q=>p&&q
def bOa(k:IntKind)(m:Nat):XV->XV->Option Bool
 |.d (.ar n k1) a,.d (.ar n2 k2) e=>match au n m,au n2 m,decide (k1=k),decide (k2=k)with
  |true,true,true,true=>some (a.l==e.l)
  |_,_,_,_=>none
 |_,_=>none
theorem bJc[YL]{k:IntKind}{m:Nat}{x:XV}{b:Bool}(h:bOa k m x y=some b):∃p q:List Int,x.fc=(p.map (DV.I k)).map .D/\y.fc=(q.map (DV.I k)).map .D/\p.length=m/\q.length=m/\b=(p==q):=by
 unfold bOa at h;split at h
 ·rename_i n k1 a n2 k2 e;split at h
  ·rename_i h1 h2 h3 h4;obtain rfl:=η h1;obtain rfl:=η h2;obtain rfl:=of_decide_eq_true h3;obtain rfl:=of_decide_eq_true h4;cases h;exact⟨a.l,e.l,rfl,rfl,a.len,e.len,rfl⟩
  ·cases h
 ·cases h
def aTe:List Sh->List XV->List XV->Option Bool
 |[],[],[]=>some true
 |.s kd::r,x::xs,y::ys=>match aLj kd x y,aTe r xs ys with
  |some p,some q=>some (oU r p q)
  |_,_=>none
 |.a k m::r,x::xs,y::ys=>match bOa k m x y,aTe r xs ys with
  |some p,some q=>some (oU r p q)
  |_,_=>none
 |_,_,_=>none
theorem bE7(h:aTe [] xs ys=some q):q=true:=by cases xs<;>cases ys<;>first|(cases h;rfl;done)|(cases h;done)
theorem aJ3{r:List Sh}{p:Bool}(h:aTe r xs ys=some q):oU r p q=(p&&q):=by
 cases r with
 |nil=>rw[bE7 h,jl];rfl
 |cons _ _=>rfl
theorem bB4[YL]{kd:Nat}{x:XV}{p:Bool}(hp:aLj kd x y=some p):∃d1 d2,x.fc=[.D d1]/\y.fc=[.D d2]/\DV.same kd d1 d2=some p:=by
 unfold aLj at hp;split at hp
 ·split at hp
  ·rename_i hb;obtain rfl:=η hb;exact⟨_,_,rfl,rfl,hp⟩
  ·cases hp
 ·exact⟨_,_,rfl,rfl,hp⟩
 ·split at hp
  ·rename_i hb;obtain rfl:=η hb;exact⟨_,_,rfl,rfl,hp⟩
  ·cases hp
 ·cases hp
theorem aQp[YL]:∀{sh:List Sh} {xs ys:List XV} {b:Bool},aTe sh xs ys=some b->aIz sh (XV.fcL xs) (XV.fcL ys)=some b
 |[],xs,ys,b,h=>by
  cases xs<;>cases ys<;>first|(cases h;rfl;done)|(cases h;done)
 |.s kd::r,x::xs,y::ys,b,h=>by
  unfold aTe at h;split at h
  ·rename_i p q h1 h2;cases h;obtain⟨d1,d2,e1,e2,e3⟩:=bB4 h1;have ih:=aQp h2;show aIz (.s kd::r) (x.fc++XV.fcL xs) (y.fc++XV.fcL ys)=_;rw[e1,e2,aJ3 h2];show(match DV.same kd d1 d2,aIz r (XV.fcL xs) (XV.fcL ys)with|some p,some q=>some (p&&q)|_,_=>none)=_;rw[e3,ih]
  ·cases h
 |.a k m::r,x::xs,y::ys,b,h=>by
  unfold aTe at h;split at h
  ·rename_i p q h1 h2;cases h;obtain⟨p1,q1,e1,e2,l1,l2,rfl⟩:=bJc h1;have ih:=aQp h2;show aIz (.a k m::r) (x.fc++XV.fcL xs) (y.fc++XV.fcL ys)=_;rw[e1,e2,aJ3 h2];have hl:∀(p:List Int),p.length=m->((p.map (DV.I k)).map AV.D).length=m:=fun p e=>by rw[κ,κ,e]
   have tk:∀{a c:List AV},a.length=m->(a++c).take m=a:=fun e=>by rw[<-e,List.take_left]
   have dp:∀{a c:List AV},a.length=m->(a++c).drop m=c:=fun e=>by rw[<-e,List.drop_left]
   unfold aIz;rw[tk (hl _ l1),tk (hl _ l2),dp (hl _ l1),dp (hl _ l2),aAk,aAk,ih];simp only;rw[if_pos ⟨l1,l2⟩]
  ·cases h
 |.s _::_,[],ys,b,h=>by cases h
 |.s _::_,_::_,[],b,h=>by cases h
 |.a _ _::_,[],ys,b,h=>by cases h
 |.a _ _::_,_::_,[],b,h=>by cases h
section
variable{α β:Type}[DecidableEq α]
def fM:List (α×β)->α->Option β
 |[],_=>none
 |e::es,y=>if e.1=y then some e.2 else fM es y
def oT:List (α×β)->α->β->List (α×β)
 |[],y,v=>[(y,v)]
 |e::es,y,v=>if e.1=y then(y,v)::es else e::oT es y v
def bRe:List (α×β)->α->List (α×β)
 |[],_=>[]
 |e::es,y=>if e.1=y then es else e::bRe es y
end
def bJj(t:Ty)(x:t.T):XV:=match t,x with
 |.o t,x=>.d (.sl t) x
 |t,x=>aN6 t x
theorem aJu[YL](t:Ty)(x:t.T):(bJj t x).er=cH t x:=by cases t<;>first|rfl|exact aJd (.p _ _) _|exact aJd (.w _) _
theorem bKi(t:Ty)(x:t.T):(uB false t x).av=cH t x:=by cases t<;>rfl
theorem aUe:∀{a b c d:List AV} {p q:Bool},aDr a b=some p->aDr c d=some q->aDr (a++c) (b++d)=some (p&&q)
 |a,b,c,d,p,q,h,h2=>by
  unfold aDr at h;split at h
  ·cases h;simpa using h2
  ·rename_i k n xs k' n' ys;rw[ε]at h;obtain⟨e,h⟩:=h;split at h
   ·rename_i b0 hb;cases h;show(if k=k' then match aDr (xs++c) (ys++d)with|some b=>some (n==n'&&b)|none=>none else none)=_;rw[if_pos e,aUe hb h2,k7]
   ·cases h
  ·cases h
theorem bA9(k:IntKind):∀(l l':List Int),l.length=l'.length->aDr ((l.map (DV.I k)).map .D) ((l'.map (DV.I k)).map .D)=some (decide (l'=l))
 |[],[],_=>rfl
 |x::l,y::l',h=>by
  show(if k=k then match aDr ((l.map (DV.I k)).map .D) ((l'.map (DV.I k)).map .D)with|some b=>some (x==y&&b)|none=>none else none)=_;rw[if_pos rfl,bA9 k l l' (by simpa using h)];simp only[Option.some.injEq];rw[e7,μ,beq_iff_eq,decide_eq_true_eq,decide_eq_true_eq];exact⟨fun⟨a,b⟩=>by rw[a,b],fun e=>by cases e;exact⟨rfl,rfl⟩⟩
 |[],_::_,h=>by cases h
 |_::_,[],h=>by cases h
theorem aQ8:∀{t:Ty},aSc t=true->∀x y:t.T,aDr ((t.ds x).map .D) ((t.ds y).map .D)=some (decide (y=x))
 |.i k,_,x,y=>by
  show(if k=k then some (((x:Int)==y)&&true)else none)=_;rw[if_pos rfl,jl];congr 1;rw[e7,beq_iff_eq,decide_eq_true_eq];exact⟨Eq.symm,Eq.symm⟩
 |.p a b,h,x,y=>by
  have h:(aSc a&&aSc b)=true:=h;rw[μ]at h;show aDr ((a.ds x.1++b.ds x.2).map .D) ((a.ds y.1++b.ds y.2).map .D)=_;rw[bq,bq,aUe (aQ8 h.1 x.1 y.1) (aQ8 h.2 x.2 y.2)];congr 1;rw[e7,μ,decide_eq_true_eq,decide_eq_true_eq,decide_eq_true_eq];exact⟨fun⟨a,b⟩=>Prod.ext a b,fun e=>by rw[e];exact⟨rfl,rfl⟩⟩
 |.ar n k,_,x,y=>by
  show aDr ((x.l.map (DV.I k)).map .D) ((y.l.map (DV.I k)).map .D)=_;rw[bA9 k x.l y.l (x.len.trans y.len.symm)];congr 1;rw[e7,decide_eq_true_eq,decide_eq_true_eq];exact⟨fun e=>Arr.ext e,fun e=>by rw[e]⟩
 |.u,h,_,_|.b,h,_,_|.s,h,_,_|.w _,h,_,_|.sl _,h,_,_|.o _,h,_,_=>by cases h
theorem aTc:∀{a b:List IntKind} {c d:List AV},aCj a c=true->aCj b d=true->aCj (a++b) (c++d)=true
 |a,b,c,d,h,h2=>by
  unfold aCj at h;split at h
  ·exact h2
  ·rw[μ]at h;show(decide _&&aCj (_++b) (_++d))=true;rw[h.1,aTc h.2 h2];rfl
  ·cases h
theorem aZz(k:IntKind):∀(n:Nat) (l:List Int),l.length=n->aCj (ω n k) ((l.map (DV.I k)).map .D)=true
 |0,l,h=>by rw[List.length_eq_zero_iff.1 h];rfl
 |n+1,[],h=>by cases h
 |n+1,x::l,h=>by show(decide (k=k)&&aCj (ω n k) ((l.map (DV.I k)).map .D))=true;rw[decide_eq_true rfl,aZz k n l (by simpa using h)];rfl
theorem aS2:∀{t:Ty},aSc t=true->∀x:t.T,aCj (aO8 t) ((t.ds x).map .D)=true
 |.i k,_,x=>by show(decide (k=k)&&true)=true;rw[decide_eq_true rfl];rfl
 |.p a b,h,x=>by
  have h:(aSc a&&aSc b)=true:=h;rw[μ]at h;show aCj (aO8 a++aO8 b) ((a.ds x.1++b.ds x.2).map .D)=true;rw[bq];exact aTc (aS2 h.1 x.1) (aS2 h.2 x.2)
 |.ar n k,_,x=>aZz k n x.l x.len
 |.u,h,_|.b,h,_|.s,h,_|.w _,h,_|.sl _,h,_|.o _,h,_=>by cases h
theorem aZe(h:zH K=true)(x y:K.T):(cH K x).keq (cH K y)=some (decide (y=x)):=by
 cases K<;>first|(cases h;done)|skip
 ·rename_i k;show(if k=k then some ((x:Int)==y)else none)=_;rw[if_pos rfl];congr 1;rw[e7,beq_iff_eq,decide_eq_true_eq];exact⟨Eq.symm,Eq.symm⟩
 ·show some ((x:List UInt8)==y)=_;congr 1;rw[e7,beq_iff_eq,decide_eq_true_eq];exact⟨Eq.symm,Eq.symm⟩
 ·exact aQ8 h x y
 ·exact aQ8 (t:=.ar _ _) rfl x y
theorem aY0(h:zH K=true)(x:K.T):(cH K x).isK K.kd=true:=by
 cases K<;>first|(cases h;done)|skip
 ·exact decide_eq_true rfl
 ·rfl
 ·exact aS2 h x
 ·exact aS2 (t:=.ar _ _) rfl x
theorem sZ{wr:Bool}{K V:Ty}(hk:zH K=true)(y:K.T):∀(es:List (K.T×V.T)) (hole:Option K.T),∃r,mQ (cH K y) (gK wr K V es hole)=some r/\
  match fM es y with
  |none=>r=none
  |some v=>∃j,r=some (j,if hole=some y then .v (bHs wr V v)else uB wr V v)
 |[],hole=>⟨none,rfl,rfl⟩
 |e::es,hole=>by
  have key:∀(mv:MV) (rest:List (AV×MV)) (r0:Option (Nat×MV)),mQ (cH K y) rest=some r0->mQ (cH K y) ((cH K e.1,mv)::rest)=some (if e.1=y then some (0,mv)else match r0 with|some (j,v)=>some (j+1,v)|none=>none):=fun mv rest r0 h0=>by
   unfold mQ;rw[aZe hk];by_cases he:e.1=y
   ·rw[decide_eq_true he,if_pos he]
   ·rw[decide_eq_false he,if_neg he];simp only[h0];cases r0 with
    |none=>rfl
    |some p=>rfl
  have hg:fM (e::es) y=if e.1=y then some e.2 else fM es y:=rfl
  cases hole with
  |none=>
   obtain⟨r0,h0,h1⟩:=sZ hk y es none;refine⟨_,key (uB wr V e.2) _ r0 h0,?_⟩;rw[hg];by_cases he:e.1=y
   ·rw[if_pos he,if_pos he];exact⟨0,by rw[if_neg (fun h=>by cases h)]⟩
   ·rw[if_neg he,if_neg he];cases hm:fM es y with
    |none=>rw[hm]at h1;simp only at h1;subst h1;rfl
    |some v=>rw[hm]at h1;obtain⟨j,rfl⟩:=h1;exact⟨j+1,rfl⟩
  |some z=>
   by_cases hz:e.1=z
   ·obtain⟨r0,h0,h1⟩:=sZ hk y es none;refine⟨_,by unfold gK;rw[if_pos hz];exact key (.v (bHs wr V e.2)) _ r0 h0,?_⟩;rw[hg];by_cases he:e.1=y
    ·rw[if_pos he,if_pos he];exact⟨0,by rw[if_pos (by rw[<-hz,he])]⟩
    ·rw[if_neg he,if_neg he];cases hm:fM es y with
     |none=>rw[hm]at h1;simp only at h1;subst h1;rfl
     |some v=>
      rw[hm]at h1;obtain⟨j,rfl⟩:=h1;exact⟨j+1,by rw[if_neg (fun h=>by cases h),if_neg (fun h=>he (by cases h;exact hz))]⟩
   ·obtain⟨r0,h0,h1⟩:=sZ hk y es (some z);refine⟨_,by unfold gK;rw[if_neg hz];exact key (uB wr V e.2) _ r0 h0,?_⟩;rw[hg];by_cases he:e.1=y
    ·rw[if_pos he,if_pos he];exact⟨0,by rw[if_neg (fun h=>hz (by cases h;exact he))]⟩
    ·rw[if_neg he,if_neg he];cases hm:fM es y with
     |none=>rw[hm]at h1;simp only at h1;subst h1;rfl
     |some v=>rw[hm]at h1;obtain⟨j,rfl⟩:=h1;exact⟨j+1,rfl⟩
def zOk(V:Ty):AV->Bool
 |.agg cs=>!(nR V)&&zeq cs ((V.ds V.z).map .D)
 |a=>nR V&&zeq [a] [cH V V.z]
theorem bPt{z:AV}(h:zOk V z=true):z=cH V V.z:=by
 unfold zOk at h;split at h
 ·rw[μ,dn]at h;rw[nH _ h.1,<-aCu h.2]
 ·rw[μ]at h;have:=aCu h.2;injection this
def kdB(a b:KD):Bool:=match a,b with
 |.i k,.i k'=>decide (k=k')
 |.s,.s=>true
 |.a l,.a l'=>decide (l=l')
 |_,_=>false
theorem aQ5{a b:KD}(h:kdB a b=true):a=b:=by
 unfold kdB at h;split at h
 ·rw[of_decide_eq_true h]
 ·rfl
 ·rw[of_decide_eq_true h]
 ·cases h
def aOh(K:Ty)(v:XV):Option K.T:=match v with
 |.d t x=>t.cst K x
 |.agg cs=>match nR K with
  |true=>none
  |false=>match pkD K cs with
   |some (x,[])=>some x
   |_=>none
 |_=>none
theorem aVh[YL]{y:K.T}(h:aOh K v=some y):v.er=cH K y:=by
 unfold aOh at h;split at h
 ·obtain⟨e,rfl⟩:=Ty.cst_ok h;subst e;rfl
 ·split at h
  ·cases h
  ·rename_i cs _ hl;split at h
   ·rename_i x hp;cases h;obtain⟨l1,e1,e2⟩:=qY hp;rw[bb]at e1;subst e1;rw[nH _ hl];show AV.agg (XV.fcL _)=_;rw[e2]
   ·cases h
 ·cases h
def bFl(s:XS)(kd:KD)(z:AV)(ok:Bool)(K:XV->Option R):XV->XV->Option R
 |.mref h,vy=>match s.lk h with
  |some (.mp false K0 V es _ _)=>match zH K0&&kdB K0.kd kd&&zOk V z,aOh K0 vy with
   |true,some y=>match ok with
    |true=>K (.tup [bJj V ((fM es y).getD V.z),.d .b (fM es y).isSome])
    |false=>K (bJj V ((fM es y).getD V.z))
   |_,_=>none
  |_=>none
 |_,_=>none
theorem bEd[YL]{kd:KD}{z:AV}{ok:Bool}{K:XV->Option R}{r:R}{vx:XV}(h:bFl s kd z ok K vx vy=some r){KP:AV->Prop}(hK:∀v,K v=some r->KP v.er):
  ∃h es i q,vx.er=.mref h/\s.er.lk h=some (.mp kd es i)/\vy.er.isK kd=true/\mQ vy.er es=some q/\
   match q with
   |some (_,mv)=>KP (if ok=true then .tup [mv.av,.D (.B true)]else mv.av)
   |none=>KP (if ok=true then .tup [z,.D (.B false)]else z):=by
 unfold bFl at h;split at h
 ·rename_i hd;split at h
  ·rename_i K0 V es hole i hl;split at h
   ·rename_i y hb hy;rw[μ,μ]at hb;obtain⟨⟨hk,hkd⟩,hz⟩:=hb;have hkd:=aQ5 hkd;subst hkd;have hz:=bPt hz;subst hz;have ey:=aVh hy;obtain⟨q,f1,f2⟩:=sZ (V:=V) hk y es hole;refine⟨hd,_,_,q,rfl,by rw[aQ,hl];rfl,by rw[ey];exact aY0 hk y,by rw[ey];exact f1,?_⟩;cases hm:fM es y with
    |none=>
     rw[hm]at f2 h;simp only at f2;subst f2;simp only;cases ok with
     |true=>
      have:=hK _ h;simp only[XV.er,XV.erL,aJu,Option.getD_none,Option.isSome_none]at this;exact this
     |false=>
      have:=hK _ h;rw[aJu]at this;exact this
    |some v=>
     rw[hm]at f2 h;obtain⟨j,rfl⟩:=f2;have e:(if hole=some y then MV.v (bHs false V v)else uB false V v).av=cH V v:=by
      split
      ·rfl
      ·exact bKi _ _
     simp only[e];cases ok with
     |true=>
      have:=hK _ h;simp only[XV.er,XV.erL,aJu,Option.getD_some,Option.isSome_some]at this;exact this
     |false=>
      have:=hK _ h;rw[aJu]at this;exact this
   ·cases h
  ·cases h
 ·cases h
def bUr(s:XS)(K:XV->Option R):XV->Option R
 |.itr h hi=>match s.lk h,s.lk hi with
  |some (.mp false K0 V es _ (some (hi',some cur,_))),some _=>match zH K0&&hi.eqb hi' with
   |true=>bd? (fM es cur) fun v=>K (.tup [aN6 K0 cur,bJj V v])
   |false=>none
  |_,_=>none
 |_=>none
def bPg(neg:Bool)(K:XV->Option R):XV->Option R
 |.ptr _ _=>K (.d .b neg)
 |.c (.pointer none)=>K (.d .b (!neg))
 |_=>none
theorem bJm[YL]{neg:Bool}{K:XV->Option R}{r:R}(h:bPg neg K v=some r){KP:AV->Prop}(hK:∀v,K v=some r->KP v.er):match v.er with
  |.ptr _ _=>KP (.D (.B neg))
  |.D (.C (.pointer none))=>KP (.D (.B (!neg)))
  |_=>False:=by
 unfold bPg at h;split at h
 ·exact hK _ h
 ·exact hK _ h
 ·cases h
def aY2(k:IntKind):List XV->Option (List Int)
 |[]=>some []
 |.d (.i k') x::l=>match decide (k'=k),aY2 k l with
  |true,some r=>some (x::r)
  |_,_=>none
 |_=>none
theorem aTo[YL]{k:IntKind}:∀{l:List XV} {xs:List Int},aY2 k l=some xs->XV.fcL l=(xs.map (DV.I k)).map .D
 |[],xs,h=>by cases h;rfl
 |v::l,xs,h=>by
  unfold aY2 at h;split at h
  ·rename_i e;cases e
  ·rename_i k' x l' e;cases e;split at h
   ·rename_i r h1 h2;cases h;have h1:=of_decide_eq_true h1;subst h1;show[AV.D (.I _ x)]++XV.fcL l=_;rw[aTo h2];rfl
   ·cases h
  ·cases h
def xzB(ty:Option Ty)(zs:List AV)(ps:List (Nat×Nat×Operand)):Option (List XV):=match ty,ps with
 |some (.ar _ _),_::_=>zX zs
 |_,_=>aZf ty zs
theorem bOb[YL]{ps:List (Nat×Nat×Operand)}(h:xzB ty zs ps=some l):XV.fcL l=zs:=by
 unfold xzB at h;split at h
 ·exact bMc h
 ·exact aT2 h
def bQx(ty:Option Ty)(K:XV->Option R)(l:List XV):Option R:=match ty with
 |some (.ar n k)=>match aY2 k l with
  |some xs=>match au xs.length n with
   |true=>K (.d (.ar n k) (Arr.from xs n))
   |false=>K (.agg l)
  |none=>K (.agg l)
 |_=>K (.agg l)
theorem bL7[YL]{K:XV->Option R}{r:R}(h:bQx ty K l=some r){KP:AV->Prop}(hK:∀v,K v=some r->KP v.er):KP (.agg (XV.fcL l)):=by
 unfold bQx at h;split at h
 ·rename_i n k;split at h
  ·rename_i xs hx;split at h
   ·rename_i hb;have:=hK _ h;have e:(XV.d (.ar n k) (Arr.from xs n)).er=.agg (XV.fcL l):=by show AV.agg (((Arr.from xs n).l.map (DV.I k)).map .D)=_;rw[aTo hx,Arr.l_from (Nat.le_of_eq (η hb).symm),bk (Nat.le_of_eq (η hb))]
    rw[e]at this;exact this
   ·exact hK _ h
  ·exact hK _ h
 ·exact hK _ h
def xp(T:List Sig)(s:XS)(ty:Option Ty)(op:ROp)(K:XV->List XB->List Hd->Option R):Option R:=
 match op with
 |.mv x=>w1 s x fun v=>K v [] []
 |.pick c a b=>w1 s c fun vc=>w1 s a fun va=>w1 s b fun vb=>match vc with
  |.d .b x=>bIv x (fun v=>K v [] []) va vb
  |_=>none
 |.new zs=>match aZf ty zs with
  |some l=>K (.ptr (.O s.own.length) 0) [.box l] []
  |none=>none
 |.build zs ps=>match xzB ty zs ps with
  |some l=>aX4 s ps l fun l=>bQx ty (fun v=>K v [] []) l
  |none=>none
 |.bslice k ps=>match ps with
  |[]=>K (.fln ((elT ty).getD .u)) [] []
  |ps=>match elT ty with
   |some t=>match au t.n k with
    |true=>wL s ps fun vs=>xbs s t vs fun xs=>K (.slw (.O s.own.length) t ps.length) [.row true t xs] (xfz s (XV.hrL vs))
    |false=>none
   |none=>none
 |.bsF k ps=>none
 |.box x=>w1 s x fun v=>match vL v with
  |some cs=>K (.ptr (.O s.own.length) 0) [.box cs] []
  |none=>none
 |.load ag x=>w1 s x (aZn s ag fun a=>K a [] [])
 |.bin op x y=>w1 s x fun a=>w1 s y fun c=>bQp op (fun a=>K a [] []) a c
 |.eqs neg kds x y=>w1 s x fun a=>w1 s y fun c=>match a,c with
  |.agg xs,.agg ys=>match aTg kds xs ys with
   |some q=>K (.d .b (match neg with
    |true=>!q
    |false=>q)) [] []
   |none=>none
  |_,_=>none
 |.beq neg x y=>w1 s x fun a=>w1 s y fun c=>match a,c with
  |.d .b p,.d .b q=>K (.d .b (match neg with
   |true=>!(p==q)
   |false=>p==q)) [] []
  |_,_=>none
 |.un op x=>w1 s x (xun op fun a=>K a [] [])
 |.faddr off x=>w1 s x fun v=>match yP s v with
  |true=>aSf off (fun a=>K a [] []) v
  |false=>none
 |.field off ag x=>w1 s x fun v=>match v with
  |.agg cs=>aXn ag cs off fun a=>K a [] []
  |_=>none
 |.iaddr k x i=>w1 s x fun v=>w1 s i fun vi=>match yP s v with
  |true=>match vi with
   |.d (.i _) j=>aM9 k j (fun a=>K a [] []) v
   |_=>none
  |false=>none
 |.ixs x i=>w1 s x fun v=>w1 s i fun vi=>match v,vi with
  |.d .s t,.d (.i _) j=>aU t j fun c=>K (.d (.i .u8) c.toNat) [] []
  |_,_=>none
 |.sls x lo hi=>w1 s x fun v=>match v with
  |.d .s t=>rW s hi t.length fun h=>rW s lo 0 fun l=>gd? (l<=h) (gd? (h<=t.length) (K (.d .s ((t.drop l).take (h-l))) [] []))
  |_=>none
 |.sll k x lo hi mx=>w1 s x fun v=>match yP s v with
  |true=>aLu s k lo hi mx (fun a=>K a [] []) v
  |false=>none
 |.ext x i=>w1 s x fun v=>match v with
  |.tup vs=>match nth vs i with
   |some a=>K a [] []
   |none=>none
  |_=>none
 |.call f args=>w1 s f fun vf=>wL s args fun vs=>bHt T s vs K vf
 |.len str x=>w1 s x fun v=>match yP s v with
  |true=>match bHp str v with
   |some m=>K (.d (.i .i64) (m:Int)) [] []
   |none=>none
  |false=>none
 |.mm isMax x y=>w1 s x fun a=>w1 s y fun c=>match a,c with
  |.d (.i k) p,.d (.i k') q=>if k=k' then K (.d (.i k) (match isMax with
   |true=>max p q
   |false=>min p q)) [] []else none
  |_,_=>none
 |.mkf f caps=>wL s caps fun vs=>K (.clo f vs) [] []
 |.cvI k x=>w1 s x fun v=>match v with
  |.d (.i _) j=>K (.d (.i k) (k.wrap j)) [] []
  |_=>none
 |.cvS x=>w1 s x fun v=>qV s (.sl (.i .u8)) v fun xs=>K (.d .s (aO xs)) [] []
 |.cvB x=>w1 s x fun v=>match v with
  |.d .s t=>K (.d (.sl (.i .u8)) (aE t)) [] []
  |_=>none
 |.iaddrA m k x i=>w1 s x fun v=>w1 s i fun vi=>match yP s v with
  |true=>match vi with
   |.d (.i _) j=>bN1 m k j (fun a=>K a [] []) v
   |_=>none
  |false=>none
 |.idxA m k ag x i=>w1 s x fun v=>w1 s i fun vi=>match vi with
  |.d (.i _) j=>bQi m k ag j (fun a=>K a [] []) (unA v)
  |_=>none
 |.slsA m x lo hi=>w1 s x fun v=>bS7 s m lo hi (fun a=>K a [] []) v
 |.newR zs=>match ty with
  |some t=>bNd zs (fun v b=>K v [b] []) s.own.length t
  |none=>none
 |.boxR x=>w1 s x fun v=>bMo ty (fun v b=>K v [b] []) s.own.length v
 |.eqa neg k m x y=>w1 s x fun a=>w1 s y fun c=>bPd k m (fun q=>K (.d (.b) (match neg with
  |true=>!q
  |false=>q)) [] []) (unA a) (unA c)
 |.isnil neg x=>w1 s x fun v=>match yP s v with
  |true=>match bHp false v with
   |some m=>if? (decide (0<m)) (K (.d .b neg) [] []) (K .ab [] [])
   |none=>none
  |false=>none
 |.nilc x=>w1 s x fun v=>match yP s v with
  |true=>bAi (fun a=>K a [] []) v
  |false=>none
 |.isp neg x=>w1 s x fun v=>match yP s v with
  |true=>bPg neg (fun a=>K a [] []) v
  |false=>none
 |.eqg neg sh x y=>w1 s x fun a=>w1 s y fun c=>match a,c with
  |.agg xs,.agg ys=>match aTe sh xs ys with
   |some q=>K (.d .b (match neg with
    |true=>!q
    |false=>q)) [] []
   |none=>none
  |_,_=>none
 |.newB T=>K (.mref (.O s.own.length)) [.sb T false []] []
 |.mkm kd=>match ty with
  |some (.p K0 V)=>match kdB K0.kd kd with
   |true=>K (.mref (.O s.own.length)) [.mp false K0 V [] none none] []
   |false=>none
  |_=>none
 |.mkmW kd=>match ty with
  |some (.p K0 V)=>match kdB K0.kd kd with
   |true=>K (.mref (.O s.own.length)) [.mp true K0 V [] none none] []
   |false=>none
  |_=>none
 |.mget kd z _ ok x y=>w1 s x fun vx=>w1 s y fun vy=>bFl s kd z ok (fun a=>K a [] []) vx vy
 |.mlen x=>none
 |.ent x=>none
 |.loadD ag x=>w1 s x fun v=>match v with
  |.rop t x off=>bQo ag off (fun a=>K a [] []) t x
  |_=>none
 |.sllD k x lo hi mx=>w1 s x fun v=>match v with
  |.d (.sl t) xs=>aLu s k lo hi mx (fun a=>K a [] []) (.d (.sl t) xs)
  |.fl t xs=>aLu s k lo hi mx (fun a=>K a [] []) (.fl t xs)
  |_=>none
 |.iaddrD k x i=>w1 s x fun v=>w1 s i fun vi=>match vi,v with
  |.d (.i _) j,.d (.sl t) xs=>aM9 k j (fun a=>K a [] []) (.d (.sl t) xs)
  |.d (.i _) j,.fl t xs=>aM9 k j (fun a=>K a [] []) (.fl t xs)
  |_,_=>none
 |.mks k bytes zs x y=>w1 s x fun vx=>w1 s y fun vy=>match elT ty with
  |some t=>bPn t k bytes zs (fun v b=>K v [b] []) s.own.length vx vy
  |none=>none
 |.arrP m x=>w1 s x fun v=>match v with
  |.asl h off len=>match s.lk h with
   |some (.arr _ _ _ _)=>gd? (m<=len) (gd? (0<len) (K (.apt h off) [] []))
   |_=>none
  |.rsl h off l len=>match s.lk h with
   |some (.rb _ _ _)=>gd? (m<=len) (gd? (0<len) (K (.rpt h (off+l)) [] []))
   |_=>none
  |_=>none
 |.capK x=>w1 s x fun v=>match v with
  |.fl _ xs=>K (.d (.i .i64) (xs.length:Int)) [] []
  |.fln _=>K (.d (.i .i64) 0) [] []
  |_=>none
 |.appZ k bytes zs x y=>w1 s x fun vx=>w1 s y fun vy=>match vx,vy,elT ty with
  |.fln _,.d (.i _) j,some t=>match au t.n k,zeq (zs.map .D) ((t.ds t.z).map .D)with
   |true,true=>gd? (0<j) (gd? ((0+j.toNat)*bytes<=140737488355328) (K (.slw (.O s.own.length) t j.toNat) [.row true t (ω j.toNat t.z)] []))
   |_,_=>none
  |_,_,_=>none
 |.mkI t x=>w1 s x fun v=>match v with
  |.agg []=>K (.c (.iface t (.agg #[]))) [] []
  |_=>none
 |.isn neg x=>w1 s x fun v=>match v with
  |.c .nilIface=>K (.d .b (!neg)) [] []
  |.c (.iface _ _)=>K (.d .b neg) [] []
  |_=>none
 |.tas t x=>w1 s x fun v=>match v with
  |.c (.iface t' (.agg a))=>match au t' t,a.isEmpty with
   |true,true=>K (.tup [.agg [],.d .b true]) [] []
   |_,_=>none
  |_=>none
 |_=>none
theorem bCv{lk:bA}{KP:AV->Prop}(h:qB lk ag KP (.rop ds)):qB (fun _=>none) ag KP (.rop ds):=h
theorem bR0[YL]{T:List Sig}(hT:kJ P T){op:ROp}{K:XV->List XB->List Hd->Option R}{r:R}(h:xp T s ty op K=some r){KP:AV->List Blk->List Hd->Prop}
  (hK:∀v nbs fz,K v nbs fz=some r->KP v.er (nbs.map XB.er) fz):aW P s.er.lk s.er.nx s.er.ev op KP:=by
 unfold xp at h;split at h
 ·obtain⟨h,e⟩:=aM h;show KP (s.er.ev _) [] [];rw[e];exact hK _ _ _ h
 ·obtain⟨h,e1⟩:=aM h;obtain⟨h,e2⟩:=aM h;obtain⟨h,e3⟩:=aM h;split at h
  ·rename_i x hx;refine⟨x,by rw[e1,hx];rfl,?_⟩;rw[e2,e3];exact bHo (KP:=fun a=>KP a [] []) h fun v h=>hK _ _ _ h
  ·cases h
 ·split at h
  ·rename_i l hl;have:=hK _ _ _ h;show KP (.ptr (.O s.own.length) 0) [.box _] [];rw[<-aT2 hl];exact this
  ·cases h
 ·split at h
  ·rename_i l hl;have e:=bOb hl;exact aPf (KP:=fun a=>KP a [] []) (fun l h=>bL7 (KP:=fun a=>KP a [] []) h fun v h=>hK v [] [] h) (acc:=[]) e (by rw[e]) h
  ·cases h
 ·rename_i k ps;split at h
  ·exact hK _ _ _ h
  ·rename_i ps' hne;split at h
   ·rename_i t _;split at h
    ·rename_i hb;have hk:=η hb;obtain⟨vs,h,e⟩:=aNi h;obtain⟨xs,h,h1,h2⟩:=bFq hk e h;show if ps=[]then _ else _
     rw[if_neg hne];refine⟨_,h1,?_⟩;rw[h2,sW];have:=hK _ _ _ h;have e2:([XB.row true t xs].map XB.er)=[Blk.row true k (xs.map t.ds)]:=by show[Blk.row true t.n (xs.map t.ds)]=_;rw[hk]
     have e3:(XV.slw (.O s.own.length) t ps.length).er=.sl (.O s.own.length) k 0 ps.length:=by show AV.sl (.O s.own.length) t.n 0 ps.length=_;rw[hk]
     rw[e2,e3]at this;exact this
    ·cases h
   ·cases h
 ·cases h
 ·obtain⟨h,e1⟩:=aM h;split at h
  ·rename_i cs hcs;exact⟨_,by rw[e1];exact pE hcs,hK _ _ _ h⟩
  ·cases h
 ·obtain⟨h,e1⟩:=aM h;show qB s.er.lk _ (fun a=>KP a [] []) (s.er.ev _);rw[e1];exact aKt h fun v h=>hK _ _ _ h
 ·obtain⟨h,e1⟩:=aM h;obtain⟨h,e2⟩:=aM h;show bCw _ (fun a=>KP a [] []) (s.er.ev _) (s.er.ev _);rw[e1,e2];exact bJy h fun v h=>hK _ _ _ h
 ·obtain⟨h,e1⟩:=aM h;obtain⟨h,e2⟩:=aM h;split at h
  ·rename_i xs ys hx hy;split at h
   ·rename_i q hq;refine⟨XV.fcL xs,XV.fcL ys,q,by rw[e1,hx];rfl,by rw[e2,hy];rfl,aVn hq,?_⟩;have:=hK _ _ _ h;split at this<;>exact this
   ·cases h
  ·cases h
 ·obtain⟨h,e1⟩:=aM h;obtain⟨h,e2⟩:=aM h;split at h
  ·rename_i p q hx hy;refine⟨p,q,by rw[e1,hx];rfl,by rw[e2,hy];rfl,?_⟩;have:=hK _ _ _ h;split at this<;>exact this
  ·cases h
 ·obtain⟨h,e1⟩:=aM h;show aun _ (fun a=>KP a [] []) (s.er.ev _);rw[e1];exact bO3 h fun v h=>hK _ _ _ h
 ·obtain⟨h,e1⟩:=aM h;split at h
  ·rename_i hl;show AV.live s.er.lk (s.er.ev _)=true/\_;rw[e1];exact⟨jC hl,aPn h (KP:=fun a=>KP a [] []) fun v h=>hK _ _ _ h⟩
  ·cases h
 ·obtain⟨h,e1⟩:=aM h;split at h
  ·rename_i cs hx;refine⟨XV.fcL cs,by rw[e1,hx];rfl,?_⟩;obtain⟨v,h1,h2⟩:=aE4 h;split
   ·exact⟨_,h2,hK _ _ _ h1⟩
   ·exact⟨h2.1,by rw[<-h2.2];exact hK _ _ _ h1⟩
  ·cases h
 ·obtain⟨h,e1⟩:=aM h;obtain⟨h,e2⟩:=aM h;split at h
  ·rename_i hl;split at h
   ·rename_i k j hj;obtain⟨h1,h2⟩:=aHc h (KP:=fun a=>KP a [] []) fun v h=>hK _ _ _ h;show AV.live s.er.lk (s.er.ev _)=true/\_;rw[e1];exact⟨jC hl,k,j,by rw[e2,hj];rfl,h1,h2⟩
   ·cases h
  ·cases h
 ·obtain⟨h,e1⟩:=aM h;obtain⟨h,e2⟩:=aM h;split at h
  ·rename_i t k j hx hj;obtain⟨c,h0,hc,h⟩:=aUb h;exact⟨t,k,j,c,by rw[e1,hx];rfl,by rw[e2,hj];rfl,h0,hc,hK _ _ _ h⟩
  ·cases h
 ·obtain⟨h,e1⟩:=aM h;split at h
  ·rename_i t hx;refine⟨t,by rw[e1,hx];rfl,dB h fun hh h=>dB h fun l h=>?_⟩;obtain⟨h1,h⟩:=aX h;obtain⟨h2,h⟩:=aX h;exact⟨h1,h2,hK _ _ _ h⟩
  ·cases h
 ·obtain⟨h,e1⟩:=aM h;split at h
  ·rename_i hl;show AV.live s.er.lk (s.er.ev _)=true/\tQ _ s.er.ev _ _ _ (fun a=>KP a [] []) (s.er.ev _);rw[e1];exact⟨jC hl,aGq h fun v h=>hK _ _ _ h⟩
  ·cases h
 ·obtain⟨h,e1⟩:=aM h;split at h
  ·rename_i vs hx;split at h
   ·rename_i a ha;exact⟨XV.erL vs,_,by rw[e1,hx];rfl,bH1 ha,hK _ _ _ h⟩
   ·cases h
  ·cases h
 ·obtain⟨h,e1⟩:=aM h;obtain⟨vs,h,e2⟩:=aNi h;obtain⟨fn,caps,ks,z,rr,nbs,f1,fz,f2,f3⟩:=bF1 hT h hK;exact⟨fn,caps,ks,z,rr,nbs,by rw[e1];exact f1,fz,by rw[e2];exact f2,by rw[e2];exact f3⟩
 ·obtain⟨h,e1⟩:=aM h;split at h
  ·rename_i hl;split at h
   ·rename_i m hm;show AV.live s.er.lk (s.er.ev _)=true/\∃m,(s.er.ev _).len? _=some m/\_;rw[e1];exact⟨jC hl,m,aRr hm,hK _ _ _ h⟩
   ·cases h
  ·cases h
 ·obtain⟨h,e1⟩:=aM h;obtain⟨h,e2⟩:=aM h;split at h
  ·rename_i k p k' q hx hy;rw[ε]at h;obtain⟨rfl,h⟩:=h;refine⟨k,p,q,by rw[e1,hx];rfl,by rw[e2,hy];rfl,?_⟩;have:=hK _ _ _ h;split at this<;>exact this
  ·cases h
 ·obtain⟨vs,h,e⟩:=aNi h;show KP (.clo _ (_:List AV)) [] [];rw[e];exact hK _ _ _ h
 ·obtain⟨h,e1⟩:=aM h;split at h
  ·rename_i k j hx;exact⟨k,j,by rw[e1,hx];rfl,hK _ _ _ h⟩
  ·cases h
 ·obtain⟨h,e1⟩:=aM h;obtain⟨xs,h,h1,h2⟩:=aHp h;refine⟨_,aO xs,by rw[e1];exact h1,?_,by rw[e1];exact h2,hK _ _ _ h⟩;exact aH2
 ·obtain⟨h,e1⟩:=aM h;split at h
  ·rename_i t hx;refine⟨t,by rw[e1,hx];rfl,?_⟩;have:=hK _ _ _ h;simp only[XV.er,cH,aE,ij]at this;exact this
  ·cases h
 ·obtain⟨h,e1⟩:=aM h;obtain⟨h,e2⟩:=aM h;split at h
  ·rename_i hl;split at h
   ·rename_i k j hj;obtain⟨h1,h2,h3⟩:=bKe h (KP:=fun a=>KP a [] []) fun v h=>hK _ _ _ h;show AV.live s.er.lk (s.er.ev _)=true/\_;rw[e1];exact⟨jC hl,k,j,by rw[e2,hj];rfl,h1,h2,h3⟩
   ·cases h
  ·cases h
 ·obtain⟨h,e1⟩:=aM h;obtain⟨h,e2⟩:=aM h;split at h
  ·rename_i k j hj;obtain⟨cs,h1,h2,h3,h4⟩:=bJo h (KP:=fun a=>KP a [] []) fun v h=>hK _ _ _ h;exact⟨cs,k,j,by rw[e1,<-aSk,h1],by rw[e2,hj];rfl,h2,h3,h4⟩
  ·cases h
 ·obtain⟨h,e1⟩:=aM h;unfold bS7 at h;split at h
  ·rename_i hd ix hx;split at h
   ·rename_i mt n kk y hl;split at h
    ·rename_i hb;have hb:=ez hb;refine⟨hd,ix,mt,y.l.map (arD kk),by rw[e1,hx];rfl,by rw[aQ,hl];rfl,by rw[κ,y.len];exact hb,?_⟩;refine dB h fun hh h=>dB h fun l h=>?_;obtain⟨h1,h⟩:=aX h;obtain⟨h2,h⟩:=aX h;have:=hK _ _ _ h;rw[vS,ct]at this;exact⟨h1,h2,this⟩
    ·cases h
   ·cases h
  ·rename_i hd off hx;split at h
   ·rename_i mt t x hl;split at h
    ·rename_i a ha;split at h
     ·rename_i hb;have hb:=η hb;subst hb;obtain⟨c1,_⟩:=aJs (l:=0) (len:=a.n) ha (by omega);refine⟨hd,off,mt,sgD (t.ds x),by rw[e1,hx];rfl,by rw[aQ,hl];rfl,c1,?_⟩;refine dB h fun hh h=>dB h fun l h=>?_;obtain⟨h1,h⟩:=aX h;obtain⟨h2,h⟩:=aX h;exact⟨h1,h2,hK _ _ _ h⟩
     ·cases h
    ·cases h
   ·cases h
  ·cases h
 ·split at h
  ·rename_i t;unfold bNd at h;split at h
   ·rename_i n k;split at h
    ·rename_i hz;refine⟨ω n (DV.I k 0),by rw[bNc hz];exact aGa _,?_⟩;have:=hK _ _ _ h;have e:(ω n (DV.I k 0)).map (fun d=>[d])=(Arr.zero n).l.map (arD k):=by show _=(ω n (0:Int)).map (arD k);rw[jj,jj];rfl
     rw[e];exact this
    ·cases h
   ·split at h
    ·rename_i hz;exact⟨_,by rw[aCu hz];exact aGa _,hK _ _ _ h⟩
    ·cases h
  ·cases h
 ·obtain⟨h,e1⟩:=aM h;unfold bMo at h;split at h
  ·rename_i n k y hx;refine⟨(y.l.map (DV.I k)).map .D,y.l.map (DV.I k),?_,aGa _,?_⟩
   ·rw[e1,hx];show(if AV.allOne (((Ty.ar n k).ds y).map AV.D)=true then some (((Ty.ar n k).ds y).map AV.D)else none)=some (((Ty.ar n k).ds y).map AV.D);rw[if_pos (vM _ _)]
   have:=hK _ _ _ h;have e:(y.l.map (DV.I k)).map (fun d=>[d])=y.l.map (arD k):=by rw[ij];rfl
   rw[e];exact this
  ·rename_i cs hx;split at h
   ·rename_i t _;split at h
    ·rename_i x hp;obtain⟨l1,e2,e3⟩:=qY hp;rw[bb]at e2;subst e2;refine⟨(t.ds x).map .D,t.ds x,?_,aGa _,hK _ _ _ h⟩;rw[e1,hx];show(if AV.allOne (XV.fcL cs)=true then some (XV.fcL cs)else none)=_;rw[e3,if_pos (vM _ _)]
    ·cases h
   ·cases h
  ·cases h
 ·obtain⟨h,e1⟩:=aM h;obtain⟨h,e2⟩:=aM h;obtain⟨xs,ys,p,q,h1,h2,h3,h4,h5,h6,h⟩:=bLi h;refine⟨xs,ys,p,q,by rw[e1,<-aSk,h1],by rw[e2,<-aSk,h2],h3,h4,h5,h6,?_⟩;have:=hK _ _ _ h;split at this<;>exact this
 ·obtain⟨h,e1⟩:=aM h;split at h
  ·rename_i hl;split at h
   ·rename_i m hm;show AV.live s.er.lk (s.er.ev _)=true/\∃m,(s.er.ev _).len? false=some m/\_;rw[e1];refine⟨jC hl,m,aRr hm,?_⟩;rcases aQz h with⟨h0,h⟩|⟨h0,h⟩
    ·rw[if_neg (by have:=of_decide_eq_true h0;omega)];exact hK _ _ _ h
    ·rw[if_pos (by have:=of_decide_eq_false h0;omega)];exact hK _ _ _ h
   ·cases h
  ·cases h
 ·obtain⟨h,e1⟩:=aM h;split at h
  ·rename_i hl;show AV.live s.er.lk (s.er.ev _)=true/\_;rw[e1];exact⟨jC hl,aUi h (KP:=fun a=>KP a [] []) fun v h=>hK _ _ _ h⟩
  ·cases h
 ·obtain⟨h,e1⟩:=aM h;split at h
  ·rename_i hl;show AV.live s.er.lk (s.er.ev _)=true/\_;rw[e1];exact⟨jC hl,bJm h (KP:=fun a=>KP a [] []) fun v h=>hK _ _ _ h⟩
  ·cases h
 ·obtain⟨h,e1⟩:=aM h;obtain⟨h,e2⟩:=aM h;split at h
  ·rename_i xs ys hx hy;split at h
   ·rename_i q hq;refine⟨XV.fcL xs,XV.fcL ys,q,by rw[e1,hx];rfl,by rw[e2,hy];rfl,aQp hq,?_⟩;have:=hK _ _ _ h;split at this<;>exact this
   ·cases h
  ·cases h
 ·exact hK _ _ _ h
 ·split at h
  ·rename_i K0 V;split at h
   ·rename_i hkd;have:=hK _ _ _ h;rw[<-aQ5 hkd];exact this
   ·cases h
  ·cases h
 ·split at h
  ·rename_i K0 V;split at h
   ·rename_i hkd;have:=hK _ _ _ h;rw[<-aQ5 hkd];exact this
   ·cases h
  ·cases h
 ·obtain⟨h,e1⟩:=aM h;obtain⟨h,e2⟩:=aM h;have:=bEd h (KP:=fun a=>KP a [] []) fun v h=>hK _ _ _ h;rw[<-e1,<-e2]at this;exact this
 ·cases h
 ·cases h
 ·obtain⟨h,e1⟩:=aM h;split at h
  ·rename_i t x off hx;show qB (fun _=>none) _ (fun a=>KP a [] []) (s.er.ev _);rw[e1,hx];exact bCv (aKt (s:=s) (a:=.rop t x off) h (KP:=fun a=>KP a [] []) fun v h=>hK _ _ _ h)
  ·cases h
 ·obtain⟨h,e1⟩:=aM h;show(match s.er.ev _ with
   |.D (.L es)=>tQ _ s.er.ev _ _ _ (fun a=>KP a [] []) (.D (.L es))
   |.fl es=>tQ _ s.er.ev _ _ _ (fun a=>KP a [] []) (.fl es)
   |_=>False)
  rw[e1];split at h
  ·rename_i t xs hx;rw[hx];exact aGq (v:=.d (.sl t) xs) h fun v h=>hK _ _ _ h
  ·rename_i t xs hx;rw[hx];exact aGq (v:=.fl t xs) h fun v h=>hK _ _ _ h
  ·cases h
 ·obtain⟨h,e1⟩:=aM h;obtain⟨h,e2⟩:=aM h;split at h
  ·rename_i k j t xs hj hx;obtain⟨h1,h2⟩:=aHc h (KP:=fun a=>KP a [] []) fun v h=>hK _ _ _ h;exact⟨k,j,by rw[e2,hj];rfl,h1,by rw[e1,hx];exact h2⟩
  ·rename_i k j t xs hj hx;obtain⟨h1,h2⟩:=aHc h (KP:=fun a=>KP a [] []) fun v h=>hK _ _ _ h;exact⟨k,j,by rw[e2,hj];rfl,h1,by rw[e1,hx];exact h2⟩
  ·cases h
 ·obtain⟨h,e1⟩:=aM h;obtain⟨h,e2⟩:=aM h;split at h
  ·rename_i t _;obtain⟨k1,k2,l,c,v,b,h1,h2,h3,h4,h5,h6,h7,h8,h9⟩:=bLh h;refine⟨k1,k2,l,c,by rw[e1,h1],by rw[e2,h2],h3,h4,h5,h6,?_⟩;have:=hK _ _ _ h7;rw[h8]at this;rw[<-h9];exact this
  ·cases h
 ·obtain⟨h,e1⟩:=aM h;split at h
  ·rename_i hd off len hv;split at h
   ·rename_i mt n k x hl;obtain⟨h1,h⟩:=aX h;obtain⟨h2,h⟩:=aX h;exact⟨hd,off,len,mt,x.l.map (arD k),by rw[e1,hv];rfl,by rw[aQ,hl];rfl,h1,h2,hK _ _ _ h⟩
   ·cases h
  ·rename_i hd off l len hv;split at h
   ·rename_i mt t x hl;obtain⟨h1,h⟩:=aX h;obtain⟨h2,h⟩:=aX h;exact⟨hd,off+l,len,mt,sgD (t.ds x),by rw[e1,hv];rfl,by rw[aQ,hl];rfl,h1,h2,hK _ _ _ h⟩
   ·cases h
  ·cases h
 ·obtain⟨h,e1⟩:=aM h;split at h
  ·rename_i t xs hv;refine⟨by rw[e1,hv];rfl,xs.length,.inr ⟨xs.map t.ds,by rw[e1,hv];rfl,(κ _).symm⟩,hK _ _ _ h⟩
  ·rename_i t hv;refine⟨by rw[e1,hv];rfl,0,.inr ⟨[],by rw[e1,hv];rfl,rfl⟩,hK _ _ _ h⟩
  ·cases h
 ·obtain⟨h,e1⟩:=aM h;obtain⟨h,e2⟩:=aM h;split at h
  ·rename_i t0 kd j t hv hw ht;split at h
   ·rename_i hb hz;have hb:=η hb;obtain⟨h1,h⟩:=aX h;obtain⟨h2,h⟩:=aX h;have h1:(0:Int)<j:=h1;have hz:=nU (aCu hz);have hq:=hK _ _ _ h;subst hb hz;have h1':(0:Int)<=j:=Int.le_of_lt h1;have h1'':0<0+Int.toNat j:=by omega
    refine⟨by rw[e1,hv];rfl,0,0,kd,j,[],.inr ⟨by rw[e1,hv];rfl,rfl,rfl,rfl⟩,by rw[e2,hw];rfl,h1',τ _,fun e he=>(by simp at he),h1'',h2,?_⟩;have e3:(XV.slw (.O s.own.length) t (Int.toNat j)).er=.sl (.O s.own.length) t.n 0 (0+Int.toNat j):=by show AV.sl _ t.n 0 _=_;rw[bg]
    have e4:([XB.row true t (ω (Int.toNat j) t.z)].map XB.er:List Blk)=[.row true t.n (([]:List (List DV)).take 0++ω (Int.toNat j) (t.ds t.z))]:=by show[Blk.row true t.n ((ω _ t.z).map t.ds)]=_;rw[jj];rfl
    rw[e3,e4]at hq;exact hq
   ·cases h
  ·cases h
 ·obtain⟨h,e1⟩:=aM h;split at h
  ·rename_i hv;exact⟨by rw[e1,hv];rfl,hK _ _ _ h⟩
  ·cases h
 ·obtain⟨h,e1⟩:=aM h;split at h
  ·rename_i hv;exact⟨_,by rw[e1,hv];rfl,hK _ _ _ h⟩
  ·rename_i hv;exact⟨_,by rw[e1,hv];rfl,hK _ _ _ h⟩
  ·cases h
 ·obtain⟨h,e1⟩:=aM h;split at h
  ·rename_i t' a hv;split at h
   ·rename_i ht ha;refine⟨?_,hK _ _ _ h⟩;rw[e1,hv,η ht,Array.isEmpty_iff.1 ha];rfl
   ·cases h
  ·cases h
 ·cases h
end
section
variable{R:Type}
def bL2(s:XS)(sz:Nat)(v:XV)(K:XS->Option R)(h:Hd)(off:Nat):Option R:=match s.lk h with
 |some (.box cs)=>match vL v with
  |some ys=>match au (szL ys) sz with
   |true=>match aRe cs off ys sz with
    |some cs'=>K (s.setBlk h (some (.box cs')))
    |none=>none
   |false=>none
  |none=>none
 |_=>none
def bG3(k:IntKind):XV->Option Int
 |.d t c=>t.cst (.i k) c
 |_=>none
theorem aS1[YL]{k:IntKind}{c:Int}(h:bG3 k v=some c):v.er=.D (.I k c):=by
 unfold bG3 at h;split at h
 ·obtain⟨e,rfl⟩:=Ty.cst_ok h;subst e;rfl
 ·cases h
theorem aQj{l:List α}{i:Nat}{v:α}(h:i<l.length):l.take i++[v]++l.drop (i+1)=l.set i v:=by rw[List.set_eq_take_append_cons_drop,if_pos h,υ];rfl
theorem bHw{l:List α}{j:Nat}{v:α}(h:off+n<=l.length)(hj:j<n):l.take off++((l.drop off).take n).set j v++l.drop (off+n)=l.set (off+j) v:=by
 apply jc;intro i;rw[List.getElem?_set];have hl:(((l.drop off).take n).set j v).length=n:=by rw[List.length_set,bn,aw];omega
 have ht:(l.take off).length=off:=by rw[bn];omega
 rcases dj i off with h1|h1
 ·rw[υ,bp (by omega),c6 h1,if_neg (by omega)]
 ·rcases dj i (off+n)with h2|h2
  ·rw[bp (by rw[ι];omega),bx (by omega),ht,List.getElem?_set];by_cases e:off+j=i
   ·subst e;rw[if_pos (by omega),if_pos rfl,if_pos (by rw[bn,aw];omega),if_pos (by omega)]
   ·rw[if_neg (by omega),if_neg e,c6 (by omega),fq];congr 1;omega
  ·rw[bx (by rw[ι];omega),ι,ht,hl,fq,if_neg (by omega)];congr 1;omega
def bAe(cs:List XV)(off j:Nat)(a:ArL)(c:Int):Option (List XV):=aRe cs off [.d (.ar a.n a.k) (a.x.set j c)] a.n
theorem aLc[YL]{cs:List XV}{j:Nat}{a:ArL}{c:Int}(ha:aCp cs off=some a)(hj:j<a.n)(h:bAe cs off j a c=some l):off+j<(XV.fcL cs).length/\XV.fcL l=(XV.fcL cs).set (off+j) (.D (.I a.k c)):=by
 obtain⟨h1,h2⟩:=aFe ha;obtain⟨_,h3⟩:=xD h;refine⟨by omega,?_⟩;rw[h3];have e:XV.fcL [XV.d (.ar a.n a.k) (a.x.set j c)]=(((XV.fcL cs).drop off).take a.n).set j (.D (.I a.k c)):=by rw[h1];show(((a.x.set j c).l.map (DV.I a.k)).map AV.D)++[]=_;rw[bb,Arr.l_set,jz,jz]
 rw[e];exact bHw h2 hj
def aXl(s:XS)(sz:Nat)(v:XV)(K:XS->Option R):XV->Option R
 |.ptr h off=>bL2 s sz v K h off
 |.pa h off j=>match s.lk h with
  |some (.box cs)=>match aCp cs off,sz with
   |some a,1=>match bG3 a.k v with
    |some c=>gd? (j<a.n) (match bAe cs off j a c with
     |some cs'=>K (s.setBlk h (some (.box cs')))
     |none=>none)
    |none=>none
   |none,sz=>bL2 s sz v K h (off+j)
   |_,_=>none
  |_=>none
 |.epa h t ix off j=>match s.lk h with
  |some (.row true t' xs)=>match t'.beq t,sz with
   |true,1=>gn? xs ix fun e=>match aCp (lvs t' e) off with
    |some a=>match bG3 a.k v with
     |some c=>gd? (j<a.n) (match bAe (lvs t' e) off j a c with
      |some l=>match pkD t' l with
       |some (y,[])=>K (s.setBlk h (some (.row true t' (xs.set ix y))))
       |_=>none
      |none=>none)
     |none=>none
    |none=>none
   |_,_=>none
  |_=>none
 |.ept h t ix off=>match s.lk h with
  |some (.row true t' xs)=>match t'.beq t,vL v with
   |true,some ys=>match au (szL ys) sz,(au sz 1|| !(au t'.n 1))with
    |true,true=>gn? xs ix fun e=>match aRe (lvs t' e) off ys sz with
     |some l=>match pkD t' l with
      |some (y,[])=>K (s.setBlk h (some (.row true t' (xs.set ix y))))
      |_=>none
     |none=>none
    |_,_=>none
   |_,_=>none
  |_=>none
 |.apt h ix=>match s.lk h with
  |some (.arr true n k x)=>match sz with
   |1=>match v with
    |.d t c=>match t.cst (.i k) c with
     |some c=>gd? (ix<n) (K (s.setBlk h (some (.arr true n k (x.set ix c)))))
     |none=>none
    |_=>none
   |sz=>match ix,v with
    |0,.d t y=>match t.cst (.ar n k) y,au sz n with
     |some y,true=>K (s.setBlk h (some (.arr true n k y)))
     |_,_=>none
    |0,.agg [.d t y]=>match t.cst (.ar n k) y,au sz n with
     |some y,true=>K (s.setBlk h (some (.arr true n k y)))
     |_,_=>none
    |ix,v=>match unA v with
     |.d t y=>match t.cst (.ar sz k) y with
      |some y=>gd? (ix+sz<=n) (K (s.setBlk h (some (.arr true n k (x.put ix y.l)))))
      |none=>none
     |_=>none
  |_=>none
 |.rpt h off=>match s.lk h with
  |some (.rb true t x)=>match vL v with
   |some ys=>match au (szL ys) sz&&m9 1 sz with
    |true=>match aRe (lvs t x) off ys sz with
     |some l=>match pkD t l with
      |some (y,[])=>K (s.setBlk h (some (.rb true t y)))
      |_=>none
     |none=>none
    |false=>none
   |none=>none
  |_=>none
 |.rpa h off j=>match s.lk h with
  |some (.rb true t x)=>match aCp (lvs t x) off,sz with
   |some a,1=>match bG3 a.k v with
    |some c=>gd? (j<a.n) (match bAe (lvs t x) off j a c with
     |some l=>match pkD t l with
      |some (y,[])=>K (s.setBlk h (some (.rb true t y)))
      |_=>none
     |none=>none)
    |none=>none
   |_,_=>none
  |_=>none
 |_=>none
theorem bTd[YL]{x y:t.T}{vs:List DV}{a:AV}(hl:s.lk hd=some (.rb true t x))(hc:a.cells?=some (vs.map .D))(hn:vs.length=sz)(hle:off+sz<=(t.ds x).length)
  (hlt:off<(t.ds x).length) (hds:t.ds y=(t.ds x).take off++vs++(t.ds x).drop (off+sz)) (hK:KP (s.setBlk hd (some (.rb true t y))).er):qZ s.er sz a KP (.eptr hd 1 off 0):=by
 rw[bR hl]at hK;have hK:KP (s.er.setBlk hd (some (.row true 1 (sgD (t.ds y))))):=hK;rw[hds]at hK;by_cases h1:sz=1
 ·subst h1;obtain⟨d,rfl⟩:=List.length_eq_one_iff.1 hn;refine .inl ⟨.inr rfl,sgD (t.ds x),[(t.ds x)[off]],_,[d],by rw[aQ,hl];rfl,aJ4 (ν hlt),hc,rfl,rfl,τ _,?_⟩;have e:(sgD (t.ds x)).set off ([(t.ds x)[off]].take 0++[d]++[(t.ds x)[off]].drop (0+1))=sgD ((t.ds x).take off++[d]++(t.ds x).drop (off+1)):=by rw[aQj hlt];unfold sgD;rw[jz];rfl
  rw[e];exact hK
 ·refine .inr ⟨rfl,rfl,h1,sgD (t.ds x),_,vs,by rw[aQ,hl];rfl,hc,aAu _,hn,by rw[aA0];exact hle,?_⟩;have e:(sgD (t.ds x)).take off++(vs.map fun d=>[d])++(sgD (t.ds x)).drop (off+sz)=sgD ((t.ds x).take off++vs++(t.ds x).drop (off+sz)):=by unfold sgD;rw[bq,bq,bu,cn]
  rw[e];exact hK
theorem aC6{k:IntKind}{y:Arr n}:(AV.agg (((Ty.ar n k).ds y).map .D)).cells?=some (((Ty.ar n k).ds y).map .D):=by show(if AV.allOne (((Ty.ar n k).ds y).map .D)=true then some (((Ty.ar n k).ds y).map AV.D)else none)=_;rw[if_pos (vM _ _)]
theorem aM0[YL]{k:IntKind}{x y:Arr n}(hl:s.lk hd=some (.arr true n k x))(h1:sz≠1)(hb:sz=n)(hc:(s.er.ev xo).cells?=some (((Ty.ar n k).ds y).map .D))
  (hK:KP (s.setBlk hd (some (.arr true n k y))).er):qZ s.er sz (s.er.ev xo) KP (.eptr hd 1 0 0):=by
 have e1:=x.len;have e2:=y.len;refine .inr ⟨rfl,rfl,h1,x.l.map (arD k),_,(Ty.ar n k).ds y,by rw[aQ,hl];rfl,hc,aAu _,by rw[Ty.ds_len];exact hb.symm,by rw[κ];omega,?_⟩;have e:(x.l.map (arD k)).take 0++(((Ty.ar n k).ds y).map fun d=>[d])++(x.l.map (arD k)).drop (0+sz)=y.l.map (arD k):=by rw[List.take_zero,cz,ff (by rw[κ];omega),bb];show((y.l.map (DV.I k)).map fun d=>[d])=_;rw[ij];rfl
 rw[e];rw[bR hl]at hK;exact hK
theorem bAm[YL]{K:XS->Option R}{r:R}(hv:s.er.ev xo=v.er)(h:bL2 s sz v K hd off=some r)(hK:∀s',K s'=some r->KP s'.er):qZ s.er sz (s.er.ev xo) KP (.ptr hd off):=by
 unfold bL2 at h;split at h
 ·rename_i cs hl;split at h
  ·rename_i ys hy;split at h
   ·rename_i hb;split at h
    ·rename_i cs' hu;obtain⟨h1,h2⟩:=xD hu;have:=hK _ h;rw[bR hl]at this;refine⟨XV.fcL cs,XV.fcL ys,by rw[aQ,hl];rfl,by rw[hv];exact pE hy,by rw[aHe];exact η hb,h1,?_⟩;rw[<-h2];exact this
    ·cases h
   ·cases h
  ·cases h
 ·cases h
theorem bDi[YL]{K:XS->Option R}{r:R}(hv:s.er.ev xo=v.er)(h:aXl s sz v K a=some r)(hK:∀s',K s'=some r->KP s'.er):qZ s.er sz (s.er.ev xo) KP a.er:=by
 unfold aXl at h;split at h
 ·exact bAm hv h hK
 ·rename_i hd off j;split at h
  ·rename_i cs hl;split at h
   ·rename_i a ha;split at h
    ·rename_i c hc;obtain⟨hj,h⟩:=aX h;split at h
     ·rename_i cs' hs;obtain⟨h1,h2⟩:=aLc ha hj hs;have:=hK _ h;rw[bR hl]at this;have e:s.er.ev xo=.D (.I a.k c):=by rw[hv];exact aS1 hc
      refine⟨XV.fcL cs,[.D (.I a.k c)],by rw[aQ,hl];rfl,by rw[e];rfl,rfl,by omega,?_⟩;rw[aQj h1,<-h2];exact this
     ·cases h
    ·cases h
   ·exact bAm hv h hK
   ·cases h
  ·cases h
 ·rename_i hd t ix off j;split at h
  ·rename_i t' xs hl;split at h
   ·rename_i hb;obtain rfl:=Ty.eq_of hb
    replace h:=aV4 h
    obtain⟨e,he,h⟩:=h;split at h
    ·rename_i a ha;split at h
     ·rename_i c hc;obtain⟨hj,h⟩:=aX h;split at h
      ·rename_i l hs;split at h
       ·rename_i y hp;obtain⟨h1,h2⟩:=aLc ha hj hs;obtain⟨l1,e1,e2⟩:=qY hp;rw[bb]at e1;subst e1;rw[dC]at h1 h2;rw[κ]at h1;have hds:t'.ds y=(t'.ds e).set (off+j) (.I a.k c):=by
         have h3:(t'.ds y).map AV.D=((t'.ds e).set (off+j) (.I a.k c)).map AV.D:=by rw[<-e2,h2,jz]
         exact nU h3
        have ev:s.er.ev xo=.D (.I a.k c):=by rw[hv];exact aS1 hc
        refine .inl ⟨.inr rfl,xs.map t'.ds,t'.ds e,[.D (.I a.k c)],[.I a.k c],by rw[aQ,hl];rfl,by rw[ba,he];rfl,by rw[ev];rfl,rfl,rfl,by omega,?_⟩;have:=hK _ h;rw[bR hl]at this;rw[aQj h1,<-hds];have e3:(xs.map t'.ds).set ix (t'.ds y)=(xs.set ix y).map t'.ds:=by rw[jz]
        rw[e3];exact this
       ·cases h
      ·cases h
     ·cases h
    ·cases h
   ·cases h
  ·cases h
 ·rename_i hd t ix off;split at h
  ·rename_i t' xs hl;split at h
   ·rename_i ys hb hy;obtain rfl:=Ty.eq_of hb;split at h
    ·rename_i hb1 hb2
     replace h:=aV4 h
     obtain⟨e,he,h⟩:=h;split at h
     ·rename_i l hu;split at h
      ·rename_i y hp;obtain⟨h1,h2⟩:=xD hu;obtain⟨l1,e1,e2⟩:=qY hp;rw[bb]at e1;subst e1;rw[dC]at h1 h2;rw[κ]at h1;have hsz:=η hb1;have hlen:(XV.fcL ys).length=sz:=by rw[aHe];exact hsz
       have hys:XV.fcL ys=(((t'.ds y).drop off).take sz).map .D:=by
        have:(((XV.fcL l).drop off).take sz)=XV.fcL ys:=by rw[h2,υ,ee (by rw[bn,κ];omega),ff (by rw[bn,κ];omega),cz,gf (by omega),bk (by omega)]
        rw[<-this,e2,bu,cn]
       have hds:t'.ds y=(t'.ds e).take off++((t'.ds y).drop off).take sz++(t'.ds e).drop (off+sz):=by
        have h3:(t'.ds y).map AV.D=((t'.ds e).take off++((t'.ds y).drop off).take sz++(t'.ds e).drop (off+sz)).map AV.D:=by rw[bq,bq,<-hys,bu,cn,<-h2,e2]
        have:=congrArg AV.data h3;rwa[aAu,aAu,Option.some.injEq]at this
       refine .inl ⟨?_,xs.map t'.ds,t'.ds e,XV.fcL ys,((t'.ds y).drop off).take sz,by rw[aQ,hl];rfl,by rw[ba,he];rfl,by rw[hv];exact pE hy,by rw[hys];exact aAu _,?_,h1,?_⟩
       ·rw[ig]at hb2;rcases hb2 with hb2|hb2
        ·exact .inr (η hb2)
        ·exact .inl fun e=>by rw[e]at hb2;cases hb2
       ·have:=congrArg List.length hys;rw[κ,hlen]at this;exact this.symm
       ·have:=hK _ h;rw[bR hl]at this;rw[<-hds];have e3:(xs.map t'.ds).set ix (t'.ds y)=(xs.set ix y).map t'.ds:=by rw[jz]
        rw[e3];exact this
      ·cases h
     ·cases h
    ·cases h
   ·cases h
  ·cases h
 ·rename_i hd ix;split at h
  ·rename_i n k x hl;split at h
   ·split at h
    ·rename_i t c;split at h
     ·rename_i c' hc;obtain⟨e,rfl⟩:=Ty.cst_ok hc;subst e;obtain⟨h1,h⟩:=aX h;have e1:=x.len;refine .inl ⟨.inr rfl,x.l.map (arD k),arD k (x.l[ix]'(by omega)),[.D (.I k c)],[.I k c],by rw[aQ,hl];rfl,by rw[ba,ν (by omega)];rfl,by rw[hv];rfl,rfl,rfl,τ _,?_⟩;have:=hK _ h;rw[bR hl]at this;have e3:(x.l.map (arD k)).set ix ((arD k (x.l[ix]'(by omega))).take 0++[.I k c]++(arD k (x.l[ix]'(by omega))).drop (0+1))=(x.set ix c).l.map (arD k):=by rw[Arr.l_set,jz];rfl
      rw[e3];exact this
     ·cases h
    ·cases h
   ·rename_i h1;split at h
    ·rename_i t y;split at h
     ·rename_i y' hy hb;obtain⟨e,rfl⟩:=Ty.cst_ok hy;subst e;exact aM0 hl h1 (η hb) (by rw[hv];exact aC6) (hK _ h)
     ·cases h
    ·rename_i t y;split at h
     ·rename_i y' hy hb;obtain⟨e,rfl⟩:=Ty.cst_ok hy;subst e;exact aM0 hl h1 (η hb) (by
       rw[hv];show(AV.agg (((Ty.ar n k).ds _).map AV.D++[])).cells?=_;rw[bb];exact aC6) (hK _ h)
     ·cases h
    ·split at h
     ·rename_i t y hu;split at h
      ·rename_i y' hy;obtain⟨e,rfl⟩:=Ty.cst_ok hy;subst e;obtain⟨h2,h⟩:=aX h;have e1:=x.len;refine .inr ⟨rfl,rfl,h1,x.l.map (arD k),_,(Ty.ar sz k).ds y,by rw[aQ,hl];rfl,by rw[hv,<-aSk,hu];exact aC6,aAu _,by rw[Ty.ds_len];rfl,by rw[κ,e1];exact h2,?_⟩;have:=hK _ h;rw[bR hl]at this;have e3:(x.l.map (arD k)).take ix++(((Ty.ar sz k).ds y).map fun d=>[d])++(x.l.map (arD k)).drop (ix+sz)=(x.put ix y.l).l.map (arD k):=by rw[Arr.l_put (by rw[y.len];exact h2),bq,bq,bu,cn,y.len];congr 2;show((y.l.map (DV.I k)).map fun d=>[d])=_;rw[ij];rfl
       rw[e3];exact this
      ·cases h
     ·cases h
  ·cases h
 ·rename_i hd off;split at h
  ·rename_i t x hl;split at h
   ·rename_i ys hy;split at h
    ·rename_i hb;rw[μ]at hb;have hb0:=ez hb.2;split at h
     ·rename_i l hu;split at h
      ·rename_i y hp;obtain⟨h1,h2⟩:=xD hu;obtain⟨l1,e1,e2⟩:=qY hp;rw[bb]at e1;subst e1;rw[dC]at h1 h2;rw[κ]at h1;have hlen:(XV.fcL ys).length=sz:=by rw[aHe];exact η hb.1
       have hys:XV.fcL ys=(((t.ds y).drop off).take sz).map .D:=by
        have:(((XV.fcL l).drop off).take sz)=XV.fcL ys:=by rw[h2,υ,ee (by rw[bn,κ];omega),ff (by rw[bn,κ];omega),cz,gf (by omega),bk (by omega)]
        rw[<-this,e2,bu,cn]
       have hds:t.ds y=(t.ds x).take off++((t.ds y).drop off).take sz++(t.ds x).drop (off+sz):=by
        have h3:(t.ds y).map AV.D=((t.ds x).take off++((t.ds y).drop off).take sz++(t.ds x).drop (off+sz)).map AV.D:=by rw[bq,bq,<-hys,bu,cn,<-h2,e2]
        exact nU h3
       have hn:(((t.ds y).drop off).take sz).length=sz:=by have:=congrArg List.length hys;rw[κ,hlen]at this;exact this.symm
       exact bTd hl (by rw[hv,<-hys];exact pE hy) hn h1 (by omega) hds (hK _ h)
      ·cases h
     ·cases h
    ·cases h
   ·cases h
  ·cases h
 ·rename_i hd off j;split at h
  ·rename_i t x hl;split at h
   ·rename_i a ha;split at h
    ·rename_i c hc;obtain⟨hj,h⟩:=aX h;split at h
     ·rename_i l hs;split at h
      ·rename_i y hp;obtain⟨h1,h2⟩:=aLc ha hj hs;obtain⟨l1,e1,e2⟩:=qY hp;rw[bb]at e1;subst e1;rw[dC]at h1 h2;rw[κ]at h1;have hds:t.ds y=(t.ds x).set (off+j) (.I a.k c):=by
        have h3:(t.ds y).map AV.D=((t.ds x).set (off+j) (.I a.k c)).map AV.D:=by rw[<-e2,h2,jz]
        exact nU h3
       have ev:s.er.ev xo=.D (.I a.k c):=by rw[hv];exact aS1 hc
       exact bTd (vs:=[.I a.k c]) hl (by rw[ev];rfl) rfl h1 h1 (by rw[aQj h1];exact hds) (hK _ h)
      ·cases h
     ·cases h
    ·cases h
   ·cases h
  ·cases h
 ·cases h
def bOi:List XV->Bool
 |[]=>true
 |.d _ _::l=>bOi l
 |.nl _::l=>bOi l
 |_::_=>false
def bSz(v a:XV):Bool:=match a with
 |.ept _ _ _ _=>match vL v with
  |some ys=>!(bOi ys)
  |none=>false
 |_=>false
def bRt(s s1:XS)(sz:Nat)(v:XV)(K:XS->Option R)(h:Hd)(t:Ty)(ix off:Nat):Option R:=match s1.lk h with
 |some (.row true t' xs)=>match t'.beq t,vL v with
  |true,some ys=>match au (szL ys) sz,(au sz 1|| !(au t'.n 1))with
   |true,true=>gn? xs ix fun e=>match aRe (lvs t' e) off ys sz with
    |some l=>pkC s t' l fun y rest=>match rest with
     |[]=>K (s1.setBlk h (some (.row true t' (xs.set ix y))))
     |_::_=>none
    |none=>none
   |_,_=>none
  |_,_=>none
 |_=>none
def aQg(s:XS)(sz:Nat)(v:XV)(K:XS->Option R):XV->Option R
 |.ept h t ix off=>bRt s (s.put none .un [] (xfz s v.hr)) sz v K h t ix off
 |_=>none
theorem aXq{lk:bA}{φ:Hd->Option Hd}{a:AV}{cs:List AV}(h:a.cells?=some cs)(hc:AV.convL lk φ cs=ds.map .D)(ho:AV.allOne (ds.map .D)=true):(AV.conv lk φ a).cells?=some (ds.map .D):=by
 have key:∀a:AV,(∀l,a≠.agg l)->a.cells?=some cs->(AV.conv lk φ a).cells?=some (ds.map .D):=fun a hn h=>by
  have h1:cs=[a]:=by
   unfold AV.cells? at h;split at h
   ·exact absurd rfl (hn _)
   ·split at h
    ·cases h;rfl
    ·cases h
  subst h1;have hc:[AV.conv lk φ a]=ds.map .D:=hc;cases ds with
  |nil=>cases hc
  |cons d ds=>
   cases ds with
   |cons _ _=>exact absurd (congrArg List.length hc) (by simp)
   |nil=>
    have hc:AV.conv lk φ a=.D d:=(List.cons.inj hc).1;rw[hc];have ho:(AV.one (.D d)&&true)=true:=ho;rw[jl]at ho;show(if AV.one (.D d)=true then some [AV.D d]else none)=_;rw[if_pos ho];rfl
 cases a with
 |agg l=>
  have h:(if AV.allOne l=true then some l else none)=some cs:=h;split at h
  ·have e:l=cs:=Option.some.inj h;rw[<-e]at hc;show(if AV.allOne (AV.convL lk φ l)=true then some (AV.convL lk φ l)else none)=_;rw[hc,if_pos ho]
  ·cases h
 |_=>exact key _ (fun _=>AV.noConfusion) h
theorem aFl(lk:bA)(φ:Hd->Option Hd):∀l:List AV,(AV.convL lk φ l).length=l.length
 |[]=>rfl
 |x::l=>by show(AV.convL lk φ l).length+1=_;rw[aFl lk φ l];rfl
theorem aXz[YL]{K:XS->Option R}{r:R}(hv:s.er.ev xo=v.er)(h:aQg s sz v K a=some r)(hK:∀s',K s'=some r->KP s'.er):
  qZ (s.er.put none AV.un [] (fzL s.er.lk (AV.rows (s.er.ev xo)))) sz (AV.conv s.er.lk (fun _=>none) (s.er.ev xo)) KP a.er:=by
 unfold aQg at h;split at h
 ·rename_i hd t ix off;have hs1:s.er.put none AV.un [] (fzL s.er.lk (AV.rows (s.er.ev xo)))=(s.put none .un [] (xfz s v.hr)).er:=by rw[dD,hv,aH7,sW];rfl
  rw[hs1,hv];revert h;generalize s.put none .un [] (xfz s v.hr)=s1;intro h;unfold bRt at h;split at h
  ·rename_i t' xs hl;split at h
   ·rename_i ys hb hy;obtain rfl:=Ty.eq_of hb;split at h
    ·rename_i hb1 hb2
     replace h:=aV4 h
     obtain⟨e,he,h⟩:=h;split at h
     ·rename_i l hu;obtain⟨y,l1,l2,rfl,h,ec⟩:=bGk (φ:=fun _=>none) (fun _ _ _=>rfl) h;split at h
      ·obtain⟨h1,h2⟩:=xD hu;rw[bb]at h2;rw[dC]at h1 h2;rw[κ]at h1;have hsz:=η hb1;have hlen:(XV.fcL ys).length=sz:=by rw[aHe];exact hsz
       have hC:((t'.ds e).take off).map AV.D++AV.convL s.er.lk (fun _=>none) (XV.fcL ys)++((t'.ds e).drop (off+sz)).map AV.D=(t'.ds y).map .D:=by rw[<-ec,h2,vU,vU,<-bu,<-cn,aE5,aE5]
       have hcl:(AV.convL s.er.lk (fun _=>none) (XV.fcL ys)).length=sz:=by rw[aFl,hlen]
       have hys:AV.convL s.er.lk (fun _=>none) (XV.fcL ys)=(((t'.ds y).drop off).take sz).map .D:=by rw[bu,cn,<-hC,υ,ee (by rw[κ,bn];omega),ff (by rw[κ,bn];omega),cz,gf (by omega),bk (by omega)]
       have hds:t'.ds y=(t'.ds e).take off++((t'.ds y).drop off).take sz++(t'.ds e).drop (off+sz):=by
        have h3:(t'.ds y).map AV.D=((t'.ds e).take off++((t'.ds y).drop off).take sz++(t'.ds e).drop (off+sz)).map AV.D:=by rw[bq,bq,<-hys,hC]
        have:=congrArg AV.data h3;rwa[aAu,aAu,Option.some.injEq]at this
       have hone:AV.allOne ((((t'.ds y).drop off).take sz).map .D)=true:=by
        have h4:=vM t' y;have h6:(t'.ds y).map AV.D=((t'.ds e).take off).map AV.D++(((t'.ds y).drop off).take sz).map AV.D++((t'.ds e).drop (off+sz)).map AV.D:=by rw[<-bq,<-bq,<-hds]
        rw[h6,aF8,aF8,μ,μ]at h4;exact h4.1.2
       refine .inl ⟨?_,xs.map t'.ds,t'.ds e,(((t'.ds y).drop off).take sz).map .D,((t'.ds y).drop off).take sz,by rw[aQ,hl];rfl,by rw[ba,he];rfl,aXq (pE hy) hys hone,aAu _,?_,h1,?_⟩
       ·rw[ig]at hb2;rcases hb2 with hb2|hb2
        ·exact .inr (η hb2)
        ·exact .inl fun e=>by rw[e]at hb2;cases hb2
       ·have:=congrArg List.length hys;rw[κ,hcl]at this;exact this.symm
       ·have:=hK _ h;rw[bR hl]at this;rw[<-hds];have e3:(xs.map t'.ds).set ix (t'.ds y)=(xs.set ix y).map t'.ds:=by rw[jz]
        rw[e3];exact this
      ·cases h
     ·cases h
    ·cases h
   ·cases h
  ·cases h
 ·cases h
end
section
variable{R:Type}
def sL(s:XS)(t:Ty)(v:XV)(K:List t.T->Option R):Option R:=match v with
 |.d .s b=>match(Ty.sl (.i .u8)).cst (.sl t) (aE b)with
  |some y=>K y
  |none=>none
 |v=>qV s (.sl t) v K
theorem mT[YL]{K:List t.T->Option R}{r:R}(h:sL s t v K=some r):∃xs:List t.T,K xs=some r/\AV.content s.er.lk v.er=some (xs.map t.ds):=by
 unfold sL at h;split at h
 ·rename_i b;split at h
  ·rename_i y hy;obtain⟨e,rfl⟩:=Ty.cst_ok hy;cases e;refine⟨_,h,?_⟩;show some (b.map fun c=>[DV.I .u8 c.toNat])=_;simp only[aE,ij];rfl
  ·cases h
 ·obtain⟨xs,h,h1,_⟩:=aHp h;exact⟨xs,h,h1⟩
def bUq(s:XS)(t:Ty)(xs:List t.T)(k bytes:Nat)(y:XV)(K:XV->List XB->List Hd->Option R):Option R:=match au t.n k with
 |true=>sL s t y fun ys=>match xs,ys with
  |[],ys=>gd? (ys.length*bytes<=140737488355328) (K (.slw (.O s.own.length) t ys.length) [.row true t ys] (xfz s y.hr))
  |xs,y0::yr=>gd? ((xs.length+(y0::yr).length)*bytes<=140737488355328) (K (.slw (.O s.own.length) t (xs++y0::yr).length) [.row true t (xs++y0::yr)] (xfz s y.hr))
  |_,_=>none
 |false=>none
def aQ9(s:XS)(ty:Option Ty)(k bytes:Nat)(y:XV)(dst:Option Nat)(K:XS->Option R):XV->Option R
 |.slw h t len=>match s.lk h with
  |some (.row mt t' xs)=>match t'.beq t,au t'.n k with
   |true,true=>gl? len xs (sL s t' y fun ys=>gd? ((xs.length+ys.length)*bytes<=140737488355328) (K ((s.setBlk h none).put dst (.slw (.O s.own.length) t' (xs++ys).length) [.row mt t' (xs++ys)] [])))
   |_,_=>none
  |_=>none
 |.fln _=>match elT ty,dst with
  |some t,some d=>match au t.n k with
   |true=>sL s t y fun ys=>gd? (ys.length*bytes<=140737488355328) (K (s.put (some d) (.slw (.O s.own.length) t ys.length) [.row true t ys] (xfz s y.hr)))
   |false=>none
  |_,_=>none
 |.fl t xs=>match au t.n k,dst with
  |true,some d=>sL s t y fun ys=>match ys with
   |[]=>none
   |y0::yr=>gd? ((xs.length+(y0::yr).length)*bytes<=140737488355328) (K (s.put (some d) (.slw (.O s.own.length) t (xs++y0::yr).length) [.row true t (xs++y0::yr)] (xfz s y.hr)))
  |_,_=>none
 |_=>none
theorem aWo[YL]{K:XS->Option R}{r:R}(hy:s.er.ev yo=y.er)(h:aQ9 s ty k bytes y dst K a=some r)(hK:∀s',K s'=some r->KP s'.er):vC s.er k bytes yo dst KP a.er:=by
 unfold aQ9 at h;split at h
 ·rename_i hd t len;split at h
  ·rename_i mt t' xs hl;split at h
   ·rename_i hb hb2;obtain rfl:=Ty.eq_of hb;have hk:=η hb2
    replace h:=bDg h
    obtain⟨rfl,h⟩:=h;obtain⟨ys,h,hc⟩:=mT h;obtain⟨hsz,h⟩:=aX h;refine⟨hk,rfl,mt,xs.map t'.ds,ys.map t'.ds,by rw[aQ,hl,<-hk];rfl,by rw[κ],by rw[hy];exact hc,hk▸wK t' xs,hk▸wK t' ys,bAh t' ys,by rw[κ];exact hsz,?_⟩;have:=hK _ h;rw[dD,bR hl]at this;have e:(XV.slw (.O s.own.length) t' (xs++ys).length).er=.sl (.O s.own.length) k 0 (xs.length+(ys.map t'.ds).length):=by show AV.sl (.O s.own.length) t'.n 0 (xs++ys).length=_;rw[hk,ι,κ]
    rw[e]at this;have e2:([XB.row mt t' (xs++ys)].map XB.er)=[Blk.row mt k (xs.map t'.ds++ys.map t'.ds)]:=by show[Blk.row mt t'.n ((xs++ys).map t'.ds)]=_;rw[hk,bq]
    rw[e2]at this;exact this
   ·cases h
  ·cases h
 ·split at h
  ·rename_i t d _;split at h
   ·rename_i hb;have hk:=η hb;obtain⟨ys,h,hc⟩:=mT h;obtain⟨hsz,h⟩:=aX h;refine⟨rfl,ys.map t.ds,by rw[hy];exact hc,hk▸wK t ys,by rw[κ];exact hsz,?_⟩;have:=hK _ h;rw[dD]at this;have e:(XV.slw (.O s.own.length) t ys.length).er=.sl (.O s.own.length) k 0 (ys.map t.ds).length:=by show AV.sl (.O s.own.length) t.n 0 ys.length=_;rw[hk,κ]
    rw[e]at this;have e2:([XB.row true t ys].map XB.er)=[Blk.row true k (ys.map t.ds)]:=by show[Blk.row true t.n (ys.map t.ds)]=_;rw[hk]
    rw[e2]at this;rw[hy,aH7,sW];exact this
   ·cases h
  ·cases h
 ·rename_i t xs;split at h
  ·rename_i d hb;have hk:=η hb;obtain⟨ys,h,hc⟩:=mT h;split at h
   ·cases h
   ·rename_i y0 yr;obtain⟨hsz,h⟩:=aX h;have:=hK _ h;rw[dD]at this;have e2:([XB.row true t (xs++y0::yr)].map XB.er)=[Blk.row true k (xs.map t.ds++(y0::yr).map t.ds)]:=by show[Blk.row true t.n ((xs++y0::yr).map t.ds)]=_;rw[hk,bq]
    have e:(XV.slw (.O s.own.length) t (xs++y0::yr).length).er=.sl (.O s.own.length) k 0 (xs.length+(y0::yr).length):=by show AV.sl (.O s.own.length) t.n 0 (xs++y0::yr).length=_;rw[hk,ι]
    rw[e,e2,show s.own.length=s.er.nx from rfl]at this;cases xs with
    |nil=>
     refine⟨rfl,(y0::yr).map t.ds,by rw[hy];exact hc,hk▸wK t _,by rw[κ];simpa using hsz,?_⟩;rw[hy,aH7,sW,κ];simpa using this
    |cons x0 xr=>
     refine⟨(y0::yr).map t.ds,by rw[hy];exact hc,hk▸wK t (x0::xr),hk▸wK t _,by simpa using hsz,?_⟩;rw[if_neg (by simp),hy,aH7,sW];simpa using this
  ·cases h
 ·cases h
def bOh(s:XS)(ty:Option Ty)(k bytes:Nat)(y:XV)(K:XV->List XB->List Hd->Option R):XV->Option R
 |.fln _=>match elT ty with
  |some t=>match au t.n k with
   |true=>sL s t y fun ys=>gd? (ys.length*bytes<=140737488355328) (K (.slw (.O s.own.length) t ys.length) [.row true t ys] (xfz s y.hr))
   |false=>none
  |none=>none
 |.fl t xs=>match au t.n k with
  |true=>sL s t y fun ys=>match ys with
   |[]=>none
   |y0::yr=>gd? ((xs.length+(y0::yr).length)*bytes<=140737488355328) (K (.slw (.O s.own.length) t (xs++y0::yr).length) [.row true t (xs++y0::yr)] (xfz s y.hr))
  |false=>none
 |_=>none
theorem bI4[YL]{K:XV->List XB->List Hd->Option R}{r:R}(hy:s.er.ev yo=y.er)(h:bOh s ty k bytes y K a=some r){KP:AV->List Blk->List Hd->Prop}(hK:∀v nbs fz,K v nbs fz=some r->KP v.er (nbs.map XB.er) fz):
  ∃es,a.er=.fl es/\∃ys,AV.content s.er.lk (s.er.ev yo)=some ys/\Uni k es/\Uni k ys/\(es.length+ys.length)*bytes<=140737488355328/\
   (if ys=[]/\es≠[]then KP (.fl es) [] []else KP (.sl (.O s.er.nx) k 0 (es.length+ys.length)) [.row true k (es++ys)] (fzL s.er.lk (AV.rows (s.er.ev yo)))):=by
 unfold bOh at h;split at h
 ·split at h
  ·rename_i t _;split at h
   ·rename_i hb;have hk:=η hb;obtain⟨ys,h,hc⟩:=mT h;obtain⟨hsz,h⟩:=aX h;refine⟨[],rfl,ys.map t.ds,by rw[hy];exact hc,fun _ h=>(by cases h),hk▸wK t ys,by rw[κ];simpa using hsz,?_⟩;rw[if_neg (fun h=>h.2 rfl),hy,aH7,sW];have:=hK _ _ _ h;have e:(XV.slw (.O s.own.length) t ys.length).er=.sl (.O s.own.length) k 0 (([]:List (List DV)).length+(ys.map t.ds).length):=by show AV.sl (.O s.own.length) t.n 0 ys.length=_;rw[hk,κ,List.length_nil,bg]
    rw[e]at this;have e2:([XB.row true t ys].map XB.er)=[Blk.row true k ([]++ys.map t.ds)]:=by show[Blk.row true t.n (ys.map t.ds)]=_;rw[hk];rfl
    rw[e2]at this;exact this
   ·cases h
  ·cases h
 ·rename_i t xs;split at h
  ·rename_i hb;have hk:=η hb;obtain⟨ys,h,hc⟩:=mT h;split at h
   ·cases h
   ·rename_i y0 yr;obtain⟨hsz,h⟩:=aX h;refine⟨xs.map t.ds,rfl,(y0::yr).map t.ds,by rw[hy];exact hc,hk▸wK t xs,hk▸wK t (y0::yr),by rw[κ,κ];exact hsz,?_⟩;rw[if_neg (fun h=>by cases h.1),hy,aH7,sW];have:=hK _ _ _ h;have e:(XV.slw (.O s.own.length) t (xs++y0::yr).length).er=.sl (.O s.own.length) k 0 ((xs.map t.ds).length+((y0::yr).map t.ds).length):=by show AV.sl (.O s.own.length) t.n 0 (xs++y0::yr).length=_;rw[hk,κ,κ,ι]
    rw[e]at this;have e2:([XB.row true t (xs++y0::yr)].map XB.er)=[Blk.row true k (xs.map t.ds++(y0::yr).map t.ds)]:=by show[Blk.row true t.n ((xs++y0::yr).map t.ds)]=_;rw[hk,bq]
    rw[e2]at this;exact this
  ·cases h
 ·cases h
def aVq{α:Type}(xs:List α)(off len:Nat)(ys:List α):List α:=xs.take off++ys.take (min ys.length len)++xs.drop (off+min ys.length len)
def aSd(s:XS)(k:Nat)(vy:XV)(dst:Option Nat)(K:XS->Option R)(h:Hd)(t:Ty)(off len:Nat):Option R:=match s.lk h with
 |some (.row true t' xs)=>match t'.beq t,au t'.n k with
  |true,true=>gd? (off+len<=xs.length) (sL s t' vy fun ys=>K ((s.setBlk h (some (.row true t' (aVq xs off len ys)))).put dst (.d (.i .i64) (min ys.length len:Nat)) [] []))
  |_,_=>none
 |_=>none
def bG5(s:XS)(k:Nat)(vy:XV)(dst:Option Nat)(K:XS->Option R):XV->Option R
 |.slw h t len=>aSd s k vy dst K h t 0 len
 |.sl h t off len=>aSd s k vy dst K h t off len
 |.asl h off len=>match s.lk h with
  |some (.arr true n kd x)=>match au 1 k with
   |true=>gd? (off+len<=n) (sL s (.i kd) vy fun ys=>K ((s.setBlk h (some (.arr true n kd (x.put off (ys.take (min ys.length len)))))).put dst (.d (.i .i64) (min ys.length len:Nat)) [] []))
   |false=>none
  |_=>none
 |.rsl h off l len=>match s.lk h with
  |some (.rb true t x)=>match au 1 k,aCp (lvs t x) off with
   |true,some a=>gd? (l+len<=a.n) (sL s (.i a.k) vy fun ys=>match aRe (lvs t x) off [.d (.ar a.n a.k) (a.x.put l (ys.take (min ys.length len)))] a.n with
    |some q=>match pkD t q with
     |some (y,[])=>K ((s.setBlk h (some (.rb true t y))).put dst (.d (.i .i64) (min ys.length len:Nat)) [] [])
     |_=>none
    |none=>none)
   |_,_=>none
  |_=>none
 |_=>none
theorem bIh{l p:List α}{i:Nat}(h:off+n<=l.length)(hi:i+p.length<=n):l.take off++(((l.drop off).take n).take i++p++((l.drop off).take n).drop (i+p.length))++l.drop (off+n)=l.take (off+i)++p++l.drop (off+i+p.length):=by
 have e1:l.take (off+i)=l.take off++(l.drop off).take i:=by rw[List.take_add]
 have e2:((l.drop off).take n).take i=(l.drop off).take i:=by rw[List.take_take,Nat.min_eq_left (by omega)]
 have e3:l.drop (off+i+p.length)=((l.drop off).take n).drop (i+p.length)++l.drop (off+n):=by
  have h1:l.drop (off+i+p.length)=(l.drop off).drop (i+p.length):=by rw[dv,fw]
  have h2:l.drop (off+n)=(l.drop off).drop n:=by rw[dv]
  rw[h1,h2];have h3:l.drop off=(l.drop off).take n++(l.drop off).drop n:=(List.take_append_drop _ _).symm;have h4:((l.drop off).take n).length=n:=by rw[bn,aw];omega
  conv=>lhs;rw[h3]
  rw[ee (by omega)]
 rw[e1,e2,e3];simp only[υ]
theorem aPj[YL]{K:XS->Option R}{r:R}{len:Nat}(hy:s.er.ev yo=vy.er)(h:aSd s k vy dst K hd t off len=some r)(hK:∀s',K s'=some r->KP s'.er):aPo s.er k yo dst KP (.sl hd t.n off len):=by
 unfold aSd at h;split at h
 ·rename_i t' xs hl;split at h
  ·rename_i hb hb2;obtain rfl:=Ty.eq_of hb;have hk:=η hb2;obtain⟨h1,h⟩:=aX h;obtain⟨ys,h,hc⟩:=mT h;refine⟨hk,xs.map t'.ds,ys.map t'.ds,by rw[aQ,hl,<-hk];rfl,by rw[κ];exact h1,by rw[hy];exact hc,hk▸wK t' ys,by rw[<-bu];exact bAh t' _,?_⟩;have:=hK _ h;rw[dD,bR hl]at this;have e:(some (XB.row true t' (aVq xs off len ys))).map XB.er=some (.row true k ((xs.map t'.ds).take off++(ys.map t'.ds).take (min (ys.map t'.ds).length len)++(xs.map t'.ds).drop (off+min (ys.map t'.ds).length len))):=by show some (Blk.row true t'.n ((aVq xs off len ys).map t'.ds))=_;unfold aVq;rw[hk,bq,bq,bu,bu,cn,κ]
   rw[e]at this;have e2:(XV.d (.i .i64) ((min ys.length len:Nat):Int)).er=.D (.I .i64 (min (ys.map t'.ds).length len:Nat)):=by rw[κ];rfl
   rw[e2]at this;exact this
  ·cases h
 ·cases h
theorem bHg[YL]{K:XS->Option R}{r:R}(hy:s.er.ev yo=vy.er)(h:bG5 s k vy dst K a=some r)(hK:∀s',K s'=some r->KP s'.er):aPo s.er k yo dst KP a.er:=by
 unfold bG5 at h;split at h
 ·exact aPj hy h hK
 ·exact aPj hy h hK
 ·rename_i hd off len;split at h
  ·rename_i n kd x hl;split at h
   ·rename_i hb;obtain rfl:=η hb;obtain⟨h1,h⟩:=aX h;obtain⟨ys,h,hc⟩:=mT h;refine⟨rfl,x.l.map (arD kd),ys.map (Ty.i kd).ds,by rw[aQ,hl];rfl,by rw[κ,x.len];exact h1,by rw[hy];exact hc,wK (.i kd) ys,by rw[<-bu];exact bAh (.i kd) _,?_⟩;have:=hK _ h;rw[dD,bR hl]at this;have hm:(ys.take (min ys.length len)).length=min ys.length len:=by rw[bn];omega
    have e:(some (XB.arr true n kd (x.put off (ys.take (min ys.length len))))).map XB.er=some (.row true 1 ((x.l.map (arD kd)).take off++(ys.map (Ty.i kd).ds).take (min (ys.map (Ty.i kd).ds).length len)++(x.l.map (arD kd)).drop (off+min (ys.map (Ty.i kd).ds).length len))):=by show some (Blk.row true 1 ((x.put off (ys.take (min ys.length len))).l.map (arD kd)))=_;rw[Arr.l_put (by rw[hm];omega),bq,bq,hm,bu,bu,cn,κ];rfl
    rw[e]at this;have e2:(XV.d (.i .i64) ((min ys.length len:Nat):Int)).er=.D (.I .i64 (min (ys.map (Ty.i kd).ds).length len:Nat)):=by rw[κ];rfl
    rw[e2]at this;exact this
   ·cases h
  ·cases h
 ·rename_i hd off l len;split at h
  ·rename_i t x hl;split at h
   ·rename_i a hb ha;obtain rfl:=η hb;obtain⟨h1,h⟩:=aX h;obtain⟨ys,h,hc⟩:=mT h;split at h
    ·rename_i q hu;split at h
     ·rename_i y hp;obtain⟨c1,c2⟩:=xD hu;obtain⟨d1,d2⟩:=aFe ha;obtain⟨l1,e1,e2⟩:=qY hp;rw[bb]at e1;subst e1;have hm:(ys.take (min ys.length len)).length=min ys.length len:=by rw[bn];omega
      have hp1:(((ys.take (min ys.length len)).map (DV.I a.k)).map AV.D).length=min ys.length len:=by rw[κ,κ,hm]
      have e3:XV.fcL [XV.d (.ar a.n a.k) (a.x.put l (ys.take (min ys.length len)))]=((((XV.fcL (lvs t x)).drop off).take a.n).take l++((ys.take (min ys.length len)).map (DV.I a.k)).map .D++(((XV.fcL (lvs t x)).drop off).take a.n).drop (l+(((ys.take (min ys.length len)).map (DV.I a.k)).map AV.D).length)):=by rw[d1,hp1];show(((a.x.put l (ys.take (min ys.length len))).l.map (DV.I a.k)).map AV.D)++[]=_;rw[bb,Arr.l_put (by rw[hm];omega),hm];simp only[bq,bu,cn]
      have e4:=bIh (p:=((ys.take (min ys.length len)).map (DV.I a.k)).map AV.D) d2 (i:=l) (by rw[hp1];omega);rw[<-e3,<-c2,hp1,dC]at e4;have e5:t.ds y=(t.ds x).take (off+l)++(ys.take (min ys.length len)).map (DV.I a.k)++(t.ds x).drop (off+l+min ys.length len):=by refine nU ?_;rw[<-e2,e4];simp only[bq,bu,cn]
      rw[dC,κ]at d2;refine⟨rfl,sgD (t.ds x),ys.map (Ty.i a.k).ds,by rw[aQ,hl];rfl,by rw[aA0];omega,by rw[hy];exact hc,wK (.i a.k) ys,by rw[<-bu];exact bAh (.i a.k) _,?_⟩;have:=hK _ h;rw[dD,bR hl]at this;have e:(some (XB.rb true t y)).map XB.er=some (.row true 1 ((sgD (t.ds x)).take (off+l)++(ys.map (Ty.i a.k).ds).take (min (ys.map (Ty.i a.k).ds).length len)++(sgD (t.ds x)).drop (off+l+min (ys.map (Ty.i a.k).ds).length len))):=by show some (Blk.row true 1 (sgD (t.ds y)))=_;rw[e5,κ];unfold sgD;simp only[bq,bu,cn,ij];rfl
      rw[e]at this;have e6:(XV.d (.i .i64) ((min ys.length len:Nat):Int)).er=.D (.I .i64 (min (ys.map (Ty.i a.k).ds).length len:Nat)):=by rw[κ];rfl
      rw[e6]at this;exact this
     ·cases h
    ·cases h
   ·cases h
  ·cases h
 ·cases h
def aZ2(s:XS)(k:Nat)(zs:List DV)(dst:Option Nat)(K:XS->Option R)(h:Hd)(t:Ty)(off len:Nat):Option R:=match s.lk h with
 |some (.row true t' xs)=>match t'.beq t,au t'.n k,zeq (zs.map .D) ((t'.ds t'.z).map .D)with
  |true,true,true=>gd? (off+len<=xs.length) (K ((s.setBlk h (some (.row true t' (xs.take off++ω len t'.z++xs.drop (off+len))))).put dst .any [] []))
  |_,_,_=>none
 |_=>none
def bPl(s:XS)(k:Nat)(zs:List DV)(dst:Option Nat)(K:XS->Option R):XV->Option R
 |.slw h t len=>aZ2 s k zs dst K h t 0 len
 |.sl h t off len=>aZ2 s k zs dst K h t off len
 |_=>none
theorem aS6[YL]{zs:List DV}{K:XS->Option R}{r:R}{len:Nat}(h:aZ2 s k zs dst K hd t off len=some r)(hK:∀s',K s'=some r->KP s'.er):aGn s.er k zs dst KP (.sl hd t.n off len):=by
 unfold aZ2 at h;split at h
 ·rename_i t' xs hl;split at h
  ·rename_i hb hb2 hz;obtain rfl:=Ty.eq_of hb;have hk:=η hb2;have hz:=nU (aCu hz);obtain⟨h1,h⟩:=aX h;refine⟨hk,xs.map t'.ds,by rw[aQ,hl,<-hk];rfl,by rw[κ];exact h1,?_⟩;have:=hK _ h;rw[dD,bR hl]at this;have e:(some (XB.row true t' (xs.take off++ω len t'.z++xs.drop (off+len)))).map XB.er=some (.row true k ((xs.map t'.ds).take off++ω len zs++(xs.map t'.ds).drop (off+len))):=by show some (Blk.row true t'.n ((xs.take off++ω len t'.z++xs.drop (off+len)).map t'.ds))=_;rw[hk,bq,bq,jj,bu,cn,hz]
   rw[e]at this;exact this
  ·cases h
 ·cases h
theorem bJe[YL]{zs:List DV}{K:XS->Option R}{r:R}(h:bPl s k zs dst K a=some r)(hK:∀s',K s'=some r->KP s'.er):aGn s.er k zs dst KP a.er:=by
 unfold bPl at h;split at h
 ·exact aS6 h hK
 ·exact aS6 h hK
 ·cases h
theorem aBk{wr:Bool}{K V:Ty}(hk:zH K=true)(y:K.T)(v:V.T)(mv:MV)(hmv:mv=uB wr V v):∀(es:List (K.T×V.T)) (hole:Option K.T) (r:Option (Nat×MV)),(hole=none\/hole=some y)->mQ (cH K y) (gK wr K V es hole)=some r->
  bEk (gK wr K V es hole) r (cH K y) mv=gK wr K V (oT es y v) none
 |[],hole,r,_,h=>by
  cases h;subst hmv;rfl
 |e::es,hole,r,hh,h=>by
  subst hmv;have main:∀(mv0:MV) (rest:List (AV×MV)),mQ (cH K y) ((cH K e.1,mv0)::rest)=some r->(e.1=y->rest=gK wr K V es none)->(e.1≠y->mv0=uB wr V e.2/\∃hole',rest=gK wr K V es hole'/\(hole'=none\/hole'=some y))->
    bEk ((cH K e.1,mv0)::rest) r (cH K y) (uB wr V v)=gK wr K V (oT (e::es) y v) none:=fun mv0 rest hf h1 h2=>by
   unfold mQ at hf;rw[aZe hk]at hf;have hs:oT (e::es) y v=if e.1=y then(y,v)::es else e::oT es y v:=rfl
   rw[hs];by_cases he:e.1=y
   ·rw[decide_eq_true he]at hf;simp only[Option.some.injEq]at hf;subst hf;rw[if_pos he,h1 he];rfl
   ·rw[decide_eq_false he]at hf;obtain⟨rfl,hole',rfl,hh'⟩:=h2 he;rw[if_neg he];simp only at hf;split at hf
    ·rename_i j v0 hq;cases hf;have ih:=aBk hk y v _ rfl es hole' _ hh' hq;show(cH K e.1,uB wr V e.2)::(gK wr K V es hole').set j (cH K y,uB wr V v)=(cH K e.1,uB wr V e.2)::gK wr K V (oT es y v) none;rw[<-ih];rfl
    ·rename_i hq;cases hf;have ih:=aBk hk y v _ rfl es hole' _ hh' hq;show(cH K e.1,uB wr V e.2)::(gK wr K V es hole'++[(cH K y,uB wr V v)])=(cH K e.1,uB wr V e.2)::gK wr K V (oT es y v) none;rw[<-ih];rfl
    ·cases hf
  rcases hh with rfl|rfl
  ·exact main _ _ h (fun _=>rfl) (fun _=>⟨rfl,none,rfl,.inl rfl⟩)
  ·by_cases he:e.1=y
   ·have e2:gK wr K V (e::es) (some y)=(cH K e.1,.v (bHs wr V e.2))::gK wr K V es none:=by show(if e.1=y then _ else _)=_;rw[if_pos he]
    rw[e2]at h|-;exact main _ _ h (fun _=>rfl) (fun hn=>absurd he hn)
   ·have e2:gK wr K V (e::es) (some y)=(cH K e.1,uB wr V e.2)::gK wr K V es (some y):=by show(if e.1=y then _ else _)=_;rw[if_neg he]
    rw[e2]at h|-;exact main _ _ h (fun hn=>absurd hn he) (fun _=>⟨rfl,some y,rfl,.inr rfl⟩)
def bQk{α:Type}[DecidableEq α]:List α->α->List α
 |[],_=>[]
 |x::l,y=>if x=y then bQk l y else x::bQk l y
def bI0(V:Ty):XV->Option V.T
 |.d t x=>t.cst V x
 |.agg cs=>match nR V with
  |true=>none
  |false=>match pkD V cs with
   |some (x,[])=>some x
   |_=>none
 |_=>none
theorem bG4[YL]{x:V.T}(h:bI0 V v=some x):v.er=cH V x:=by
 unfold bI0 at h;split at h
 ·obtain⟨e,rfl⟩:=Ty.cst_ok h;subst e;rfl
 ·split at h
  ·cases h
  ·rename_i cs _ hl;split at h
   ·rename_i y hp;cases h;obtain⟨l1,e1,e2⟩:=qY hp;rw[bb]at e1;subst e1;rw[nH x hl];show AV.agg (XV.fcL _)=_;rw[e2]
   ·cases h
 ·cases h
theorem aZs:∀l:List DV,AV.hfreeL (l.map .D)=true
 |[]=>rfl
 |_::l=>aZs l
theorem aX0(x:V.T):(cH V x).hfree=true:=by
 cases hl:nR V with
 |true=>cases V<;>first|rfl|(cases hl;done)
 |false=>rw[nH x hl];exact aZs _
def isO:Ty->Bool
 |.o _=>true
 |_=>false
def aXv{α:Type}[DecidableEq α](hole:Option α)(y:α)(K:Option R):Option R:=match hole with
 |none=>K
 |some z=>gd? (z=y) K
theorem bBr{α:Type}[DecidableEq α]{hole:Option α}{y:α}{K:Option R}{r:R}(h:aXv hole y K=some r):(hole=none\/hole=some y)/\K=some r:=by
 unfold aXv at h;split at h
 ·exact⟨.inl rfl,h⟩
 ·obtain⟨e,h⟩:=aX h;exact⟨.inr (by rw[e]),h⟩
def bKu(s:XS)(wr:Bool)(V:Ty)(vz:XV)(K:V.T->Option Hd->Option R):Option R:=match V,K with
 |.o t,K=>match vz with
  |.slw hr t' len=>match s.lk hr with
   |some (.row mt t2 xs)=>match t2.beq t'&&(!wr||mt),(Ty.sl t2).cst (.sl t) xs with
    |true,some x=>gl? len xs (K x (some hr))
    |_,_=>none
   |_=>none
  |_=>none
 |V,K=>match bI0 V vz with
  |some x=>K x none
  |none=>none
theorem bK0[YL]{K:V.T->Option Hd->Option R}{r:R}(h:bKu s wr V vz K=some r):∃x hr,K x hr=some r/\
  ((hr=none/\MV.v (cH V x)=uB wr V x/\vz.er=cH V x)\/∃a mt k rs b,hr=some a/\((wr=false/\uB wr V x=.o k rs)\/(wr=true/\mt=true/\uB wr V x=.ow k rs))/\vz.er=.sl a k 0 rs.length/\s.lk a=some b/\b.er=.row mt k rs):=by
 cases V with
 |o t=>
  unfold bKu at h;simp only at h;split at h
  ·rename_i hr t' len;split at h
   ·rename_i mt t2 xs hl;split at h
    ·rename_i x hb hx;rw[μ]at hb;obtain⟨hb,hw⟩:=hb;obtain rfl:=Ty.eq_of hb;obtain⟨e,rfl⟩:=Ty.cst_ok hx;cases e;obtain⟨e,h⟩:=bDg h;refine⟨xs,some hr,h,.inr ⟨hr,mt,t.n,xs.map t.ds,_,rfl,?_,?_,hl,rfl⟩⟩
     ·cases wr with
      |false=>exact .inl ⟨rfl,rfl⟩
      |true=>exact .inr ⟨rfl,hw,rfl⟩
     show AV.sl hr t.n 0 len=_;rw[e,κ]
    ·cases h
   ·cases h
  ·cases h
 |_=>
  unfold bKu at h;simp only at h;split at h
  ·rename_i x hx;exact⟨x,none,h,.inl ⟨rfl,rfl,bG4 hx⟩⟩
  ·cases h
def bNb(s:XS)(h:Hd)(b:XB)(hr:Option Hd)(K:XS->Option R):Option R:=match hr with
 |none=>K (s.setBlk h (some b))
 |some a=>match a.eqb h with
  |true=>none
  |false=>K ((s.setBlk a none).setBlk h (some b))
def bF3(s:XS)(h:Hd)(wr:Bool)(K0 V:Ty)(es:List (K0.T×V.T))(hole:Option K0.T)(y:K0.T)(vz:XV)(K:XS->Option R):Option R:=
 bKu s wr V vz fun x hr=>aXv hole y (bNb s h (.mp wr K0 V (oT es y x) none none) hr K)
def bE6(s:XS)(kd:KD)(vy vz:XV)(K:XS->Option R):XV->Option R
 |.mref h=>match s.lk h with
  |some (.mp wr K0 V es hole i)=>match zH K0&&kdB K0.kd kd&&bLs wr i,aOh K0 vy with
   |true,some y=>bF3 s h wr K0 V es hole y vz K
   |_,_=>none
  |_=>none
 |_=>none
theorem aR3{a:Hd}{b0:XB}(hl:s.lk a=some b0)(hn:a≠h)(b:Option XB):(s.setBlk a b).lk h=s.lk h:=by
 cases a with
 |B i=>cases h with
  |B j=>
   show bB (xL s.bs i b) j=bB s.bs j;rw[nG _ _ _ _ (pU (l:=s.bs) hl),if_neg (fun e=>hn (by rw[e]))]
  |O j=>rfl
 |O i=>cases h with
  |B j=>rfl
  |O j=>
   show bB (xL s.own i b) j=bB s.own j;rw[nG _ _ _ _ (pU (l:=s.own) hl),if_neg (fun e=>hn (by rw[e]))]
theorem bBs[YL]{K0:Ty}{es:List (K0.T×V.T)}{hole:Option K0.T}{i:Option (Hd×Option K0.T×List K0.T)}{y:K0.T}{K:XS->Option R}{r:R}(hk:zH K0=true)(hl:s.lk hd=some (.mp wr K0 V es hole i))(hio:bLs wr i=true)(h:bF3 s hd wr K0 V es hole y vz K=some r)(hK:∀s',K s'=some r->KP s'.er)(hz:s.er.ev zo=vz.er):
  bEr s.er (s.er.ev zo) fun mv s1=>∃es it r,s.er.lk hd=some (.mp K0.kd es it)/\mQ (cH K0 y) es=some r/\KP (s1.setBlk hd (some (.mp K0.kd (bEk es r (cH K0 y) mv) none))):=by
 have hl':s.er.lk hd=some (.mp K0.kd (gK wr K0 V es hole) (itX K0 i)):=by rw[aQ,hl];show some (Blk.mp _ (aB8 wr K0 V es hole i) _)=_;rw[bIp hio]
 obtain⟨q,f1,_⟩:=sZ (wr:=wr) (V:=V) hk y es hole;obtain⟨x,hr,h,hx⟩:=bK0 h;obtain⟨hh,h⟩:=bBr h;rcases hx with⟨rfl,e1,e2⟩|⟨a,mt,k,rs,b,rfl,e1,e2,e3,e4⟩
 ·rw[hz,e2];refine .inl ⟨aX0 x,_,_,q,hl',f1,?_⟩;have:=hK _ h;rw[bR hl]at this;rw[aBk hk y x _ e1 es hole q hh f1];have e9:(some (XB.mp wr K0 V (oT es y x) none none)).map XB.er=some (.mp K0.kd (gK wr K0 V (oT es y x) none) none):=by show some (Blk.mp _ (aB8 wr _ _ _ _ _) _)=_;rw[aKn];rfl
  rw[e9]at this;exact this
 ·unfold bNb at h;simp only at h;split at h
  ·cases h
  ·rename_i hne;have hne:a≠hd:=fun e=>by rw[e,Hd.eqb_iff.2 rfl]at hne;cases hne
   rw[hz,e2];have e9:(some (XB.mp wr K0 V (oT es y x) none none)).map XB.er=some (.mp K0.kd (gK wr K0 V (oT es y x) none) none):=by show some (Blk.mp _ (aB8 wr _ _ _ _ _) _)=_;rw[aKn];rfl
   have:=hK _ h;rw[bR ((aR3 e3 hne none).trans hl),bR e3,e9]at this;have fin:∀mv,uB wr V x=mv->∃es' it r,s.er.lk hd=some (.mp K0.kd es' it)/\mQ (cH K0 y) es'=some r/\KP ((s.er.setBlk a none).setBlk hd (some (.mp K0.kd (bEk es' r (cH K0 y) mv) none))):=fun mv e1=>by refine⟨_,_,q,hl',f1,?_⟩;rw[aBk hk y x _ e1.symm es hole q hh f1];exact this
   refine .inr ⟨a,k,mt,rs,rfl,by rw[aQ,e3];exact congrArg some e4,?_⟩;rcases e1 with⟨_,e1⟩|⟨_,e1',e1⟩
   ·exact .inl (fin _ e1)
   ·exact .inr ⟨e1',fin _ e1⟩
theorem bD6[YL]{kd:KD}{K:XS->Option R}{r:R}(hy:s.er.ev yo=vy.er)(hz:s.er.ev zo=vz.er)(h:bE6 s kd vy vz K a=some r)(hK:∀s',K s'=some r->KP s'.er):aH6 s.er kd yo zo KP a.er:=by
 unfold bE6 at h;split at h
 ·rename_i hd;split at h
  ·rename_i wr K0 V es hole i hl;split at h
   ·rename_i y hb hkey;rw[μ,μ]at hb;obtain⟨⟨hk,hkd⟩,hio⟩:=hb;have hkd:=aQ5 hkd;subst hkd;have ey:=aVh hkey;refine⟨by rw[hy,ey];exact aY0 hk y,?_⟩;have:=bBs hk hl hio h hK hz;rw[hy,ey];exact this
   ·cases h
  ·cases h
 ·cases h
def bPh{α:Type}[DecidableEq α](y:α):Option (Hd×Option α×List α)->Option (Hd×Option α×List α)
 |none=>none
 |some (hi,_,rem)=>some (hi,none,bQk rem y)
def bUp(s:XS)(kd:KD)(vy:XV)(K:XS->Option R):XV->Option R
 |.mref h=>match s.lk h with
  |some (.mp false K0 V es none i)=>match zH K0&&kdB K0.kd kd,aOh K0 vy with
   |true,some y=>K (s.setBlk h (some (.mp false K0 V (bRe es y) none (bPh y i))))
   |_,_=>none
  |_=>none
 |_=>none
def bUs(s:XS)(kd:KD)(dst:Option Nat)(K:XS->Option R):XV->Option R
 |.mref h=>match s.lk h with
  |some (.mp wr K0 V es hole i)=>match kdB K0.kd kd&&(!wr||(i.isNone&&hole.isNone))with
   |true=>K ((s.setBlk h (some (.mp wr K0 V es hole (some (.O s.own.length,none,es.map (·.1)))))).put dst (.itr h (.O s.own.length)) [.it] [])
   |false=>none
  |_=>none
 |_=>none
def bTt(s:XS)(kd:KD)(z:AV)(k:Nat)(ok:Bool)(vy:XV)(dst:Option Nat)(K:XS->Option R):XV->Option R
 |.mref h=>match ok,s.lk h with
  |false,some (.mp wr K0 (.o t) es none i)=>match zH K0&&kdB K0.kd kd&&zeq [z] [.D (.L [])]&&au t.n k&&bLs wr i,aOh K0 vy with
   |true,some y=>K ((s.setBlk h (some (.mp wr K0 (.o t) es (some y) i))).put dst (.slw (.O s.own.length) t ((fM es y).getD []).length) [.row wr t ((fM es y).getD [])] [])
   |_,_=>none
  |_,_=>none
 |_=>none
def bUn(s:XS)(dst:Option Nat)(K:XS->Option R):XV->Option R
 |.itr h hi=>match s.lk h,s.lk hi with
  |some (.mp true K0 (.o t) es none (some (hi',some cur,rem))),some _=>match zH K0&&hi.eqb hi' with
   |true=>gd? (¬cur∈rem)<|bd? (fM es cur) fun v=>K ((s.setBlk h (some (.mp true K0 (.o t) es none (some (hi,none,rem))))).put dst (.tup [aN6 K0 cur,.slw (.O s.own.length) t v.length]) [.row true t v] [])
   |false=>none
  |_,_=>none
 |_=>none
end
section
variable{R:Type}
def bP1(vr:Hd->Option Nat)(s:XS):Nat->List (Option XB)->List (Option Hd)->List (Option Hd)
 |_,[],l=>l
 |i,m::r,l=>bP1 vr s (i+1) r (match bPj l i,m with
  |some h,some (.box ms)=>match s.lk h with
   |some (.box cs)=>bH8 vr ms cs l
   |_=>l
  |_,_=>l)
def bF5:List (Option Hd)->Option (List Hd)
 |[]=>some []
 |some h::r=>match bF5 r with
  |some l=>some (h::l)
  |none=>none
 |none::_=>none
def aSv:List Hd->Bool
 |[]=>true
 |h::r=>!(hin h r)&&aSv r
theorem aPb:∀{l:List Hd},aSv l=true->l.Nodup
 |[],_=>js
 |h::r,e=>by unfold aSv at e;rw[μ,dn]at e;exact fm.2 ⟨fun q=>(by rw[xK.2 q]at e;cases e.1),aPb e.2⟩
def aRd(s:XS):List Hd->List (Option XB)
 |[]=>[]
 |h::r=>s.lk h::aRd s r
theorem aZ5[YL](s:XS):∀hs:List Hd,erB (aRd s hs)=hs.map s.er.lk
 |[]=>rfl
 |h::r=>by show(s.lk h).map XB.er::erB (aRd s r)=s.er.lk h::r.map s.er.lk;rw[aQ,aZ5 s r]
theorem aS8(s:XS):∀(hs:List Hd) (i:Nat),bB (aRd s hs) i=(hs[i]?).bind s.lk
 |[],_=>by simp[aRd,bB]
 |h::r,0=>rfl
 |h::r,i+1=>by show bB (aRd s r) i=_;rw[aS8 s r i];simp
def okH(s:XS):List Hd->Bool
 |[]=>true
 |h::r=>(match s.lk h with
  |some .it=>false
  |some _=>true
  |none=>false)&&okH s r
theorem bDy[YL]{s:XS}:∀{hs:List Hd},okH s hs=true->∀h∈hs,∃b,s.lk h=some b/\b.er.isIt=false
 |[],_,_,h=>by cases h
 |x::r,e,h,hh=>by
  unfold okH at e;rw[μ]at e;rcases bo.1 hh with rfl|hh
  ·have e:=e.1;split at e
   ·cases e
   ·rename_i b hn hl;refine⟨b,hl,?_⟩;cases b with
    |it=>exact(hn rfl).elim
    |_=>rfl
   ·cases e
  ·exact bDy e.2 h hh
def XB.hr:XB->List Hd
 |.box cs=>XV.hrL cs
 |_=>[]
theorem bQl[YL](b:XB):b.er.rows=b.hr:=by
 cases b with
 |box cs=>exact aRw cs
 |_=>rfl
def aAe(s:XS):List Hd->List Hd
 |[]=>[]
 |h::r=>(match s.lk h with
  |some b=>b.hr
  |none=>[])++aAe s r
theorem aHy[YL](s:XS):∀hs:List Hd,xW s.er.lk hs=aAe s hs
 |[]=>rfl
 |h::r=>by
  unfold xW aAe;rw[aHy s r,aQ];cases s.lk h with
  |none=>rfl
  |some b=>exact congrArg (· ++_) (bQl b)
def aPd(hs:List Hd):List Hd->List Hd
 |[]=>[]
 |h::r=>match hin h hs with
  |true=>aPd hs r
  |false=>h::aPd hs r
theorem aNr(hs:List Hd):∀l:List Hd,l.filter (fun h=>decide (h∉hs))=aPd hs l
 |[]=>rfl
 |h::r=>by
  rw[List.filter_cons];unfold aPd;cases hq:hin h hs with
  |true=>rw[if_neg (by simp[xK.1 hq])];exact aNr hs r
  |false=>rw[if_pos (by simp only[decide_eq_true_eq];exact fun q=>by rw[xK.2 q]at hq;cases hq),aNr hs r]
def wW(ψ:Hd->Hd):List Hd->List (Option XB)->XS->XS
 |h::hs,b::bs,s=>wW ψ hs bs (s.setBlk h (match b with
  |some b=>some (b.ren ψ)
  |none=>none))
 |_,_,s=>s
def inR(s:XS):Hd->Prop
 |.B i=>i<s.bs.length
 |.O i=>i<s.own.length
theorem bQc{b:XB}(hl:s.lk h=some b):inR s h:=by
 cases h with
 |B i=>exact pU (l:=s.bs) hl
 |O i=>exact pU (l:=s.own) hl
theorem aWs[YL](hl:inR s h)(b:Option XB):(s.setBlk h b).er=s.er.setBlk h (b.map XB.er):=by
 cases h with
 |B i=>
  refine AState.ext' (fun _=>rfl) (fun j=>?_) (fun _=>rfl) rfl;show(bB (xL s.bs i b) j).map XB.er=if j=i then b.map XB.er else(bB s.bs j).map XB.er
  rw[nG _ _ _ _ hl];split<;>rfl
 |O i=>
  refine AState.ext' (fun _=>rfl) (fun _=>rfl) (fun j=>?_) (zQ _ _ _);show(bB (xL s.own i b) j).map XB.er=if j=i then b.map XB.er else(bB s.own j).map XB.er
  rw[nG _ _ _ _ hl];split<;>rfl
theorem bKd{h':Hd}(hl:inR s h')(b:Option XB):inR (s.setBlk h b) h':=by
 cases h with
 |B i=>cases h' with
  |B j=>show j<(xL s.bs i b).length;rw[zQ];exact hl
  |O j=>exact hl
 |O i=>cases h' with
  |B j=>exact hl
  |O j=>show j<(xL s.own i b).length;rw[zQ];exact hl
theorem aH4[YL](ψ:Hd->Hd):∀(hs:List Hd) (bs:List (Option XB)) (s:XS),(∀h∈hs,inR s h)->(wW ψ hs bs s).er=bV s.er ψ hs (erB bs)
 |[],bs,s,_=>by unfold wW bV;rfl
 |h::hs,[],s,_=>by unfold wW bV;rfl
 |h::hs,b::bs,s,hr=>by
  have h1:=hr h cr;show(wW ψ hs bs (s.setBlk h _)).er=bV (s.er.setBlk h ((b.map XB.er).map (Blk.ren ψ))) ψ hs (erB bs);rw[aH4 ψ hs bs _ (fun x hx=>bKd (hr x (cp _ hx)) _),aWs h1];cases b with
  |none=>rfl
  |some b=>
   show bV (s.er.setBlk h (some (b.ren ψ).er)) ψ hs (erB bs)=_;rw[aRv];rfl
def aMp(s:XS)(hs:List Hd)(vs:List XV)(dst:Option Nat)(o:XS)(bl:List XB):XS:=
 (wW (bG hs s.own.length) hs o.bs (s.put none .un [] (aPd hs (xfz s (XV.hrL vs++aAe s hs))))).put dst ((XV.val o.env).ren (bG hs s.own.length)) (bl.map (XB.ren (bG hs s.own.length))) []
theorem bJ3(hl:inR s h)(fz:List Hd):inR (s.put none .un [] fz) h:=by
 cases h with
 |B i=>
  show i<(match fz with|[]=>s.bs|fz=>aBv .B fz 0 s.bs).length;cases fz with
  |nil=>exact hl
  |cons x r=>show i<(aBv .B (x::r) 0 s.bs).length;rw[zJ];exact hl
 |O i=>
  show i<((match fz with|[]=>s.own|fz=>aBv .O fz 0 s.own)++([]:List XB).map some).length;rw[ι];cases fz with
  |nil=>exact dm hl (iv _ _)
  |cons x r=>
   show i<(aBv .O (x::r) 0 s.own).length+_;rw[zJ];exact dm hl (iv _ _)
theorem bCu[YL](hr:∀h∈hs,inR s h)(vs:List XV)(dst:Option Nat)(o:XS)(bl:List XB):(aMp s hs vs dst o bl).er=fK s.er hs (XV.erL vs) dst (XV.val o.env).er (erB o.bs) (bl.map XB.er):=by
 have e:fzE s.er.lk hs (XV.erL vs)=aPd hs (xfz s (XV.hrL vs++aAe s hs)):=by unfold fzE;rw[aNr,aC0,aHy,sW]
 unfold aMp fK;rw[dD,aH4 _ _ _ _ (fun h hh=>bJ3 (hr h hh) _),dD,aSy,bM5,e];rfl
def aYy(s:XS)(hs:List Hd)(vs:List XV)(dst:Option Nat)(K:XS->Option R)(o:XS):Option R:=match au o.bs.length hs.length,aU6 o.own,o.pv with
 |true,some bl,none=>K (aMp s hs vs dst o bl)
 |_,_,_=>none
def aJy(s:XS)(g:Sig)(vs:List XV)(dst:Option Nat)(K:XS->Option R)(hs:List Hd):Option R:=match aSv hs&&aN1 s.own.length hs&&okH s hs&&aDa 0 g.ent.env vs,g.ent.own with
 |true,[]=>rdK s (aBs hs) g.ent (wR vs) (aRd s hs) [] fun v=>bd? (apF g.ent.tys g.F v) fun r=>bLw g.out r (aYy s hs vs dst K)
 |_,_=>none
def aWl(T:List Sig)(s:XS)(vs:List XV)(dst:Option Nat)(K:XS->Option R):XV->Option R
 |.clo fn caps=>match bBx T fn (vs++caps)with
  |some g=>match bF5 (bP1 vrB s 0 g.ent.bs (bF7 vrB (wR (vs++caps)) g.ent.env (aVs g.ent.bs)))with
   |some hs=>aJy s g (vs++caps) dst K hs
   |none=>none
  |none=>none
 |_=>none
theorem bC7:∀h h' b,aBs hs h=some h'->s.lk h=some b->match h' with|.B i=>bB (aRd s hs) i=some b|.O i=>bB [] i=some b:=fun h h' b e hl=>by have e:(aGj h hs 0).map Hd.B=some h':=e;rw[θ]at e;obtain⟨i,hi,rfl⟩:=e;obtain⟨_,h2⟩:=aBi hi;show bB (aRd s hs) i=some b;rw[aS8,show hs[i]?=some h from h2];exact hl
theorem aKb[YL]{g:Sig}{K:XS->Option R}{r:R}{hds:List Hd}(h:aJy s g vs dst K hds=some r):
  ∃v rr bl,apF g.ent.tys g.F v=some rr/\(bl.map XB.er).map some=erB (dU g.out rr).own/\(dU g.out rr).pv=none/\(g.ent.fill v).env.map (fun p=>p.2.er)=AV.convL s.er.lk (aBs hds) (XV.erL vs)/\vG s.er.lk hds=erB (g.ent.fill v).bs/\
   hds.Nodup/\aN1 s.er.nx hds=true/\(∀h∈hds,(s.er.lk h).isSome=true)/\(∀h∈hds,(s.er.lk h).any Blk.isIt=false)/\(erB (dU g.out rr).bs).length=hds.length/\
   K (aMp s hds vs dst (dU g.out rr) bl)=some r/\(aMp s hds vs dst (dU g.out rr) bl).er=fK s.er hds (XV.erL vs) dst (XV.val (dU g.out rr).env).er (erB (dU g.out rr).bs) (bl.map XB.er):=by
 unfold aJy at h;split at h
 case h_2=>cases h
 rename_i hb ho;rw[μ,μ,μ]at hb;obtain⟨⟨⟨b1,b2⟩,b3⟩,b4⟩:=hb;obtain⟨v,h,e1,e2,_⟩:=bHl bC7 h;obtain⟨rr,hr,h⟩:=bPi h;have h:=aRi h;unfold aYy at h;split at h
 case h_2=>cases h
 rename_i bl hlen hbl hpv;have hlen:=η hlen;have hargs:(g.ent.fill v).env.map (fun p=>p.2.er)=AV.convL s.er.lk (aBs hds) (XV.erL vs):=by have:=congrArg (fun l=>l.map (fun p:Nat×AV=>p.2)) e1;simp only[ij]at this;rw[aKq,<-aHh (f:=fun v=>AV.conv s.er.lk (aBs hds) v.er) b4 (ev:=wR vs) fun i _=>by rw[bg]];exact this
 have hh:vG s.er.lk hds=erB (g.ent.fill v).bs:=by rw[e2,aZ5,ij];rfl
 have hlive:=bDy b3;refine⟨v,rr,bl,hr,aKz hbl,hpv,hargs,hh,aPb b1,b2,fun x hx=>?_,fun x hx=>?_,?_,h,?_⟩
 ·obtain⟨b,q,_⟩:=hlive x hx;rw[aQ,q];rfl
 ·obtain⟨b,q,q2⟩:=hlive x hx;rw[aQ,q];exact q2
 ·show(List.map _ _).length=_;rw[κ];exact hlen
 ·rw[bCu (fun x hx=>by obtain⟨b,q,_⟩:=hlive x hx;exact bQc q)]
theorem bC6[YL]{T:List Sig}(hT:kJ P T){K:XS->Option R}{r:R}(h:aWl T s vs dst K vf=some r)(hK:∀s',K s'=some r->KP s'.er):aMf P s.er dst KP (XV.erL vs) vf.er:=by
 unfold aWl at h;split at h
 case h_2=>cases h
 rename_i fn caps;split at h
 case h_2=>cases h
 rename_i g hg;obtain⟨hs,hfn⟩:=aJo hT hg;split at h
 case h_2=>cases h
 rename_i hds _;obtain⟨v,rr,bl,hr,hbl,hpv,hargs,hh,c1,c2,c3,c4,c5,hk,he⟩:=aKb h;have hcall:=hs v rr hr (bl.map XB.er) hbl;unfold aFk at hcall;rw[hpv]at hcall;rw[hargs,hfn,<-hh,rH]at hcall;refine⟨hds,_,_,_,c1,c2,c3,c4,c5,hcall,?_⟩;have:=hK _ hk;rw[he,rH]at this;exact this
structure XRO where
 ro:RO
 ty:Option Ty
def aL6(T:List Sig)(s:XS)(o:XRO)(K:XS->Option R):Option R:=
 match o.ro.op with
 |.store sz a x=>w1 s a fun va=>w1 s x fun vx=>match bSz vx va with
  |true=>aQg s sz vx K va
  |false=>aXl s sz vx K va
 |.appE k bytes x y=>w1 s x fun vx=>w1 s y fun vy=>aQ9 s o.ty k bytes vy o.ro.dst K vx
 |.app k bytes x y=>w1 s x fun vx=>w1 s y fun vy=>bOh s o.ty k bytes vy (fun v nbs fz=>K (s.put o.ro.dst v nbs fz)) vx
 |.callE f args=>w1 s f fun vf=>wL s args fun vs=>aWl T s vs o.ro.dst K vf
 |.clr k zs x=>w1 s x (bPl s k zs o.ro.dst K)
 |.cpy k x y=>w1 s x fun vx=>w1 s y fun vy=>bG5 s k vy o.ro.dst K vx
 |.mtake kd z k ok x y=>none
 |.mput kd x y z=>w1 s x fun vx=>w1 s y fun vy=>w1 s z fun vz=>bE6 s kd vy vz K vx
 |.mdel kd x y=>none
 |.rng kd x=>none
 |.entT x=>none
 |op=>xp T s o.ty op fun v nbs fz=>K (s.put o.ro.dst v nbs fz)
theorem aHm[YL]{T:List Sig}(hT:kJ P T){o:XRO}{K:XS->Option R}{r:R}(h:aL6 T s o K=some r)(hK:∀s',K s'=some r->KP s'.er):rD P s.er o.ro KP:=by
 have hput:∀v nbs fz,K (s.put o.ro.dst v nbs fz)=some r->KP (s.er.put o.ro.dst v.er (nbs.map XB.er) fz):=fun v nbs fz h=>by rw[<-dD];exact hK _ h
 unfold aL6 at h;unfold rD;split at h
 ·rename_i sz a x e;obtain⟨h,e1⟩:=aM h;obtain⟨h,e2⟩:=aM h;rw[e];show qZ s.er sz (s.er.ev x) KP (s.er.ev a)\/qZ (s.er.put none .un [] (fzL s.er.lk (AV.rows (s.er.ev x)))) sz (AV.conv s.er.lk (fun _=>none) (s.er.ev x)) KP (s.er.ev a);split at h
  ·right;rw[e1];exact aXz e2 h hK
  ·left;rw[e1];exact bDi e2 h hK
 ·rename_i k bytes x y e;obtain⟨h,e1⟩:=aM h;obtain⟨h,e2⟩:=aM h;rw[e];show vC s.er k bytes y o.ro.dst KP (s.er.ev x);rw[e1];exact aWo e2 h hK
 ·rename_i k bytes x y e;obtain⟨h,e1⟩:=aM h;obtain⟨h,e2⟩:=aM h;rw[e];show∃es,s.er.ev x=.fl es/\_;rw[e1];exact bI4 e2 h (KP:=fun a nbs fz=>KP (s.er.put o.ro.dst a nbs fz)) hput
 ·rename_i f args e;obtain⟨h,e1⟩:=aM h;obtain⟨vs,h,e2⟩:=aNi h;rw[e];show aMf P s.er o.ro.dst KP (args.map s.er.ev) (s.er.ev f);rw[e1,e2];exact bC6 hT h hK
 ·rename_i k zs x e;obtain⟨h,e1⟩:=aM h;rw[e];show aGn s.er k zs o.ro.dst KP (s.er.ev x);rw[e1];exact bJe h hK
 ·rename_i k x y e;obtain⟨h,e1⟩:=aM h;obtain⟨h,e2⟩:=aM h;rw[e];show aPo s.er k y o.ro.dst KP (s.er.ev x);rw[e1];exact bHg e2 h hK
 ·cases h
 ·rename_i kd x y z e;obtain⟨h,e1⟩:=aM h;obtain⟨h,e2⟩:=aM h;obtain⟨h,e3⟩:=aM h;rw[e];show aH6 s.er kd y z KP (s.er.ev x);rw[e1];exact bD6 e2 e3 h hK
 ·cases h
 ·cases h
 ·cases h
 ·rename_i n1 n2 n3 n4 n5 n6 n7 n8 n9 n10 n11;have:=bR0 hT h (KP:=fun a nbs fz=>KP (s.er.put o.ro.dst a nbs fz)) hput;split
  ·rename_i e;exact absurd e (n1 _ _ _)
  ·rename_i e;exact absurd e (n2 _ _ _ _)
  ·rename_i e;exact absurd e (n4 _ _)
  ·rename_i e;exact absurd e (n5 _ _ _)
  ·rename_i e;exact absurd e (n6 _ _ _)
  ·rename_i e;exact absurd e (n7 _ _ _ _ _ _)
  ·rename_i e;exact absurd e (n8 _ _ _ _)
  ·rename_i e;exact absurd e (n9 _ _ _)
  ·rename_i e;exact absurd e (n10 _ _)
  ·rename_i e;exact absurd e (n11 _)
  ·exact this
def qT(s:XS)(t:Nat)(q:Bool):XS:={s with env:=(t,.d .b q)::s.env}
theorem jT[YL]{t:Nat}{c:Bool}(h:aR s.env t=.d .b c)(e:c=q):(qT s t q).er=s.er:=by
 subst e;refine AState.ext' (fun i=>?_) (fun _=>rfl) (fun _=>rfl) rfl;show(if au i t=true then XV.d .b c else aR s.env i).er=(aR s.env i).er;by_cases hi:i=t
 ·rw[if_pos (by rw[gw];exact hi),hi,h]
 ·rw[if_neg (by rw[gw];exact hi)]
def aEi(T:List Sig):List XRO->XS->(XS->Option R)->Option R
 |[],s,K=>K s
 |o::r,s,K=>match o.ro.guard with
  |none=>aL6 T s o fun s'=>aEi T r s' K
  |some (t,want)=>match aR s.env t with
   |.d .b c=>match want with
    |true=>if? c (aL6 T (qT s t true) o fun s'=>aEi T r s' K) (aEi T r ((qT s t false).put o.ro.dst .un [] []) K)
    |false=>if? c (aEi T r ((qT s t true).put o.ro.dst .un [] []) K) (aL6 T (qT s t false) o fun s'=>aEi T r s' K)
   |.un=>aEi T r (s.put o.ro.dst .un [] []) K
   |_=>none
theorem lI[YL]{P:Program}{T:List Sig}(hT:kJ P T){r:R}:∀{os:List XRO} {s:XS} {K:XS->Option R},aEi T os s K=some r->∀{KP:AState->Prop},(∀s',K s'=some r->KP s'.er)->lE P (os.map XRO.ro) s.er KP
 |[],s,K,h,KP,hK=>hK _ h
 |o::os,s,K,h,KP,hK=>by
  unfold aEi at h;show lE P (o.ro::os.map XRO.ro) s.er KP;unfold lE;split at h
  ·rename_i hg;rw[hg];exact aHm hT h fun s' h=>lI hT h hK
  ·rename_i t want hg;rw[hg];split at h
   ·rename_i c hc;have ht:s.er.env t=.D (.B c):=by show(aR s.env t).er=_;rw[hc];rfl
    show match s.er.env t with
     |.D (.B c)=>(c=want->_)/\(¬c=want->_)
     |.D (.C (.tuple _))=>_
     |_=>False
    rw[ht];split at h
    ·rcases aQz h with⟨e,h⟩|⟨e,h⟩
     ·have:=aHm hT h (KP:=fun s'=>lE P (os.map XRO.ro) s' KP) fun s' h=>lI hT h hK;rw[jT hc e]at this;exact⟨fun _=>this,fun h=>absurd e h⟩
     ·have:=lI hT h hK;rw[dD,jT hc e]at this;exact⟨fun h=>dh (e.symm.trans h),fun _=>this⟩
    ·rcases aQz h with⟨e,h⟩|⟨e,h⟩
     ·have:=lI hT h hK;rw[dD,jT hc e]at this;exact⟨fun h=>dh (e.symm.trans h),fun _=>this⟩
     ·have:=aHm hT h (KP:=fun s'=>lE P (os.map XRO.ro) s' KP) fun s' h=>lI hT h hK;rw[jT hc e]at this;exact⟨fun _=>this,fun h=>absurd e h⟩
   ·rename_i hc;have ht:s.er.env t=.D (.C undef):=by show(aR s.env t).er=_;rw[hc];rfl
    have:=lI hT h hK;rw[dD]at this;show match s.er.env t with
     |.D (.B c)=>(c=want->_)/\(¬c=want->_)
     |.D (.C (.tuple _))=>_
     |_=>False
    rw[ht];exact this
   ·cases h
def bJg:Option XB->Option XB->Bool
 |some (.arr _ n _ _),some (.arr _ m _ _)=>au n m
 |some (.rb _ t _),some (.rb _ t' _)=>t.beq t'
 |_,_=>false
theorem bJn[YL]{c:Option XB}(h:bJg b c=true):keepB false (b.map XB.er) (c.map XB.er):=by
 unfold bJg at h;split at h
 ·rename_i mt n k x mt' m k' y;have h:=η h;subst h;show shp (some (Blk.row mt' 1 (y.l.map (arD k'))))=shp (some (Blk.row mt 1 (x.l.map (arD k))));unfold shp;simp only[κ,x.len,y.len]
 ·rename_i mt t x mt' t' y;obtain rfl:=Ty.eq_of h;show shp (some (Blk.row mt' 1 (sgD (t.ds y))))=shp (some (Blk.row mt 1 (sgD (t.ds x))));unfold shp;simp only[aA0,Ty.ds_len]
 ·cases h
def aZq(s s':XS):List Hd->Bool
 |[]=>true
 |h::r=>bJg (s.lk h) (s'.lk h)&&aZq s s' r
theorem aVj[YL]{s s':XS}:∀{hs:List Hd},aZq s s' hs=true->aOw false hs s.er s'.er
 |[],_=>fun _ h=>by cases h
 |h::r,e=>by
  have e:(bJg (s.lk h) (s'.lk h)&&aZq s s' r)=true:=e;rw[μ]at e;intro x hx;rcases bo.1 hx with rfl|hx
  ·rw[aQ,aQ];exact bJn e.1
  ·exact aVj e.2 x hx
def xhd:XV->Option Hd
 |.apt h _=>some h
 |.asl h _ _=>some h
 |.rpt h _=>some h
 |.rpa h _ _=>some h
 |.rsl h _ _ _=>some h
 |.ptr h _=>some h
 |.pa h _ _=>some h
 |.ept h _ _ _=>some h
 |.epa h _ _ _ _=>some h
 |.slw h _ _=>some h
 |.sl h _ _ _=>some h
 |_=>none
theorem aMa[YL](e:xhd v=some h):v.er.hd?=some h:=by unfold xhd at e;split at e<;>first|exact e|cases e
def ldX(hs:List Hd)(s:XS)(op:ROp):Bool:=match op.sArg with
 |none=>true
 |some x=>match xhd (s.ev x)with
  |some h=>hin h hs
  |none=>noG x
theorem bD4[YL](e:xhd v=none):v.er.hd?=none:=by
 cases v<;>first|rfl|(cases e;done)|skip
 rename_i t x;cases t<;>rfl
theorem aYg[YL]{op:ROp}(h:ldX hs s op=true):bE9 hs op s.er.ev:=by
 unfold ldX at h;unfold bE9;split at h
 ·rename_i e;rw[e];trivial
 ·rename_i x e;rw[e];split at h
  ·rename_i hd hx;intro h' e';rw[aDu s rfl,aMa hx]at e';cases e';exact xK.1 h
  ·rename_i hx;intro h' e';rw[aDu s rfl,bD4 hx]at e';cases e'
def aQd(s:XS)(x:Operand)(K:List Hd):List Hd:=match xhd (s.ev x)with
 |some h=>match hin h K with
  |true=>K
  |false=>h::K
 |none=>K
def aYq:List XV->Nat->Option XV
 |[],_=>none
 |v::_,0=>some v
 |.d t _::r,off+1=>match m9 t.n (off+1)with
  |true=>aYq r (off+1-t.n)
  |false=>none
 |_::r,off+1=>aYq r off
def ldP(s:XS)(ag:Option Nat)(dst:Option Nat)(x:Operand):XS:=match ag,s.ev x with
 |none,.ptr h off=>match s.lk h with
  |some (.box cs)=>match aYq cs off with
   |some v=>s.put dst v [] []
   |none=>s
  |_=>s
 |_,_=>s
def aAi(s:XS):List XRO->List Hd
 |[]=>[]
 |o::r=>match o.ro.op with
  |.mv x=>aAi (s.put o.ro.dst (s.ev x) [] []) r
  |.nilcS x=>aQd s x (aAi (s.put o.ro.dst (s.ev x) [] []) r)
  |.loadS ag x=>aQd s x (aAi (ldP s ag o.ro.dst x) r)
  |.faddrS _ x=>aQd s x (aAi (s.put o.ro.dst (s.ev x) [] []) r)
  |.iaddr _ x _=>aAi (s.put o.ro.dst (s.ev x) [] []) r
  |.faddr _ x=>aAi (s.put o.ro.dst (s.ev x) [] []) r
  |.iaddrA _ _ x _=>aAi (s.put o.ro.dst (s.ev x) [] []) r
  |op=>match op.sArg with
   |some x=>aQd s x (aAi s r)
   |none=>aAi s r
def bL1(v w:XV)(K:Option R):Option R:=match v,w with
 |.d t x,.d t' y=>match t'.cst t y with
  |some y=>gd? (x=y) K
  |none=>none
 |.slw h t n,.slw h' t' n'=>match h.eqb h',t.beq t' with
  |true,true=>gd? (n=n') K
  |_,_=>none
 |.ptr h o,.ptr h' o'=>match h.eqb h',au o o' with
  |true,true=>K
  |_,_=>none
 |.apt h o,.apt h' o'=>match h.eqb h',au o o' with
  |true,true=>K
  |_,_=>none
 |.rpt h o,.rpt h' o'=>match h.eqb h',au o o' with
  |true,true=>K
  |_,_=>none
 |.mref h,.mref h'=>match h.eqb h' with
  |true=>K
  |false=>none
 |.fln _,.fln _=>K
 |.nl _,.nl _=>K
 |.sc,.sc=>K
 |.c x,.c y=>match cEq x y with
  |true=>K
  |false=>none
 |_,_=>none
theorem bAy[YL]{w:XV}{K:Option R}{r:R}(h:bL1 v w K=some r):(v.fc=w.fc/\v.er=w.er)/\K=some r:=by
 unfold bL1 at h;split at h
 ·split at h
  ·rename_i y hy;obtain⟨e,rfl⟩:=Ty.cst_ok hy;subst e;obtain⟨rfl,h⟩:=aX h;exact⟨⟨rfl,rfl⟩,by assumption⟩
  ·cases h
 ·split at h
  ·rename_i h1 h2;obtain rfl:=Hd.eqb_iff.1 h1;obtain rfl:=Ty.eq_of h2
   replace h:=aX h
   obtain⟨e,h⟩:=h;subst e;exact⟨⟨rfl,rfl⟩,h⟩
  ·cases h
 ·split at h
  ·rename_i h1 h2;obtain rfl:=Hd.eqb_iff.1 h1;obtain rfl:=η h2;exact⟨⟨rfl,rfl⟩,h⟩
  ·cases h
 ·split at h
  ·rename_i h1 h2;obtain rfl:=Hd.eqb_iff.1 h1;obtain rfl:=η h2;exact⟨⟨rfl,rfl⟩,h⟩
  ·cases h
 ·split at h
  ·rename_i h1 h2;obtain rfl:=Hd.eqb_iff.1 h1;obtain rfl:=η h2;exact⟨⟨rfl,rfl⟩,h⟩
  ·cases h
 ·split at h
  ·rename_i h1;obtain rfl:=Hd.eqb_iff.1 h1;exact⟨⟨rfl,rfl⟩,h⟩
  ·cases h
 ·exact⟨⟨rfl,rfl⟩,h⟩
 ·exact⟨⟨rfl,rfl⟩,h⟩
 ·exact⟨⟨rfl,rfl⟩,h⟩
 ·split at h
  ·rename_i h1;obtain rfl:=bG6 h1;exact⟨⟨rfl,rfl⟩,h⟩
  ·cases h
 ·cases h
def bAl:List XV->List XV->Option R->Option R
 |[],[],K=>K
 |v::vs,w::ws,K=>bL1 v w (bAl vs ws K)
 |_,_,_=>none
theorem aWi[YL]{r:R}:∀{vs ws:List XV} {K:Option R},bAl vs ws K=some r->XV.erL vs=XV.erL ws/\K=some r
 |[],[],_,h=>⟨rfl,h⟩
 |v::vs,w::ws,K,h=>by
  obtain⟨⟨_,e⟩,h⟩:=bAy (K:=bAl vs ws K) h;obtain⟨e2,h⟩:=aWi h;exact⟨by show v.er::XV.erL vs=w.er::XV.erL ws;rw[e,e2],h⟩
 |[],_::_,_,h=>by cases h
 |_::_,[],_,h=>by cases h
def eqX(v w:XV)(K:Option R):Option R:=match v,w with
 |.clo f vs,.clo f' ws=>match au f f' with
  |true=>bAl vs ws K
  |false=>none
 |v,w=>bL1 v w K
theorem bNp[YL]{w:XV}{K:Option R}{r:R}(h:eqX v w K=some r):v.fc=w.fc/\K=some r:=by
 unfold eqX at h;split at h
 ·split at h
  ·rename_i hf;obtain rfl:=η hf;obtain⟨e,h⟩:=aWi h;exact⟨by show[AV.clo _ (XV.erL _)]=[AV.clo _ (XV.erL _)];rw[e],h⟩
  ·cases h
 ·obtain⟨⟨e,_⟩,h⟩:=bAy h;exact⟨e,h⟩
def bKx:List XV->List XV->Option R->Option R
 |[],[],K=>K
 |v::vs,w::ws,K=>eqX v w (bKx vs ws K)
 |_,_,_=>none
theorem aZy[YL]{r:R}:∀{vs ws:List XV} {K:Option R},bKx vs ws K=some r->XV.fcL vs=XV.fcL ws/\K=some r
 |[],[],_,h=>⟨rfl,h⟩
 |v::vs,w::ws,K,h=>by
  obtain⟨e,h⟩:=bNp (K:=bKx vs ws K) h;obtain⟨e2,h⟩:=aZy h;exact⟨by show v.fc++XV.fcL vs=w.fc++XV.fcL ws;rw[e,e2],h⟩
 |[],_::_,_,h=>by cases h
 |_::_,[],_,h=>by cases h
def bPb(b c:Option XB)(K:Option R):Option R:=match b,c with
 |some (.box vs),some (.box ws)=>bKx vs ws K
 |some (.row mt t xs),some (.row mt' t' ys)=>match mt==mt',(Ty.sl t').cst (.sl t) ys with
  |true,some ys=>gd? (xs=ys) K
  |_,_=>none
 |some (.arr mt n k x),some (.arr mt' n' k' y)=>match mt==mt',(Ty.ar n' k').cst (.ar n k) y with
  |true,some y=>gd? (x=y) K
  |_,_=>none
 |some (.rb mt t x),some (.rb mt' t' y)=>match mt==mt',t'.cst t y with
  |true,some y=>gd? (x=y) K
  |_,_=>none
 |_,_=>none
theorem bL3[YL]{c:Option XB}{K:Option R}{r:R}(h:bPb b c K=some r):b.map XB.er=c.map XB.er/\K=some r:=by
 unfold bPb at h;split at h
 ·obtain⟨e,h⟩:=aZy h;exact⟨congrArg (fun l=>some (Blk.box l)) e,h⟩
 ·split at h
  ·rename_i ys h1 hy;obtain⟨e,hy⟩:=Ty.cst_ok hy;cases e;cases hy
   replace h:=aX h
   obtain⟨e,h⟩:=h;cases e;exact⟨by rw[eq_of_beq h1],h⟩
  ·cases h
 ·split at h
  ·rename_i y h1 hy;obtain⟨e,hy⟩:=Ty.cst_ok hy;cases e;cases hy
   replace h:=aX h
   obtain⟨e,h⟩:=h;cases e;exact⟨by rw[eq_of_beq h1],h⟩
  ·cases h
 ·split at h
  ·rename_i y h1 hy;obtain⟨e,hy⟩:=Ty.cst_ok hy;subst e;cases hy
   replace h:=aX h
   obtain⟨e,h⟩:=h;cases e;exact⟨by rw[eq_of_beq h1],h⟩
  ·cases h
 ·cases h
def aRs(s s':XS):List Hd->Option R->Option R
 |[],K=>K
 |h::r,K=>bPb (s.lk h) (s'.lk h) (aRs s s' r K)
theorem aPk[YL]{s s':XS}{r:R}:∀{hs:List Hd} {K:Option R},aRs s s' hs K=some r->aOw true hs s.er s'.er/\K=some r
 |[],_,h=>⟨fun _ h=>(by cases h),h⟩
 |x::hs,K,h=>by
  obtain⟨e,h⟩:=bL3 (K:=aRs s s' hs K) h;obtain⟨e2,h⟩:=aPk h;refine⟨fun y hy=>?_,h⟩;rcases bo.1 hy with rfl|hy
  ·show s'.er.lk y=s.er.lk y;rw[aQ,aQ,e]
  ·exact e2 y hy
def bEs(ld:Bool)(s s':XS)(hs:List Hd)(K:Option R):Option R:=match ld with
 |true=>aRs s s' hs K
 |false=>match aZq s s' hs with
  |true=>K
  |false=>none
theorem bFj[YL]{ld:Bool}{K:Option R}{r:R}(h:bEs ld s s' hs K=some r):aOw ld hs s.er s'.er/\K=some r:=by
 unfold bEs at h;split at h
 ·exact aPk h
 ·split at h
  ·rename_i e;exact⟨aVj e,h⟩
  ·cases h
def aFg(s:XS)(o:XRO)(K:XS->Option R):Option R:=match o.ro.op with
 |.loadS ag x=>w1 s x fun v=>match xhd v with
  |some _=>aZn s ag (fun a=>K (s.put o.ro.dst a [] [])) v
  |none=>none
 |.faddrS off x=>w1 s x fun v=>match xhd v,yP s v with
  |some _,true=>aSf off (fun a=>K (s.put o.ro.dst a [] [])) v
  |_,_=>none
 |.lenS str x=>w1 s x fun v=>match xhd v,yP s v,bHp str v with
  |some _,true,some m=>K (s.put o.ro.dst (.d (.i .i64) (m:Int)) [] [])
  |_,_,_=>none
 |.nilcS x=>w1 s x fun v=>match xhd v,yP s v with
  |some _,true=>bAi (fun a=>K (s.put o.ro.dst a [] [])) v
  |_,_=>none
 |_=>none
theorem aJh(s:XS)(dst:Option Nat)(v:XV)(h:Hd):(s.put dst v [] []).lk h=s.lk h:=by
 cases h with
 |B i=>rfl
 |O i=>show bB (s.own++[]) i=bB s.own i;rw[bb]
theorem aCh[YL]{o:XRO}{K:XS->Option R}{r:R}(h:aFg s o K=some r)(hK:∀s',(∀h,s'.lk h=s.lk h)->K s'=some r->KP s'.er):rD P s.er o.ro KP:=by
 have hput:∀v,K (s.put o.ro.dst v [] [])=some r->KP (s.er.put o.ro.dst v.er [] []):=fun v h=>by have:=hK _ (aJh s _ v) h;rw[dD]at this;exact this
 unfold aFg at h;split at h
 ·rename_i ag x e;obtain⟨h,e1⟩:=aM h;split at h
  ·rename_i hd hh;unfold rD;rw[e];show(s.er.ev x).hd?.isSome=true/\qB s.er.lk ag _ (s.er.ev x);rw[e1,aMa hh];exact⟨rfl,aKt h fun v h=>hput v h⟩
  ·cases h
 ·rename_i off x e;obtain⟨h,e1⟩:=aM h;split at h
  ·rename_i hd hh hl;unfold rD;rw[e];show(s.er.ev x).hd?.isSome=true/\AV.live s.er.lk (s.er.ev x)=true/\_;rw[e1,aMa hh];exact⟨rfl,jC hl,aPn h (KP:=fun a=>KP (s.er.put o.ro.dst a [] [])) fun v h=>hput v h⟩
  ·cases h
 ·rename_i str x e;obtain⟨h,e1⟩:=aM h;split at h
  ·rename_i hd m hh hl hm;unfold rD;rw[e];show(s.er.ev x).hd?.isSome=true/\AV.live s.er.lk (s.er.ev x)=true/\_;rw[e1,aMa hh];exact⟨rfl,jC hl,m,aRr hm,hput _ h⟩
  ·cases h
 ·rename_i x e;obtain⟨h,e1⟩:=aM h;split at h
  ·rename_i hd hh hl;unfold rD;rw[e];show(s.er.ev x).hd?.isSome=true/\AV.live s.er.lk (s.er.ev x)=true/\_;rw[e1,aMa hh];exact⟨rfl,jC hl,aUi h (KP:=fun a=>KP (s.er.put o.ro.dst a [] [])) fun v h=>hput v h⟩
  ·cases h
 ·cases h
def aW3(s:XS)(o:XRO)(K:XS->Option R):Option R:=match o.ro.guard with
 |none=>aFg s o K
 |some (t,want)=>match aR s.env t with
  |.d .b c=>match want with
   |true=>if? c (aFg (qT s t true) o K) (K ((qT s t false).put o.ro.dst .un [] []))
   |false=>if? c (K ((qT s t true).put o.ro.dst .un [] [])) (aFg (qT s t false) o K)
  |.un=>K (s.put o.ro.dst .un [] [])
  |_=>none
theorem bCe[YL]{o:XRO}{K:XS->Option R}{r:R}(h:aW3 s o K=some r)(hK:∀s',(∀h,s'.lk h=s.lk h)->K s'=some r->KP s'.er):lE P [o.ro] s.er KP:=by
 unfold aW3 at h;unfold lE;split at h
 ·rename_i hg;rw[hg];exact aCh h hK
 ·rename_i t want hg;rw[hg];split at h
  ·rename_i c hc;have ht:s.er.env t=.D (.B c):=by show(aR s.env t).er=_;rw[hc];rfl
   show match s.er.env t with
    |.D (.B c)=>(c=want->_)/\(¬c=want->_)
    |.D (.C (.tuple _))=>_
    |_=>False
   rw[ht];split at h
   ·rcases aQz h with⟨e,h⟩|⟨e,h⟩
    ·have:=aCh (P:=P) h fun s' e=>hK s' e;rw[jT hc e]at this;exact⟨fun _=>this,fun h=>absurd e h⟩
    ·have:=hK _ (fun x=>aJh (qT s t false) _ _ x) h;rw[dD,jT hc e]at this;exact⟨fun h=>dh (e.symm.trans h),fun _=>this⟩
   ·rcases aQz h with⟨e,h⟩|⟨e,h⟩
    ·have:=hK _ (fun x=>aJh (qT s t true) _ _ x) h;rw[dD,jT hc e]at this;exact⟨fun h=>dh (e.symm.trans h),fun _=>this⟩
    ·have:=aCh (P:=P) h fun s' e=>hK s' e;rw[jT hc e]at this;exact⟨fun _=>this,fun h=>absurd e h⟩
  ·rename_i hc;have ht:s.er.env t=.D (.C undef):=by show(aR s.env t).er=_;rw[hc];rfl
   show match s.er.env t with
    |.D (.B c)=>(c=want->_)/\(¬c=want->_)
    |.D (.C (.tuple _))=>_
    |_=>False
   rw[ht];have:=hK _ (fun x=>aJh s _ _ x) h;rw[dD]at this;exact this
  ·cases h
def bSp:ROp->Bool
 |.loadS _ _=>true
 |.faddrS _ _=>true
 |.nilcS _=>true
 |.lenS _ _=>true
 |_=>false
def bAr:Bool->List XRO->Bool
 |true,[]=>true
 |_,_=>false
theorem bHh{l:Bool}{os:List XRO}(h:bAr l os=true):¬(l=false\/os.map XRO.ro≠[]):=by
 unfold bAr at h;split at h
 ·simp
 ·cases h
def aPh(T:List Sig)(ld:Bool)(hs:List Hd)(lst:Bool):List XRO->XS->(XS->Option R)->Option R
 |[],s,K=>K s
 |o::r,s,K=>match ldX hs s o.ro.op with
  |true=>match bSp o.ro.op with
   |true=>aW3 s o fun s'=>aPh T ld hs lst r s' K
   |false=>match o.ro.op.ht,bAr lst r with
    |true,false=>aEi T [o] s fun s'=>bEs ld s s' hs (aPh T ld hs lst r s' K)
    |_,_=>aEi T [o] s fun s'=>aPh T ld hs lst r s' K
  |false=>none
theorem aDl[YL]{P:Program}{T:List Sig}(hT:kJ P T){ld:Bool}{hs:List Hd}{lst:Bool}{r:R}:∀{os:List XRO} {s:XS} {K:XS->Option R},aPh T ld hs lst os s K=some r->∀{KP:AState->Prop},(∀s',K s'=some r->KP s'.er)->aY7 P ld hs lst (os.map XRO.ro) s.er KP
 |[],s,K,h,KP,hK=>hK _ h
 |o::os,s,K,h,KP,hK=>by
  unfold aPh at h;split at h
  ·rename_i e;split at h
   ·refine⟨aYg e,bCe h fun s' e2 h=>⟨fun _ _ x hx=>?_,aDl hT h hK⟩⟩;rw[aQ,aQ,e2];exact keepB.refl _ _
   ·split at h
    ·refine⟨aYg e,lI (os:=[o]) hT h fun s' h=>?_⟩;obtain⟨e2,h⟩:=bFj h;exact⟨fun _ _=>e2,aDl hT h hK⟩
    ·rename_i hn;refine⟨aYg e,lI (os:=[o]) hT h fun s' h=>⟨fun e1 e2=>?_,aDl hT h hK⟩⟩;cases e3:bAr lst os with
     |true=>exact absurd e2 (bHh e3)
     |false=>exact absurd e3 (hn e1)
  ·cases h
theorem AV.flat_renE{ψ:Hd->Hd}:∀(a:AV),AV.flat (AV.ren ψ a)=AV.flat a:=by
 intro a;apply AV.rec (motive_1:=fun a=>AV.flat (AV.ren ψ a)=AV.flat a) (motive_2:=fun as=>AV.flatL (AV.renL ψ as)=AV.flatL as)
 all_goals intros
 all_goals simp_all[AV.flat,AV.ren,AV.flatL,AV.renL]
def aMg(T:List Sig)(dr:Bool):List XRO->XS->(XS->Option R)->(Value->XS->Option R)->Option R
 |[],s,K,_=>K s
 |o::r,s,K,Kp=>match o.ro.op with
  |.callP f args=>match o.ro.guard with
   |none=>w1 s f fun vf=>wL s args fun vs=>aXk T s vs (fun v nbs fz=>match dr,flX v,nbs with
    |false,_,_=>aMg T dr r (s.put o.ro.dst v nbs fz) K Kp
    |true,true,[]=>aMg T dr r (s.put o.ro.dst v nbs fz) K Kp
    |true,_,_=>none) (fun pv=>Kp pv (s.put none .any [] [])) vf
   |some _=>none
  |.pan x=>match o.ro.guard with
   |none=>w1 s x fun v=>match v with
    |.c (.iface t u)=>Kp (.iface t u) s
    |_=>none
   |some _=>none
  |_=>aEi T [o] s fun s'=>aMg T dr r s' K Kp
theorem aAq[YL]{P:Program}{T:List Sig}(hT:kJ P T){dr:Bool}{r:R}{Pn:Value->AState->Prop}:∀{os:List XRO} {s:XS} {K:XS->Option R} {Kp:Value->XS->Option R},aMg T dr os s K Kp=some r->∀{KP:AState->Prop},(∀s',K s'=some r->KP s'.er)->(∀pv s',Kp pv s'=some r->Pn pv s'.er)->tS P dr (os.map XRO.ro) s.er KP Pn
 |[],s,K,_,h,KP,hK,_=>hK _ h
 |o::os,s,K,Kp,h,KP,hK,hP=>by
  unfold aMg at h;show tS P dr (o.ro::os.map XRO.ro) s.er KP Pn;unfold tS;split at h
  ·rename_i f args e;rw[e];split at h
   ·rename_i hg;refine⟨hg,?_⟩;obtain⟨h,e1⟩:=aM h;obtain⟨vs,h,e2⟩:=aNi h;obtain⟨fn,caps,h1,h2⟩:=bB2 hT h (KP:=fun a nbs fz=>(dr=true->AV.flat a=true/\nbs=[])/\tS P dr (os.map XRO.ro) (s.er.put o.ro.dst a nbs fz) KP Pn) fun v nbs fz h=>by
     rw[<-dD];split at h
     ·exact⟨fun h=>dh h,aAq hT h hK hP⟩
     ·exact⟨fun _=>⟨(aYl v).trans (by assumption),rfl⟩,aAq hT h hK hP⟩
     ·cases h
    refine⟨fn,caps,e1.trans h1,?_⟩;rw[e2];rcases h2 with⟨rr,nbs,h2,h3,h4⟩|⟨pv,h2,h3⟩
    ·exact .inl ⟨rr,nbs,fun hd=>by
      obtain⟨a1,a2⟩:=h3 hd;rw[AV.flat_renE]at a1;exact⟨a1,jd.1 a2⟩,h2,h4⟩
    ·refine .inr ⟨pv,h2,?_⟩;have:=hP _ _ h3;rw[dD]at this;exact this
   ·cases h
  ·rename_i x e;rw[e];split at h
   ·rename_i hg;refine⟨hg,?_⟩;obtain⟨h,e1⟩:=aM h;split at h
    ·rename_i t u hv;rw[hv]at e1;exact⟨t,u,e1,hP _ _ h⟩
    ·cases h
   ·cases h
  ·rename_i n1 n2;split
   ·rename_i f args e;exact absurd e (n1 f args)
   ·rename_i x e;exact absurd e (n2 x)
   ·exact lI (os:=[o]) hT h fun s' h=>aAq hT h hK hP
def aZx:List XRO->XS->XS
 |[],s=>s
 |o::os,s=>aZx os (s.put o.ro.dst .any [] [])
theorem aU8[YL]:∀(os:List XRO) (s:XS),(aZx os s).er=aCc (os.map XRO.ro) s.er
 |[],_=>rfl
 |o::os,s=>by show(aZx os _).er=aCc (os.map XRO.ro) (s.er.put o.ro.dst .any [] []);rw[aU8 os,dD];rfl
end
section
variable{R:Type}
end
section
variable{R:Type}
instance rtyDeq:(ts:List Ty)->DecidableEq (rty ts)
 |[]=>inferInstanceAs (DecidableEq Unit)
 |[t]=>t.deq
 |t::t2::ts=>@instDecidableEqProd _ _ t.deq (rtyDeq (t2::ts))
instance rtDeq:(l:List XS)->DecidableEq (RT l)
 |[]=>inferInstanceAs (DecidableEq Unit)
 |[m]=>rtyDeq m.tys
 |m::m2::l=>@instDecidableEqSum _ _ (rtyDeq m.tys) (rtDeq (m2::l))
inductive XC where
 |skip
 |reg (dr:Bool) (os:List XRO)
 |regS (lst:Bool) (os:List XRO)
 |regP (os:List XRO)
 |regDP (os:List XRO)
 |regN (os:List XRO)
 |regM (os:List XRO) (x:MA)
 |seq (a b:XC)
 |join (pure:Bool) (m:XS) (a b:XC)
 |cond (c:Operand) (a b:XC)
 |block (id:Nat) (b:XC)
 |loop (m:XS) (b:XC)
 |exit (id:Nat)
 |scope (b:XC)
 |ret
 |regY (os:List XRO)
 |rangeF (N0:Nat) (g:Operand) (ps:Array Tmp) (ca cb:Code) (f N2:Nat) (a b it:XC)
 |bad (rc:RCode)
def XC.rc:XC->RCode
 |.skip=>.skip
 |.reg dr os=>.reg dr (os.map XRO.ro)
 |.regS lst os=>.regS lst (os.map XRO.ro)
 |.regP os=>.regP (os.map XRO.ro)
 |.regDP os=>.regDP (os.map XRO.ro)
 |.regN os=>.regN (os.map XRO.ro)
 |.regM os x=>.regM (os.map XRO.ro) x
 |.seq a b=>.seq a.rc (.wkr b.rc)
 |.join _ _ a b=>.seq a.rc (.wkr b.rc)
 |.cond c a b=>.cond c a.rc b.rc
 |.block id b=>.block id b.rc
 |.loop _ b=>.loop b.rc
 |.exit id=>.exit id
 |.scope b=>.scope b.rc
 |.ret=>.ret
 |.regY os=>.regY (os.map XRO.ro)
 |.rangeF N0 g ps ca cb _ _ _ _ _=>.sem N0 (.rangeFunc g ps ca cb)
 |.bad rc=>rc
def XC.Wf(P:Program):XC->Prop
 |.seq a b=>a.Wf P/\b.Wf P
 |.join _ _ a b=>a.Wf P/\b.Wf P
 |.cond _ a b=>a.Wf P/\b.Wf P
 |.block _ b=>b.Wf P
 |.loop _ b=>b.Wf P
 |.scope b=>b.Wf P
 | .rangeF N0 g _ ca cb f N2 a b it => (∃ fl flB fn c2, P.funcs[f]? = some fn /\ fn.body = some c2 /\ (fn.name == "runtime.NumGoroutine") = false /\ P.follows .mixedOrders = true /\ aF P fl N2 c2 = some it.rc /\ aF P flB N0 ca = some a.rc /\ aF P flB N0 cb = some b.rc /\
   fn.results=#[]/\g.inN N0=true/\fn.ntmps=N2)/\a.Wf P/\b.Wf P/\it.Wf P
 |_=>True
def bCn(f:XS->Option R)(K:Exit->XS->Option R):Exit->XS->Option R
 |.normal,s=>f s
 |e,s=>K e s
def aXp(id:Nat)(K:Exit->XS->Option R):Exit->XS->Option R
 |.exit i,s=>match au i id with
  |true=>K .normal s
  |false=>K (.exit i) s
 |e,s=>K e s
def bF6(K:Exit->XS->Option R):Exit->XS->Option R
 |.goto _,_=>none
 |e,s=>K e s
def vV{α β:Type}(a:Option β):Option (β⊕α):=match a with
 |some r=>some (.inl r)
 |none=>none
def jn?{α β:Type}(a:Option (β⊕α))(f:α->Option β):Option β:=match a with
 |some (.inl r)=>some r
 |some (.inr x)=>f x
 |none=>none
theorem bM4{β:Type}{a:Option β}{r:β⊕α}(h:vV a=some r):∃x,a=some x/\r=.inl x:=by
 unfold vV at h;split at h
 ·cases h;exact⟨_,rfl,rfl⟩
 ·cases h
theorem bUl{β:Type}{a:Option (β⊕α)}{f:α->Option β}{r:β}(h:jn? a f=some r):a=some (.inl r)\/∃x,a=some (.inr x)/\f x=some r:=by
 unfold jn? at h;split at h
 ·cases h;exact .inl rfl
 ·exact .inr ⟨_,rfl,h⟩
 ·cases h
def bMz(m:XS)(K:Exit->XS->Option R):Exit->XS->Option (R⊕rty m.tys)
 |.normal,s=>rd m s fun v=>some (.inr (toR m.tys v))
 |e,s=>vV (K e s)
def bF8(m:XS):Exit->XS->Option (rty m.tys)
 |.normal,s=>rd m s fun v=>some (toR m.tys v)
 |_,_=>none
def bNq(s:XS)(c:Operand)(q:Bool):XS:=match c with
 |.tmp t=>qT s t q
 |_=>s
def aL(ts:List Ty)(f:fty ts R->fty ts R):Nat->fty ts R
 |0=>cuN ts
 |n+1=>f (aL ts f n)
where cuN (ts:List Ty):fty ts R:=cuF ts fun _=>none
theorem bPk(ts:List Ty)(v:tup ts):apF ts (aL.cuN (R:=R) ts) v=none:=by show apF ts (cuF ts _) v=none;rw[dR]
structure YX where
 plain:Bool
 f:{R:Type}->[DecidableEq R]->List XV->XS->(Bool->XS->Option R)->Option R
def noX:YX:=⟨true,fun _ _ _=>none⟩
def qC:YX:=⟨false,fun _ _ _=>none⟩
def bIj(s:XS)(o:XRO):Option (List XV):=match o.ro.op with
 |.callE f args=>match s.ev f with
  |.yld=>some (args.map s.ev)
  |_=>none
 |_=>none
def yQ[DecidableEq R](T:List Sig)(Y:YX):List XRO->XS->(XS->Option R)->Option R
 |[],s,K=>K s
 |o::r,s,K=>match bIj s o with
  |none=>aEi T [o] s fun s'=>yQ T Y r s' K
  |some args=>match o.ro.guard with
   |none=>Y.f args s fun c s'=>yQ T Y r (s'.put o.ro.dst (.d .b c) [] []) K
   |some (t,want)=>match aR s.env t with
    |.d .b x=>match want with
     |true=>if? x (Y.f args s fun c s'=>yQ T Y r (s'.put o.ro.dst (.d .b c) [] []) K) (yQ T Y r (s.put o.ro.dst .un [] []) K)
     |false=>if? x (yQ T Y r (s.put o.ro.dst .un [] []) K) (Y.f args s fun c s'=>yQ T Y r (s'.put o.ro.dst (.d .b c) [] []) K)
    |.un=>yQ T Y r (s.put o.ro.dst .un [] []) K
    |_=>none
mutual
def XV.cln:XV->Bool
 |.yld=>false
 |.agg cs=>XV.clnL cs
 |.tup cs=>XV.clnL cs
 |.clo _ cs=>XV.clnL cs
 |_=>true
def XV.clnL:List XV->Bool
 |[]=>true
 |v::r=>v.cln&&XV.clnL r
end
def XB.cln:XB->Bool
 |.box cs=>XV.clnL cs
 |_=>true
def bJ2:List (Nat×XV)->Bool
 |[]=>true
 |(_,v)::r=>v.cln&&bJ2 r
def aXg:List (Option XB)->Bool
 |[]=>true
 |none::r=>aXg r
 |some b::r=>b.cln&&aXg r
def XS.cln(s:XS):Bool:=bJ2 s.env&&aXg s.bs&&aXg s.own
def bCl(n:Nat):List (Nat×XV)->List (Nat×XV)
 |[]=>[]
 |(k,v)::r=>(n+k,v)::bCl n r
def aL5(n:Nat):List (Nat×XV)->List (Nat×XV)
 |[]=>[]
 |(k,v)::r=>match m9 n k with
  |true=>(k-n,v)::aL5 n r
  |false=>aL5 n r
def ltE(n:Nat):List (Nat×XV)->List (Nat×XV)
 |[]=>[]
 |(k,v)::r=>match ny k n with
  |true=>(k,v)::ltE n r
  |false=>ltE n r
def noE(n:Nat):List (Nat×XV)->List (Nat×XV)
 |[]=>[]
 |(k,v)::r=>match au k n with
  |true=>noE n r
  |false=>(k,v)::noE n r
def frE:Nat->Nat->List XV->List (Nat×XV)
 |_,0,_=>[]
 |k,n+1,[]=>(k,.un)::frE (k+1) n []
 |k,n+1,v::vs=>(k,v)::frE (k+1) n vs
def bAk:List Nat->List XV->List (Nat×XV)->List (Nat×XV)
 |p::ps,x::xs,l=>bAk ps xs ((p,x)::l)
 |_,_,l=>l
def aWx(N2:Nat)(caps:List XV)(s:XS):XS:={s with env:=frE 0 N2 (.yld::caps)++(N2,.gst .go)::bCl (N2+1) s.env}
def aMl(N0 N2:Nat)(s:XS):XS:={s with env:=noE N0 (aL5 (N2+1) s.env)}
def bAc(N0 N2:Nat)(ps:List Nat)(args:List XV)(s:XS):XS:={s with env:=ltE N0 (bAk ps args (aL5 (N2+1) s.env))++bCl (N0+1) s.env}
def xB(N0 N2:Nat)(c:GX)(s:XS):XS:={s with env:=(N2,.gst c)::aL5 (N0+1) s.env}
def bTx(f:XS->Option R):Exit->XS->Option R
 |.normal,s=>f s
 |_,_=>none
def bdX(N0 N2:Nat)(K:Bool->XS->Option R):Exit->XS->Option R
 |.normal,s=>K true (xB N0 N2 .go s)
 |.exit id,s=>K false (xB N0 N2 (.exit id) s)
 |.ret,s=>K false (xB N0 N2 .ret s)
 |_,_=>none
def bI7(N0 N2:Nat)(K:Exit->XS->Option R)(s:XS):Option R:=match(aMl N0 N2 s).cln,aR s.env N2 with
 |true,.gst .go=>K .normal (aMl N0 N2 s)
 |true,.gst (.exit id)=>K (.exit id) (aMl N0 N2 s)
 |true,.gst .ret=>K .ret (aMl N0 N2 s)
 |_,_=>none
def kIt(N0 N2:Nat)(K:Exit->XS->Option R):Exit->XS->Option R
 |.normal,s=>bI7 N0 N2 K s
 |.ret,s=>bI7 N0 N2 K s
 |_,_=>none
def eB(N:Nat)(T:List Sig):XC->YX->{R:Type}->[DecidableEq R]->XS->(Exit->XS->Option R)->Option R
 |.skip,_,_,_,s,K=>K .normal s
 |.reg _ os,_,_,_,s,K=>aEi T os s (K .normal)
 |.regP os,_,_,_,s,K=>aMg T false os s (K .normal) fun v s'=>K (.panic [{v:=v,recovered:=false}]) s'
 |.regDP os,_,_,_,s,K=>aMg T true os s (K .normal) fun v s'=>K (.panic [{v:=v,recovered:=false}]) (aZx os s')
 |.regS lst os,_,_,_,s,K=>aPh T (bG0 (os.map XRO.ro)) (aAi s os) lst os s (K .normal)
 |.regN _,_,_,_,_,_=>none
 |.regM _ _,_,_,_,_,_=>none
 |.regY os,Y,_,_,s,K=>yQ T Y os s (K .normal)
 |.rangeF N0 g ps _ _ f N2 a b it,Y,_,_,s,K=>match Y.plain,s.ev g with
  |true,.clo f' caps=>match au f f',XV.clnL caps,s.cln,ny caps.length N2 with
   | true,true,true,true=>eB N T it ⟨false,fun args s K=>match au args.length ps.toList.length,aR s.env N2 with
     |true,.gst .go=>eB N T a qC (bAc N0 N2 ps.toList args s) (bTx fun s'=>eB N T b qC s' (bdX N0 N2 K))
     |_,_=>none⟩ (aWx N2 caps s) (kIt N0 N2 K)
   |_,_,_,_=>none
  |_,_=>none
 |.seq a b,Y,_,_,s,K=>eB N T a Y s (bCn (fun s'=>eB N T b Y s' K) K)
 |.join true m a b,Y,_,_,s,K=>bd? (eB N T a Y (R:=rty m.tys) s (bF8 m)) fun v=>eB N T b Y (m.fill (ofR m.tys v)) K
 |.join false m a b,Y,R,_,s,K=>jn? (eB N T a Y (R:=R⊕rty m.tys) s (bMz m K)) fun v=>eB N T b Y (m.fill (ofR m.tys v)) K
 |.cond c a b,Y,_,_,s,K=>w1 s c fun v=>match v with
  |.d .b x=>if? x (eB N T a Y (bNq s c true) K) (eB N T b Y (bNq s c false) K)
  |.ab=>ab? (eB N T a Y s K) (eB N T b Y s K)
  |_=>none
 |.block id b,Y,_,_,s,K=>eB N T b Y s (aXp id K)
 |.loop m b,Y,_,_,s,K=>rd m s fun v=>apF m.tys (aL m.tys (fun rec=>cuF m.tys fun v=>eB N T b Y (m.fill v) (bCn (fun s'=>rd m s' (apF m.tys rec)) K)) N) v
 |.exit id,_,_,_,s,K=>K (.exit id) s
 |.scope b,Y,_,_,s,K=>eB N T b Y s (bF6 K)
 |.ret,_,_,_,s,K=>K .ret s
 |.bad _,_,_,_,_,_=>none
theorem aY1[YL]{c:Operand}{x:Bool}(h:s.ev c=.d .b x)(e:x=q):(bNq s c q).er=s.er:=by
 cases c with
 |tmp t=>exact jT h e
 |_=>rfl
mutual
theorem bDu(x y:YL):∀{v:XV},v.cln=true->@XV.er x v=@XV.er y v
 |.agg cs,h=>congrArg AV.agg (aJf x y h)
 |.tup cs,h=>congrArg AV.tup (aBb x y h)
 |.clo f cs,h=>congrArg (AV.clo f) (aBb x y h)
 |.yld,h=>by cases h
 |.d _ _,_|.any,_|.un,_|.ab,_|.ptr _ _,_|.ept _ _ _ _,_|.apt _ _,_|.rpt _ _,_|.rpa _ _ _,_|.rsl _ _ _ _,_|.pa _ _ _,_|.epa _ _ _ _ _,_|.mref _,_|.itr _ _,_|.rop _ _ _,_|.fl _ _,_|.fln _,_|.nl _,_|.sl _ _ _ _,_|.asl _ _ _,_|.slw _ _ _,_|.sc,_|.c _,_|.gst _,_=>rfl
theorem bP7(x y:YL):∀{v:XV},v.cln=true->@XV.fc x v=@XV.fc y v
 |.agg cs,h=>aJf x y h
 |.tup cs,h=>congrArg (fun l=>[AV.tup l]) (aBb x y h)
 |.clo f cs,h=>congrArg (fun l=>[AV.clo f l]) (aBb x y h)
 |.yld,h=>by cases h
 |.d _ _,_|.any,_|.un,_|.ab,_|.ptr _ _,_|.ept _ _ _ _,_|.apt _ _,_|.rpt _ _,_|.rpa _ _ _,_|.rsl _ _ _ _,_|.pa _ _ _,_|.epa _ _ _ _ _,_|.mref _,_|.itr _ _,_|.rop _ _ _,_|.fl _ _,_|.fln _,_|.nl _,_|.sl _ _ _ _,_|.asl _ _ _,_|.slw _ _ _,_|.sc,_|.c _,_|.gst _,_=>rfl
theorem aBb(x y:YL):∀{l:List XV},XV.clnL l=true->@XV.erL x l=@XV.erL y l
 |[],_=>rfl
 |v::l,h=>by have h:(v.cln&&XV.clnL l)=true:=h;rw[μ]at h;show@XV.er x v::@XV.erL x l=@XV.er y v::@XV.erL y l;rw[bDu x y h.1,aBb x y h.2]
theorem aJf(x y:YL):∀{l:List XV},XV.clnL l=true->@XV.fcL x l=@XV.fcL y l
 |[],_=>rfl
 |v::l,h=>by have h:(v.cln&&XV.clnL l)=true:=h;rw[μ]at h;show@XV.fc x v++@XV.fcL x l=@XV.fc y v++@XV.fcL y l;rw[bP7 x y h.1,aJf x y h.2]
end
theorem aUc(x y:YL)(i:Nat):∀{l:List (Nat×XV)},bJ2 l=true->@XV.er x (aR l i)=@XV.er y (aR l i)
 |[],_=>rfl
 |(k,v)::l,h=>by
  have h:(v.cln&&bJ2 l)=true:=h;rw[μ]at h;show@XV.er x (if au i k=true then v else aR l i)=@XV.er y (if au i k=true then v else aR l i);split
  ·exact bDu x y h.1
  ·exact aUc x y i h.2
theorem bN0(x y:YL):∀{b:XB},b.cln=true->@XB.er x b=@XB.er y b
 |.box cs,h=>congrArg Blk.box (aJf x y h)
 |.row _ _ _,_|.rb _ _ _,_|.arr _ _ _ _,_|.mp _ _ _ _ _ _,_|.it,_|.sb _ _ _,_=>rfl
theorem aEx(x y:YL):∀{l:List (Option XB)} {i:Nat},aXg l=true->(bB l i).map (@XB.er x)=(bB l i).map (@XB.er y)
 |[],_,_=>rfl
 |none::l,0,_=>rfl
 |some b::l,0,h=>by
  have h:(b.cln&&aXg l)=true:=h;rw[μ]at h;show some (@XB.er x b)=some (@XB.er y b);rw[bN0 x y h.1]
 |none::l,i+1,h=>aEx x y (l:=l) (i:=i) h
 |some b::l,i+1,h=>by have h:(b.cln&&aXg l)=true:=h;rw[μ]at h;exact aEx x y (l:=l) (i:=i) h.2
theorem aQ4(x y:YL)(h:s.cln=true):@XS.er x s=@XS.er y s:=by
 unfold XS.cln at h;rw[μ,μ]at h;unfold XS.er;congr 1
 ·funext i;exact aUc x y i h.1.1
 ·funext i;exact aEx x y h.1.2
 ·funext i;exact aEx x y h.2
theorem bO6[YL]{l:Nat}(h:v.er=.yld l):v=.yld:=by
 cases v with
 |yld=>rfl
 |d t x=>exfalso;cases t<;>cases h
 |_=>exfalso;cases h
theorem bQs[YL]{o:XRO}{args:List XV}(h:bIj s o=some args):yst s.er o.ro=some (YL.l,XV.erL args):=by
 unfold bIj at h;unfold yst;split at h
 ·rename_i f as e;rw[e];show(match s.er.ev f with|.yld l=>some (l,as.map s.er.ev)|_=>none)=_;split at h
  ·rename_i e2;cases h;have:s.er.ev f=.yld YL.l:=by rw[aDu s rfl,e2];rfl
   rw[this];show some (YL.l,as.map s.er.ev)=_;congr 2
   induction as with
   |nil=>rfl
   |cons a as ih=>
    show s.er.ev a::as.map s.er.ev=(s.ev a).er::XV.erL (as.map s.ev);rw[aDu s rfl];congr 1;clear e ih this
    induction as with
    |nil=>rfl
    |cons b as ih=>
     show s.er.ev b::as.map s.er.ev=(s.ev b).er::XV.erL (as.map s.ev);rw[aDu s rfl,ih]
  ·cases h
 ·cases h
theorem bO0[YL]{o:XRO}(h:bIj s o=none):yst s.er o.ro=none:=by
 unfold bIj at h;unfold yst;split
 ·rename_i f as e;rw[e]at h;simp only at h;split
  ·rename_i l e2;rw[aDu s rfl]at e2;rw[bO6 e2]at h;cases h
  ·rfl
 ·rfl
def YRel[YL](Yx:YX)(Y:Yh):Prop:=(Yx.plain=true->Y.plain=true)/\∀{R:Type} [DecidableEq R] {r:R} {args:List XV} {s:XS} {K:Bool->XS->Option R},Yx.f args s K=some r->∀{KP:Bool->AState->Prop},(∀c s',K c s'=some r->KP c s'.er)->Y.f YL.l (XV.erL args) s.er KP
theorem YRel.no[YL]:YRel noX noY:=⟨fun h=>h,fun h=>by cases h⟩
theorem YRel.body[YL]:YRel qC iN:=⟨fun h=>h,fun h=>by cases h⟩
theorem aDf[YL]{P:Program}{T:List Sig}(hT:kJ P T){Yx:YX}{Y:Yh}(hY:YRel Yx Y)[DecidableEq R]{r:R}:∀{os:List XRO} {s:XS} {K:XS->Option R},yQ T Yx os s K=some r->∀{KP:AState->Prop},(∀s',K s'=some r->KP s'.er)->tW P Y (os.map XRO.ro) s.er KP
 |[],s,K,h,KP,hK=>hK _ h
 |o::os,s,K,h,KP,hK=>by
  unfold yQ at h;show tW P Y (o.ro::os.map XRO.ro) s.er KP;unfold tW;split at h
  ·rename_i e;rw[bO0 e];exact lI (os:=[o]) hT h fun s' h=>aDf hT hY h hK
  ·rename_i args e;rw[bQs e];have go:∀{h0:Unit},(Yx.f args s fun c s'=>yQ T Yx os (s'.put o.ro.dst (.d .b c) [] []) K)=some r->Y.f YL.l (XV.erL args) s.er fun c s'=>tW P Y (os.map XRO.ro) (s'.put o.ro.dst (.D (.B c)) [] []) KP:=fun h=>hY.2 h fun c s' h=>by have:=aDf hT hY h hK;rw[dD]at this;exact this
   have un:∀{h0:Unit},yQ T Yx os (s.put o.ro.dst .un [] []) K=some r->tW P Y (os.map XRO.ro) (s.er.put o.ro.dst .un [] []) KP:=fun h=>by have:=aDf hT hY h hK;rw[dD]at this;exact this
   simp only;split at h
   ·rename_i hg;rw[hg];exact go (h0:=()) h
   ·rename_i t want hg;rw[hg];simp only;split at h
    ·rename_i x hx;have ht:s.er.env t=.D (.B x):=by show(aR s.env t).er=_;rw[hx];rfl
     rw[ht];split at h
     ·rcases aQz h with⟨e,h⟩|⟨e,h⟩
      ·exact⟨fun _=>go (h0:=()) h,fun h=>absurd e h⟩
      ·exact⟨fun h=>dh (e.symm.trans h),fun _=>un (h0:=()) h⟩
     ·rcases aQz h with⟨e,h⟩|⟨e,h⟩
      ·exact⟨fun h=>dh (e.symm.trans h),fun _=>un (h0:=()) h⟩
      ·exact⟨fun _=>go (h0:=()) h,fun h=>absurd e h⟩
    ·rename_i hx;have ht:s.er.env t=.D (.C (.tuple #[])):=by show(aR s.env t).er=_;rw[hx];rfl
     rw[ht];exact un (h0:=()) h
    ·cases h
theorem aJ5(n t:Nat):∀l,aR (bCl n l) t=if n<=t then aR l (t-n)else .any
 |[]=>by show XV.any=if _ then XV.any else _;split<;>rfl
 |(k,v)::l=>by
  show(if au t (n+k)=true then v else aR (bCl n l) t)=if n<=t then(if au (t-n) k=true then v else aR l (t-n))else .any
  rw[aJ5 n t l];by_cases h:n<=t
  ·rw[if_pos h,if_pos h];have:au t (n+k)=au (t-n) k:=by rw[e7,gw,gw];omega
   rw[this]
  ·rw[if_neg h,if_neg h,if_neg];rw[gw];omega
theorem aDy(n t:Nat):∀l,aR (aL5 n l) t=aR l (n+t)
 |[]=>rfl
 |(k,v)::l=>by
  show aR (match m9 n k with|true=>(k-n,v)::aL5 n l|false=>aL5 n l) t=if au (n+t) k=true then v else aR l (n+t)
  cases h:m9 n k with
  |true=>
   show(if au t (k-n)=true then v else aR (aL5 n l) t)=_;have h:=ez h;have:au t (k-n)=au (n+t) k:=by rw[e7,gw,gw];omega
   rw[this,aDy n t l]
  |false=>
   show aR (aL5 n l) t=_;rw[aDy n t l,if_neg];intro e;have:=η e;have:m9 n k=true:=Nat.ble_eq_true_of_le (by omega);rw[h]at this;cases this
theorem aSs(n t:Nat):∀l,aR (noE n l) t=if t=n then .any else aR l t
 |[]=>by show XV.any=if _ then _ else XV.any;split<;>rfl
 |(k,v)::l=>by
  show aR (match au k n with|true=>noE n l|false=>(k,v)::noE n l) t=if t=n then .any else(if au t k=true then v else aR l t)
  cases h:au k n with
  |true=>
   have h:=η h;show aR (noE n l) t=_;rw[aSs n t l];by_cases e:t=n
   ·rw[if_pos e,if_pos e]
   ·rw[if_neg e,if_neg e,if_neg (fun q=>e ((η q).trans h))]
  |false=>
   show(if au t k=true then v else aR (noE n l) t)=_;rw[aSs n t l];by_cases e:t=n
   ·rw[if_pos e,if_pos e,if_neg];intro q;have:=η q;rw[<-this,e,lg]at h;cases h
   ·rw[if_neg e,if_neg e]
theorem aSp(n t:Nat)(r:List (Nat×XV))(hr:t<=n->aR r t=.any):∀l,aR (ltE n l++r) t=if t<n then aR l t else aR r t
 |[]=>by
  show aR r t=if t<n then XV.any else _
  split
  ·exact hr (by omega)
  ·rfl
 |(k,v)::l=>by
  show aR ((match ny k n with|true=>(k,v)::ltE n l|false=>ltE n l)++r) t=if t<n then(if au t k=true then v else aR l t)else _
  cases h:ny k n with
  |true=>
   show(if au t k=true then v else aR (ltE n l++r) t)=_;rw[aSp n t r hr l];have h:=ez h;by_cases e:t<n
   ·rw[if_pos e,if_pos e]
   ·rw[if_neg e,if_neg e,if_neg];intro q;have:=η q;omega
  |false=>
   show aR (ltE n l++r) t=_;rw[aSp n t r hr l];by_cases e:t<n
   ·rw[if_pos e,if_pos e,if_neg];intro q;have:=η q;have:ny k n=true:=Nat.ble_eq_true_of_le (by omega);rw[h]at this;cases this
   ·rw[if_neg e,if_neg e]
theorem aSe(t:Nat)(r:List (Nat×XV)):∀(n k:Nat) (vs:List XV),aR (frE k n vs++r) t=if k<=t/\t<k+n then vs.getD (t-k) .un else aR r t
 |0,k,vs=>by
  show aR r t=_;rw[if_neg (by omega)]
 |n+1,k,[]=>by
  show(if au t k=true then XV.un else aR (frE (k+1) n []++r) t)=_;rw[aSe t r n (k+1) []];by_cases e:t=k
  ·rw[if_pos (by rw[e,lg]),if_pos (by omega)];simp
  ·rw[if_neg (fun q=>e (η q))];by_cases h:k+1<=t/\t<k+1+n
   ·rw[if_pos h,if_pos (by omega)];simp
   ·rw[if_neg h,if_neg (by omega)]
 |n+1,k,v::vs=>by
  show(if au t k=true then v else aR (frE (k+1) n vs++r) t)=_;rw[aSe t r n (k+1) vs];by_cases e:t=k
  ·rw[if_pos (by rw[e,lg]),if_pos (by omega),e,Nat.sub_self];rfl
  ·rw[if_neg (fun q=>e (η q))];by_cases h:k+1<=t/\t<k+1+n
   ·rw[if_pos h,if_pos (by omega)];have:t-k=(t-(k+1))+1:=by omega
    rw[this];rfl
   ·rw[if_neg h,if_neg (by omega)]
theorem aT4[YL]:∀(l:List XV) (i:Nat),(l.getD i .un).er=(XV.erL l).getD i .un
 |[],i=>by simp only[XV.erL,List.getD_nil];rfl
 |v::l,0=>rfl
 |v::l,i+1=>by have:=aT4 l i;simpa[XV.erL]using this
theorem aV2[YL](t:Nat):∀(ps:List Nat) (xs:List XV) (l:List (Nat×XV)),(aR (bAk ps xs l) t).er=aHr ps (XV.erL xs) (fun i=>(aR l i).er) t
 |[],xs,l=>by cases xs<;>rfl
 |p::ps,[],l=>rfl
 |p::ps,x::xs,l=>by
  show(aR (bAk ps xs ((p,x)::l)) t).er=aHr ps (XV.erL xs) (upd (fun i=>(aR l i).er) p x.er) t;rw[aV2 t ps xs];congr 1;funext i;show(if au i p=true then x else aR l i).er=if i=p then x.er else(aR l i).er
  by_cases e:i=p
  ·rw[if_pos e,if_pos (by rw[e,lg])]
  ·rw[if_neg e,if_neg (fun q=>e (η q))]
theorem aR7[YL]{env:List (Nat×XV)}{f:Nat->AV}(h:∀t,(aR env t).er=f t):({s with env:=env}:XS).er=s.er.withEnv f:=by unfold XS.er AState.withEnv;congr 1;funext t;exact h t
theorem bBp[YL](N2:Nat)(caps:List XV)(s:XS):(aWx N2 caps s).er=aDe N2 YL.l (XV.erL caps) s.er:=aR7 fun t=>by
 rw[aSe];show _=if t<N2 then _ else if t=N2 then _ else(aR s.env (t-N2-1)).er
 by_cases h:t<N2
 ·rw[if_pos (by omega),if_pos h,Nat.sub_zero,aT4];rfl
 ·rw[if_neg (by omega),if_neg h];show(if au t N2=true then XV.gst .go else aR (bCl (N2+1) s.env) t).er=_;by_cases e:t=N2
  ·rw[if_pos e,if_pos (by rw[e,lg])];rfl
  ·rw[if_neg e,if_neg (fun q=>e (η q)),aJ5,if_pos (by omega),Nat.sub_add_eq]
theorem bC0[YL](N0 N2:Nat)(s:XS):(aMl N0 N2 s).er=aA4 N0 N2 s.er:=aR7 fun t=>by
 rw[aSs,aDy];show _=if t=N0 then AV.any else(aR s.env (N2+1+t)).er
 split<;>rfl
theorem aXb[YL](N0 N2:Nat)(ps:List Nat)(args:List XV)(s:XS):(bAc N0 N2 ps args s).er=aQq N0 N2 ps (XV.erL args) s.er:=aR7 fun t=>by
 rw[aSp _ _ _ (fun h=>by rw[aJ5,if_neg (by omega)])];show _=if t<N0 then _ else if t=N0 then AV.any else(aR s.env (t-N0-1)).er
 by_cases h:t<N0
 ·rw[if_pos h,if_pos h,aV2];congr 1;funext i;rw[aDy];rfl
 ·rw[if_neg h,if_neg h,aJ5];by_cases e:t=N0
  ·rw[if_pos e,if_neg (by omega)];rfl
  ·rw[if_neg e,if_pos (by omega),Nat.sub_add_eq]
theorem aC4[YL](N0 N2:Nat)(c:GX)(s:XS):(xB N0 N2 c s).er=aFb N0 N2 c.code s.er:=aR7 fun t=>by
 show(if au t N2=true then XV.gst c else aR (aL5 (N0+1) s.env) t).er=if t=N2 then AV.gst c.code else(aR s.env (N0+1+t)).er
 by_cases e:t=N2
 ·rw[if_pos e,if_pos (by rw[e,lg])];rfl
 ·rw[if_neg e,if_neg (fun q=>e (η q)),aDy]
theorem aRj[YL]:∀(l:List XV),(XV.erL l).length=l.length
 |[]=>rfl
 |_::l=>congrArg (· +1) (aRj l)
def aKa(P:Program)(N:Nat)(T:List Sig)(c:XC):Prop:=∀(y:YL) (Yx:YX) (Y:Yh),YRel Yx Y->∀{R:Type} [DecidableEq R] {r:R} {s:XS} {K:Exit->XS->Option R},eB N T c Yx s K=some r->∀{Q:Exit->AState->Prop},(∀e s',K e s'=some r->Q e s'.er)->eG P Y c.rc Q s.er
theorem bCo{T:List Sig}{N0:Nat}{g:Operand}{ps:Array Tmp}{ca cb:Code}{f N2:Nat}{a b it:XC}(hw:XC.Wf P (.rangeF N0 g ps ca cb f N2 a b it))(ha:aKa P N T a)(hb:aKa P N T b)(hi:aKa P N T it):aKa P N T (.rangeF N0 g ps ca cb f N2 a b it):=fun y Yx Y hY R _ r s K h Q hK=>by
 obtain⟨⟨fl,flB,fn,c2,q1,q2,q3,q4,q5,q6,q7,q8,q9,q10⟩,_⟩:=hw;subst q10;unfold eB at h;split at h
 case h_2=>cases h
 rename_i f' caps hp hg;split at h
 case h_2=>cases h
 rename_i hf hcc hcl hlt;have hf:=η hf;subst hf;have hlt:caps.length+1<=fn.ntmps:=ez hlt;refine bF2 (f:=f) (fn:=fn) (caps:=XV.erL caps) fl flB q1 q2 q3 q4 q5 q6 q7 q8 q9 (by rw[aDu s rfl,hg];rfl) (by rw[aRj];exact hlt) (hY.1 hp) fun l=>?_;obtain⟨y2,hy2⟩:∃y2:YL,y2=⟨l⟩:=⟨_,rfl⟩;have hl:@YL.l y2=l:=by rw[hy2];rfl
 have e1:aDe fn.ntmps l (@XV.erL y caps) (@XS.er y s)=@XS.er y2 (aWx fn.ntmps caps s):=by rw[@bBp y2,hl];exact congr (congrArg _ (aBb y y2 hcc)) (aQ4 y y2 hcl)
 rw[e1];refine hi y2 _ (yIt P a.rc b.rc N0 fn.ntmps l ps.toList) ⟨(fun h=>dh h),fun{R} _ {r args s K} h KP hK=>?_⟩ h fun e s' h=>?_
 ·simp only at h;split at h
  case h_2=>cases h
  rename_i h1 h2;refine⟨hl,by rw[aRj];exact η h1,by show(aR s.env fn.ntmps).er=_;rw[h2];rfl,?_⟩;rw[<-@aXb y2];refine ha y2 qC iN (@YRel.body y2) h fun e s' h=>?_;cases e with
  |normal=>
   refine hb y2 qC iN (@YRel.body y2) (show eB N T b qC s' (bdX N0 fn.ntmps K)=some r from h) fun e s' h=>?_;cases e with
   |normal=>
    have:=hK _ _ (show K true (xB N0 fn.ntmps .go s')=some r from h);rw[@aC4 y2]at this;exact this
   |exit id=>
    have:=hK _ _ (show K false (xB N0 fn.ntmps (.exit id) s')=some r from h);rw[@aC4 y2]at this;exact this
   |ret=>
    have:=hK _ _ (show K false (xB N0 fn.ntmps .ret s')=some r from h);rw[@aC4 y2]at this;exact this
   |_=>cases h
  |_=>cases h
 ·have key:∀{h0:Unit},bI7 N0 fn.ntmps K s'=some r->aUs Q (aA4 N0 fn.ntmps (@XS.er y2 s')) ((@XS.er y2 s').env fn.ntmps):=fun h=>by
   unfold bI7 at h;rw[<-@bC0 y2];show aUs Q _ (@XV.er y2 (aR s'.env fn.ntmps));split at h
   ·rename_i hc hq;rw[hq,<-aQ4 y y2 hc];exact hK _ _ h
   ·rename_i hc hq;rw[hq,<-aQ4 y y2 hc];exact hK _ _ h
   ·rename_i hc hq;rw[hq,<-aQ4 y y2 hc];exact hK _ _ h
   ·cases h
  cases e with
  |normal=>exact⟨.inl rfl,key (h0:=()) h⟩
  |ret=>exact⟨.inr rfl,key (h0:=()) h⟩
  |_=>cases h
theorem bU{P:Program}{N:Nat}{T:List Sig}(hT:kJ P T):∀{c:XC},c.Wf P->aKa P N T c
 |.skip,hw,y,Yx,Y,hY,R,_,r,s,K,h,Q,hK=>hK _ _ h
 |.reg _ os,hw,y,Yx,Y,hY,R,_,r,s,K,h,Q,hK=>lI hT h (KP:=Q .normal) fun s' h=>hK _ _ h
 |.regP os,hw,y,Yx,Y,hY,R,_,r,s,K,h,Q,hK=>aAq hT h (KP:=Q .normal) (fun s' h=>hK _ _ h) fun v s' h=>hK _ _ h
 | .regDP os,hw,y,Yx,Y,hY,R,_,r,s,K,h,Q,hK=>aAq hT h (KP:=Q .normal) (fun s' h=>hK _ _ h) fun v s' h=>by
   have:=hK _ _ h;rw[aU8]at this;exact this
 |.regN os,hw,y,Yx,Y,hY,R,_,r,s,K,h,Q,hK=>by cases h
 |.regM os x,hw,y,Yx,Y,hY,R,_,r,s,K,h,Q,hK=>by cases h
 |.regS _ os,hw,y,Yx,Y,hY,R,_,r,s,K,h,Q,hK=>⟨aAi s os,aDl hT h (KP:=Q .normal) fun s' h=>hK _ _ h⟩
 |.regY os,hw,y,Yx,Y,hY,R,_,r,s,K,h,Q,hK=>aDf hT hY h (KP:=Q .normal) fun s' h=>hK _ _ h
 |.rangeF ..,hw,y,Yx,Y,hY,R,_,r,s,K,h,Q,hK=>bCo hw (bU hT hw.2.1) (bU hT hw.2.2.1) (bU hT hw.2.2.2) y Yx Y hY h hK
 |.seq a b,hw,y,Yx,Y,hY,R,_,r,s,K,h,Q,hK=>by
  refine bU hT (c:=a) hw.1 y Yx Y hY h (Q:=zL (eG P Y (.wkr b.rc) Q) Q) fun e s' h=>?_;cases e with
  |normal=>exact⟨s'.er,Wk.refl _,bU hT (c:=b) hw.2 y Yx Y hY h hK⟩
  |_=>exact hK _ _ h
 |.join true m a b,hw,y,Yx,Y,hY,R,_,r,s,K,h,Q,hK=>by
  obtain⟨x,h1,h2⟩:=bPi (show bd? (eB N T a Yx (R:=rty m.tys) s (bF8 m)) (fun v=>eB N T b Yx (m.fill (ofR m.tys v)) K)=some r from h);refine bU hT (c:=a) hw.1 y Yx Y hY h1 (Q:=zL (eG P Y (.wkr b.rc) Q) Q) fun e s' h=>?_;cases e with
  |normal=>
   obtain⟨v,hv,hw'⟩:=aUz (show rd m s' _=some x from h);cases hv;rw[wZ]at h2;exact⟨_,hw',bU hT (c:=b) hw.2 y Yx Y hY h2 hK⟩
  |_=>cases h
 |.join false m a b,hw,y,Yx,Y,hY,R,_,r,s,K,h,Q,hK=>by
  rcases bUl (show jn? (eB N T a Yx (R:=R⊕rty m.tys) s (bMz m K)) (fun v=>eB N T b Yx (m.fill (ofR m.tys v)) K)=some r from h)with h1|⟨x,h1,h2⟩
  ·refine bU hT (c:=a) hw.1 y Yx Y hY h1 (Q:=zL (eG P Y (.wkr b.rc) Q) Q) fun e s' h=>?_;cases e with
   |normal=>
    obtain⟨v,hv,_⟩:=aUz (show rd m s' _=_ from h);cases hv
   |_=>
    obtain⟨y,hy,e⟩:=bM4 (show vV _=_ from h);cases e;exact hK _ _ hy
  ·refine bU hT (c:=a) hw.1 y Yx Y hY h1 (Q:=zL (eG P Y (.wkr b.rc) Q) Q) fun e s' h=>?_;cases e with
   |normal=>
    obtain⟨v,hv,hw'⟩:=aUz (show rd m s' _=_ from h);cases hv;rw[wZ]at h2;exact⟨_,hw',bU hT (c:=b) hw.2 y Yx Y hY h2 hK⟩
   |_=>
    obtain⟨y,hy,e⟩:=bM4 (show vV _=_ from h);cases e
 |.cond c a b,hw,y,Yx,Y,hY,R,_,r,s,K,h,Q,hK=>by
  obtain⟨h,e1⟩:=aM (show w1 s c _=some r from h);show bAv (eG P Y a.rc Q s.er) (eG P Y b.rc Q s.er) (s.er.ev c);rw[e1];split at h
  ·rename_i x hx;rw[hx];rcases aQz h with⟨e,h⟩|⟨e,h⟩
   ·have:=bU hT (c:=a) hw.1 y Yx Y hY h hK;rw[aY1 hx e]at this;exact⟨fun _=>this,fun h=>dh (e.symm.trans h)⟩
   ·have:=bU hT (c:=b) hw.2 y Yx Y hY h hK;rw[aY1 hx e]at this;exact⟨fun h=>dh (e.symm.trans h),fun _=>this⟩
  ·rename_i hx;rw[hx];obtain⟨h1,h2⟩:=bUg h;exact⟨bU hT (c:=a) hw.1 y Yx Y hY h1 hK,bU hT (c:=b) hw.2 y Yx Y hY h2 hK⟩
  ·cases h
 |.block id b,hw,y,Yx,Y,hY,R,_,r,s,K,h,Q,hK=>by
  refine bU hT (c:=b) hw y Yx Y hY (show eB N T b Yx s (aXp id K)=some r from h) (Q:=aRq id Q) fun e s' h=>?_;cases e with
  |exit i=>
   unfold aXp at h;simp only at h;show if i=id then Q .normal s'.er else Q (.exit i) s'.er
   split at h
   ·rename_i hb;rw[if_pos (η hb)];exact hK _ _ h
   ·rename_i hb;rw[if_neg (fun e=>by rw[e]at hb;simp at hb)];exact hK _ _ h
  |_=>exact hK _ _ h
 |.loop m b,hw,y,Yx,Y,hY,R,_,r,s,K,h,Q,hK=>by
  obtain⟨v0,h,hw'⟩:=aUz (show rd m s _=some r from h);refine .inl ⟨fun n s1=>∃v,apF m.tys (aL m.tys (fun rec=>cuF m.tys fun v=>eB N T b Yx (m.fill v) (bCn (fun s'=>rd m s' (apF m.tys rec)) K)) n) v=some r/\s1=(m.fill v).er,N,_,hw',⟨v0,h,rfl⟩,?_⟩;rintro n s1 ⟨v,hv,rfl⟩;cases n with
  |zero=>rw[show aL m.tys _ 0=aL.cuN m.tys from rfl,bPk]at hv;cases hv
  |succ n=>
   rw[show aL m.tys _ (n+1)=cuF m.tys _ from rfl,dR]at hv;refine bU hT (c:=b) hw y Yx Y hY hv (Q:=zL _ Q) fun e s' h=>?_;cases e with
   |normal=>
    obtain⟨v',h,hw'⟩:=aUz (show rd m s' _=some r from h);exact⟨n,_,Nat.lt_succ_self n,hw',v',h,rfl⟩
   |_=>exact hK _ _ h
 |.exit id,hw,y,Yx,Y,hY,R,_,r,s,K,h,Q,hK=>hK _ _ h
 |.scope b,hw,y,Yx,Y,hY,R,_,r,s,K,h,Q,hK=>by
  refine bU hT (c:=b) hw y Yx Y hY (show eB N T b Yx s (bF6 K)=some r from h) (Q:=bAo Q) fun e s' h=>?_;cases e with
  |goto _=>cases h
  |_=>exact hK _ _ h
 |.ret,hw,y,Yx,Y,hY,R,_,r,s,K,h,Q,hK=>hK _ _ h
 |.bad _,hw,y,Yx,Y,hY,R,_,r,s,K,h,Q,hK=>by cases h
def zA:List RO->List (Option Ty)->List XRO
 |[],_=>[]
 |ro::r,[]=>⟨ro,none⟩::zA r []
 |ro::r,t::ts=>⟨ro,t⟩::zA r ts
theorem pZ:∀(r:List RO) (ts:List (Option Ty)),(zA r ts).map XRO.ro=r
 |[],_=>rfl
 |ro::r,[]=>congrArg (ro::·) (pZ r [])
 |ro::r,_::ts=>congrArg (ro::·) (pZ r ts)
def pTy:List Ty->Ty
 |[]=>.u
 |[t]=>t
 |t::r=>.p t (pTy r)
def bQ1(f:TypeId->Option Ty):List TypeId->Option (List Ty)
 |[]=>some []
 |t::r=>match f t,bQ1 f r with
  |some a,some l=>some (a::l)
  |_,_=>none
def aVz(P:Program):Nat->TypeId->Option Ty
 |0,_=>none
 |n+1,t=>match P.underlying t with
  |some (.int k)=>some (.i k)
  |some .bool=>some .b
  |some .string=>some .s
  |some (.slice e)=>(aVz P n e).map .sl
  |some (.array len e)=>match aVz P n e with
   |some (.i k)=>some (.ar len k)
   |some (.ar m k)=>some (.ar (len*m) k)
   |some t=>some (.w (pTy (ω len t)))
   |none=>none
  |some (.struct fs)=>(bQ1 (aVz P n) (fs.toList.map (·.type))).map fun l=>.w (pTy l)
  |_=>none
def aAh(P:Program)(o:Oper):Option Ty:=match o.op with
 |.alloc T=>aVz P 20 T
 |.box T _=>aVz P 20 T
 |.makeMap T _=>match P.underlying T with
  |some (.map k e)=>match aVz P 20 k,aVz P 20 e with
   |some k,some (.sl t)=>some (.p k (.o t))
   |some k,some t=>some (.p k t)
   |_,_=>none
  |_=>none
 |_=>aVz P 20 o.type
structure Ann where
 at_:Nat
 pure:Bool
 m:XS
def aUh:List Ann->Nat->Option Ann
 |[],_=>none
 |a::r,n=>match au a.at_ n with
  |true=>some a
  |false=>aUh r n
def XC.cnt:XC->Nat
 |.seq a b=>a.cnt+b.cnt+1
 |.join _ _ a b=>a.cnt+b.cnt+1
 |.cond _ a b=>a.cnt+b.cnt
 |.block _ b=>b.cnt
 |.loop _ b=>b.cnt+1
 |.scope b=>b.cnt
 |.bad _=>1
 |_=>0
def xs0:XS:=⟨[],[],[]⟩
def bQw(P:Program)(d:Nat):List Oper->Option Ty
 |[]=>none
 |o::r=>match o.dst with
  |some d'=>match au d' d with
   |true=>aAh P o
   |false=>bQw P d r
  |none=>bQw P d r
def bRj(P:Program)(ops:List Oper):List RO->List (Option Ty)
 |[]=>[]
 |ro::r=>(match ro.dst with
  |some d=>bQw P d ops
  |none=>none)::bRj P ops r
def mZ(P:Program):Code->RCode->XC
 |.skip,.skip=>.skip
 |.region _ ops _,.reg dr ros=>.reg dr (zA ros (ops.toList.map (aAh P)))
 |.region _ ops _,.regP ros=>.regP (zA ros (ops.toList.map (aAh P)))
 |.region _ ops _,.regDP ros=>.regDP (zA ros (bRj P ops.toList ros))
 |.region _ ops _,.regS lst ros=>.regS lst (zA ros (ops.toList.map (aAh P)))
 |.region _ ops _,.regN ros=>.regN (zA ros (ops.toList.map (aAh P)))
 |.region _ ops _,.regY ros=>.regY (zA ros (ops.toList.map (aAh P)))
 |.region _ ops _,.regM ros x=>.regM (zA ros (ops.toList.map (aAh P))) x
 |.seq a b,.seq x (.wkr y)=>.seq (mZ P a x) (mZ P b y)
 |.cond _ a b,.cond c x y=>.cond c (mZ P a x) (mZ P b y)
 |.block _ b,.block id x=>.block id (mZ P b x)
 |.loop b,.loop x=>.loop xs0 (mZ P b x)
 |.exit _,.exit id=>.exit id
 |.scope b,.scope x=>.scope (mZ P b x)
 |.ret,.ret=>.ret
 |_,.skip=>.skip
 |_,rc=>.bad rc
theorem aJe(P:Program):∀(c:Code) (rc:RCode),(mZ P c rc).rc=rc:=by
 intro c
 induction c with
 |seq a b ih1 ih2=>
  intro rc;unfold mZ;split<;>first
   |rfl
   |(rename_i e;cases e;show RCode.seq (mZ P _ _).rc (.wkr (mZ P _ _).rc)=_;rw[ih1,ih2];done)
   |(rename_i e;cases e;done)
   |(rename_i e _;cases e;done)
 |cond c0 a b ih1 ih2=>
  intro rc;unfold mZ;split<;>first
   |rfl
   |(rename_i e;cases e;show RCode.cond _ (mZ P _ _).rc (mZ P _ _).rc=_;rw[ih1,ih2];done)
   |(rename_i e;cases e;done)
   |(rename_i e _;cases e;done)
 |block id b ih=>
  intro rc;unfold mZ;split<;>first
   |rfl
   |(rename_i e;cases e;show RCode.block _ (mZ P _ _).rc=_;rw[ih];done)
   |(rename_i e;cases e;done)
   |(rename_i e _;cases e;done)
 |loop b ih=>
  intro rc;unfold mZ;split<;>first
   |rfl
   |(rename_i e;cases e;show RCode.loop (mZ P _ _).rc=_;rw[ih];done)
   |(rename_i e;cases e;done)
   |(rename_i e _;cases e;done)
 |scope b ih=>
  intro rc;unfold mZ;split<;>first
   |rfl
   |(rename_i e;cases e;show RCode.scope (mZ P _ _).rc=_;rw[ih];done)
   |(rename_i e;cases e;done)
   |(rename_i e _;cases e;done)
 |region id ops dr=>
  intro rc;cases rc<;>first|rfl|(show RCode.reg _ ((zA _ _).map XRO.ro)=_;rw[pZ];done)|(show RCode.regP ((zA _ _).map XRO.ro)=_;rw[pZ];done)|(show RCode.regDP ((zA _ _).map XRO.ro)=_;rw[pZ];done)|(show RCode.regS _ ((zA _ _).map XRO.ro)=_;rw[pZ];done)|(show RCode.regN ((zA _ _).map XRO.ro)=_;rw[pZ];done)|(show RCode.regY ((zA _ _).map XRO.ro)=_;rw[pZ];done)|(show RCode.regM ((zA _ _).map XRO.ro) _=_;rw[pZ];done)
 |_=>intro rc;cases rc<;>rfl
def oR(A:List Ann):Nat->XC->XC
 |n,.seq a b=>match aUh A n with
  |some x=>.join x.pure x.m (oR A (n+1) a) (oR A (n+1+a.cnt) b)
  |none=>.seq (oR A (n+1) a) (oR A (n+1+a.cnt) b)
 |n,.cond c a b=>.cond c (oR A n a) (oR A (n+a.cnt) b)
 |n,.block id b=>.block id (oR A n b)
 |n,.loop m b=>match aUh A n with
  |some x=>.loop x.m (oR A (n+1) b)
  |none=>.loop m (oR A (n+1) b)
 |n,.scope b=>.scope (oR A n b)
 |_,c=>c
theorem kC(A:List Ann):∀(c:XC) (n:Nat),(oR A n c).rc=c.rc
 |.seq a b,n=>by
  unfold oR;split
  ·show RCode.seq (oR A _ a).rc (.wkr (oR A _ b).rc)=_;rw[kC A a,kC A b];rfl
  ·show RCode.seq (oR A _ a).rc (.wkr (oR A _ b).rc)=_;rw[kC A a,kC A b];rfl
 |.cond c a b,n=>by show RCode.cond c (oR A _ a).rc (oR A _ b).rc=_;rw[kC A a,kC A b];rfl
 |.block id b,n=>by show RCode.block id (oR A _ b).rc=_;rw[kC A b];rfl
 |.loop m b,n=>by
  unfold oR;split
  ·show RCode.loop (oR A _ b).rc=_;rw[kC A b];rfl
  ·show RCode.loop (oR A _ b).rc=_;rw[kC A b];rfl
 |.scope b,n=>by show RCode.scope (oR A _ b).rc=_;rw[kC A b];rfl
 |.join _ _ _ _,_=>rfl
 |.skip,_=>rfl
 |.reg _ _,_=>rfl
 |.regS _ _,_=>rfl
 |.regP _,_=>rfl
 |.regDP _,_=>rfl
 |.regN _,_=>rfl
 |.regY _,_=>rfl
 |.regM _ _,_=>rfl
 |.rangeF ..,_=>rfl
 |.exit _,_=>rfl
 |.ret,_=>rfl
 |.bad _,_=>rfl
theorem aEc(P:Program):∀(c:Code) (rc:RCode),(mZ P c rc).Wf P:=by
 intro c
 induction c with
 |seq a b ih1 ih2=>
  intro rc;unfold mZ;split<;>first
   |trivial
   |(rename_i e;cases e;exact⟨ih1 _,ih2 _⟩)
   |(rename_i e;cases e;done)
   |(rename_i e _;cases e;done)
 |cond c0 a b ih1 ih2=>
  intro rc;unfold mZ;split<;>first
   |trivial
   |(rename_i e;cases e;exact⟨ih1 _,ih2 _⟩)
   |(rename_i e;cases e;done)
   |(rename_i e _;cases e;done)
 |block id b ih=>
  intro rc;unfold mZ;split<;>first
   |trivial
   |(rename_i e;cases e;exact ih _)
   |(rename_i e;cases e;done)
   |(rename_i e _;cases e;done)
 |loop b ih=>
  intro rc;unfold mZ;split<;>first
   |trivial
   |(rename_i e;cases e;exact ih _)
   |(rename_i e;cases e;done)
   |(rename_i e _;cases e;done)
 |scope b ih=>
  intro rc;unfold mZ;split<;>first
   |trivial
   |(rename_i e;cases e;exact ih _)
   |(rename_i e;cases e;done)
   |(rename_i e _;cases e;done)
 |_=>intro rc;cases rc<;>trivial
theorem jU(P:Program)(A:List Ann):∀(c:XC) (n:Nat),c.Wf P->(oR A n c).Wf P
 |.seq a b,n,h=>by
  unfold oR;split
  ·exact⟨jU P A a _ h.1,jU P A b _ h.2⟩
  ·exact⟨jU P A a _ h.1,jU P A b _ h.2⟩
 |.cond c a b,n,h=>⟨jU P A a _ h.1,jU P A b _ h.2⟩
 |.block id b,n,h=>jU P A b n h
 |.loop m b,n,h=>by
  unfold oR;split
  ·exact jU P A b (n+1) h
  ·exact jU P A b (n+1) h
 |.scope b,n,h=>jU P A b n h
 |.join _ _ _ _,_,h=>h
 |.skip,_,h=>h
 |.reg _ _,_,h=>h
 |.regS _ _,_,h=>h
 |.regP _,_,h=>h
 |.regDP _,_,h=>h
 |.regN _,_,h=>h
 |.regY _,_,h=>h
 |.regM _ _,_,h=>h
 |.rangeF ..,_,h=>h
 |.exit _,_,h=>h
 |.ret,_,h=>h
 |.bad _,_,h=>h
def bTn:List (Nat×Nat×List Nat)->Nat->Option (Nat×List Nat)
 |[],_=>none
 |(p,f)::r,n=>match au p n with
  |true=>some f
  |false=>bTn r n
def bTo(P:Program)(fn:Func)(g:Operand)(N0:Nat):Bool:= !(fn.name== "runtime.NumGoroutine")&&P.follows .mixedOrders&&au fn.results.size 0&&g.inN N0
def bNi(P:Program)(fl:List Nat)(A:List Ann)(n N0:Nat)(g:Operand)(ps:Array Tmp)(ca cb:Code)(f:Nat)(fl2:List Nat)(rc:RCode):XC:=match P.funcs[f]?with
 |some fn=>match fn.body with
  |some c2=>match aF P fl2 fn.ntmps c2,aF P fl N0 ca,aF P fl N0 cb,bTo P fn g N0 with
   |some it,some a,some b,true=>.rangeF N0 g ps ca cb f fn.ntmps (oR A (100000*(n+1)+30000) (mZ P ca a)) (oR A (100000*(n+1)+60000) (mZ P cb b)) (oR A (100000*(n+1)) (mZ P c2 it))
   |_,_,_,_=>.bad rc
  |none=>.bad rc
 |none=>.bad rc
def bKn(P:Program)(fl:List Nat)(A:List Ann)(n:Nat)(q:Option (Nat×List Nat))(rc:RCode):XC:=match rc,q with
 |.sem N0 (.rangeFunc g ps ca cb),some (f,fl2)=>bNi P fl A n N0 g ps ca cb f fl2 rc
 |rc,_=>.bad rc
theorem bJu(P:Program)(fl:List Nat)(A:List Ann)(n:Nat)(q:Option (Nat×List Nat))(rc:RCode):(bKn P fl A n q rc).rc=rc/\(bKn P fl A n q rc).Wf P:=by
 unfold bKn;split
 case h_2=>exact⟨rfl,trivial⟩
 unfold bNi;split
 case h_2=>exact⟨rfl,trivial⟩
 rename_i fn hf;split
 case h_2=>exact⟨rfl,trivial⟩
 rename_i c2 hc;split
 case h_2=>exact⟨rfl,trivial⟩
 rename_i it a b h1 h2 h3 h4;refine⟨rfl,⟨_,fl,fn,c2,hf,hc,?_,?_,by rw[kC,aJe];exact h1,by rw[kC,aJe];exact h2,by rw[kC,aJe];exact h3,?_,?_,rfl⟩,jU P A _ _ (aEc P _ _),jU P A _ _ (aEc P _ _),jU P A _ _ (aEc P _ _)⟩<;>unfold bTo at h4<;>simp only[μ,dn]at h4
 ·exact h4.1.1.1
 ·exact h4.1.1.2
 ·exact Array.eq_empty_of_size_eq_zero (η h4.1.2)
 ·exact h4.2
def aC2(P:Program)(fl:List Nat)(F:List (Nat×Nat×List Nat))(A:List Ann):Nat->XC->XC
 |n,.seq a b=>match aUh A n with
  |some x=>.join x.pure x.m (aC2 P fl F A (n+1) a) (aC2 P fl F A (n+1+a.cnt) b)
  |none=>.seq (aC2 P fl F A (n+1) a) (aC2 P fl F A (n+1+a.cnt) b)
 |n,.cond c a b=>.cond c (aC2 P fl F A n a) (aC2 P fl F A (n+a.cnt) b)
 |n,.block id b=>.block id (aC2 P fl F A n b)
 |n,.loop m b=>match aUh A n with
  |some x=>.loop x.m (aC2 P fl F A (n+1) b)
  |none=>.loop m (aC2 P fl F A (n+1) b)
 |n,.scope b=>.scope (aC2 P fl F A n b)
 |n,.bad rc=>bKn P fl A n (bTn F n) rc
 |_,c=>c
theorem rX(P:Program)(fl:List Nat)(F:List (Nat×Nat×List Nat))(A:List Ann):∀(c:XC) (n:Nat),c.Wf P->(aC2 P fl F A n c).rc=c.rc/\(aC2 P fl F A n c).Wf P
 |.seq a b,n,h=>by
  have h1:=rX P fl F A a (n+1) h.1;have h2:=rX P fl F A b (n+1+a.cnt) h.2;unfold aC2;split
  ·exact⟨by show RCode.seq _ (.wkr _)=_;rw[h1.1,h2.1];rfl,h1.2,h2.2⟩
  ·exact⟨by show RCode.seq _ (.wkr _)=_;rw[h1.1,h2.1];rfl,h1.2,h2.2⟩
 |.cond c a b,n,h=>by
  have h1:=rX P fl F A a n h.1;have h2:=rX P fl F A b (n+a.cnt) h.2;exact⟨by show RCode.cond c _ _=_;rw[h1.1,h2.1];rfl,h1.2,h2.2⟩
 |.block id b,n,h=>by
  have h1:=rX P fl F A b n h;exact⟨by show RCode.block id _=_;rw[h1.1];rfl,h1.2⟩
 |.loop m b,n,h=>by
  have h1:=rX P fl F A b (n+1) h;unfold aC2;split
  ·exact⟨by show RCode.loop _=_;rw[h1.1];rfl,h1.2⟩
  ·exact⟨by show RCode.loop _=_;rw[h1.1];rfl,h1.2⟩
 |.scope b,n,h=>by
  have h1:=rX P fl F A b n h;exact⟨by show RCode.scope _=_;rw[h1.1];rfl,h1.2⟩
 |.bad rc,n,_=>bJu P fl A n _ rc
 |.join _ _ _ _,_,h=>⟨rfl,h⟩
 |.skip,_,h=>⟨rfl,h⟩
 |.reg _ _,_,h=>⟨rfl,h⟩
 |.regS _ _,_,h=>⟨rfl,h⟩
 |.regP _,_,h=>⟨rfl,h⟩
 |.regDP _,_,h=>⟨rfl,h⟩
 |.regN _,_,h=>⟨rfl,h⟩
 |.regY _,_,h=>⟨rfl,h⟩
 |.regM _ _,_,h=>⟨rfl,h⟩
 |.rangeF ..,_,h=>⟨rfl,h⟩
 |.exit _,_,h=>⟨rfl,h⟩
 |.ret,_,h=>⟨rfl,h⟩
def mkX(P:Program)(fl:List Nat)(F:List (Nat×Nat×List Nat))(A:List Ann)(c:Code)(rc:RCode):XC:=aC2 P fl F A 0 (mZ P c rc)
theorem aGr(P:Program)(fl:List Nat)(F:List (Nat×Nat×List Nat))(A:List Ann)(c:Code)(rc:RCode):(mkX P fl F A c rc).rc=rc:=by unfold mkX;rw[(rX P fl F A _ 0 (aEc P c rc)).1,aJe]
theorem aG8(P:Program)(fl:List Nat)(F:List (Nat×Nat×List Nat))(A:List Ann)(c:Code)(rc:RCode):(mkX P fl F A c rc).Wf P:=(rX P fl F A _ 0 (aEc P c rc)).2
end
section
variable{R:Type}
theorem Wk.any{s s':AState}(hb:∀i,s'.bs i=s.bs i)(ho:∀i,s'.own i=s.own i)(hn:s'.nx=s.nx)(he:∀t,s'.env t=s.env t\/s'.env t=.any):Wk s s':=fun E a w ⟨G,m,h⟩=>by
 have hlk:s'.lk=s.lk:=by funext x;cases x with|B i=>exact hb i|O i=>exact ho i
 refine⟨G,m,hlk▸h.sim,fun t=>?_,h.size,h.defers,?_,fun i hi=>h.fresh i (hn▸hi),h.frame,h.base,h.own,h.noO,fun i hi=>(ho i).trans (h.nxOk i (hn▸hi))⟩
 ·rcases he t with e|e
  ·rw[e];exact h.env t
  ·rw[e];unfold AV.Rep;trivial
 ·rcases he E.N with e|e
  ·rw[e];exact h.jok
  ·rw[e];exact E.Jany _ _ h.jok
def aCn:Nat->List XV->List (Nat×XV)
 |_,[]=>[]
 |n,v::vs=>(n,v)::aCn (n+1) vs
theorem aAg:∀(vs:List XV) (n t:Nat),aR (aCn n vs) t=if n<=t then wR vs (t-n)else .any
 |[],n,t=>by
  show XV.any=_;split
  ·cases t-n<;>rfl
  ·rfl
 |v::vs,n,t=>by
  show(if au t n=true then v else aR (aCn (n+1) vs) t)=_;rw[aAg vs (n+1) t];by_cases h:t=n
  ·rw[if_pos (by rw[gw];exact h),if_pos (by omega),show t-n=0 by omega];rfl
  ·rw[if_neg (by rw[gw];exact h)];by_cases h2:n+1<=t
   ·rw[if_pos h2,if_pos (by omega),show t-n=(t-(n+1))+1 by omega];rfl
   ·rw[if_neg h2,if_neg (by omega)]
def aCx:Nat->Nat->List Nat
 |_,0=>[]
 |n,k+1=>n::aCx (n+1) k
theorem aUq:∀(k n i:Nat),(aCx n k)[i]?=if i<k then some (n+i)else none
 |0,n,i=>by simp[aCx]
 |k+1,n,0=>by simp[aCx]
 |k+1,n,i+1=>by
  show(aCx (n+1) k)[i]?=_;rw[aUq k (n+1) i];by_cases h:i<k
  ·rw[if_pos h,if_pos (by omega),show n+1+i=n+(i+1) by omega]
  ·rw[if_neg h,if_neg (by omega)]
theorem aEt{j:Nat}:j∈aCx n k↔n<=j/\j<n+k:=by
 induction k generalizing n with
 |zero=>simp[aCx]
 |succ k ih=>
  show j∈n::aCx (n+1) k↔_;rw[bo,ih];omega
theorem aNs:∀(k n:Nat),(aCx n k).Nodup
 |0,_=>js
 |k+1,n=>fm.2 ⟨fun h=>by have:=(aEt.1 h).1;omega,aNs k (n+1)⟩
theorem aUg:∀(k n:Nat),(aCx n k).length=k
 |0,_=>rfl
 |k+1,n=>congrArg (· +1) (aUg k (n+1))
def aPq(ψ:Hd->Hd):List XV->List XV
 |[]=>[]
 |v::vs=>v.ren ψ::aPq ψ vs
def aEs(ψ:Hd->Hd):List (Option XB)->List (Option XB)
 |[]=>[]
 |none::r=>none::aEs ψ r
 |some b::r=>some (b.ren ψ)::aEs ψ r
theorem aA5[YL](ψ:Hd->Hd):∀(l:List (Option XB)) (i:Nat),(bB (aEs ψ l) i).map XB.er=((bB l i).map XB.er).map (Blk.ren ψ)
 |[],_=>rfl
 |none::_,0=>rfl
 |some b::_,0=>congrArg some (aRv ψ b)
 |none::r,i+1=>aA5 ψ r i
 |some _::r,i+1=>aA5 ψ r i
def aKf:Nat->List (Option XB)->List (Option XB)
 |_,[]=>[]
 |0,_::r=>none::aKf 0 r
 |d+1,b::r=>b::aKf d r
def aFx:Nat->List (Option XB)->List (Option XB)
 |0,l=>l
 |_+1,[]=>[]
 |d+1,_::r=>aFx d r
theorem aHk:∀(d:Nat) (l:List (Option XB)) (i:Nat),bB (aKf d l) i=if i<d then bB l i else none
 |0,[],_=>rfl
 |d+1,[],i=>by show none=if i<d+1 then none else none;split<;>rfl
 |0,_::r,0=>rfl
 |0,_::r,i+1=>by
  show bB (aKf 0 r) i=_;rw[aHk 0 r i];simp
 |d+1,b::r,0=>rfl
 |d+1,b::r,i+1=>by
  show bB (aKf d r) i=_;rw[aHk d r i];by_cases h:i<d
  ·rw[if_pos h,if_pos (by omega)];rfl
  ·rw[if_neg h,if_neg (by omega)]
theorem aO9:∀(d:Nat) (l:List (Option XB)) (i:Nat),bB (aFx d l) i=bB l (d+i)
 |0,l,i=>by rw[bg];rfl
 |d+1,[],i=>by
  show none=bB [] _;cases d+1+i<;>rfl
 |d+1,b::r,i=>by show bB (aFx d r) i=_;rw[aO9 d r i,show d+1+i=(d+i)+1 by omega];rfl
theorem aO0:∀(d:Nat) (l:List (Option XB)),(aFx d l).length=l.length-d
 |0,l=>rfl
 |d+1,[]=>by simp[aFx]
 |d+1,b::r=>by show(aFx d r).length=_;rw[aO0 d r];simp
def stS(d:Nat)(s:XS):XS:=
 let ψ:=vX (aCx d (s.bs.length-d))
 {env:=aCn 0 (aPq ψ (xM s.env)),bs:=aEs ψ (aKf d s.bs),own:=aEs ψ (aFx d s.bs)}
theorem aVk[YL](ψ:Hd->Hd):∀(vs:List XV) (i:Nat),i<vs.length->(wR (aPq ψ vs) i).er=AV.ren ψ (wR vs i).er
 |[],_,h=>by simp at h
 |v::_,0,_=>aSy ψ v
 |_::vs,i+1,h=>aVk ψ vs i (by simpa using h)
theorem aPi(ψ:Hd->Hd):∀vs:List XV,(aPq ψ vs).length=vs.length
 |[]=>rfl
 |_::vs=>congrArg (· +1) (aPi ψ vs)
theorem aY4:∀(vs:List XV) (i:Nat),vs.length<=i->wR vs i=.any
 |[],i,_=>by cases i<;>rfl
 |_::_,0,h=>by simp at h
 |_::vs,i+1,h=>aY4 vs i (by simpa using h)
theorem aWd{α:Type}(f:XV->α):∀l:List (Nat×XV),(xM l).map f=l.map fun p=>f p.2
 |[]=>rfl
 |p::l=>congrArg (f p.2::·) (aWd f l)
theorem aG9(ψ:Hd->Hd):∀l:List (Option XB),(aEs ψ l).length=l.length
 |[]=>rfl
 |none::l=>congrArg (· +1) (aG9 ψ l)
 |some _::l=>congrArg (· +1) (aG9 ψ l)
theorem bFk[YL](d:Nat)(s:XS):Wk (entry (s.env.map fun p=>p.2.er) (erB s.bs)) (stS d s).er:=by
 have h1:=bDf (s.env.map fun p=>p.2.er) (erB s.bs) (aCx d (s.bs.length-d)) (aNs _ _);refine h1.trans (Wk.any (fun i=>?_) (fun i=>?_) ?_ fun t=>?_)
 ·show(bB (aEs _ (aKf d s.bs)) i).map XB.er=if i∈aCx d (s.bs.length-d)then none else(((erB s.bs)[i]?).join).map _
  rw[aA5,aHk,qA];by_cases hd:i<d
  ·rw[if_pos hd,if_neg (fun h=>by have:=(aEt.1 h).1;omega)]
  ·rw[if_neg hd];by_cases h2:i<s.bs.length
   ·rw[if_pos (aEt.2 ⟨by omega,by omega⟩)];rfl
   ·rw[if_neg (fun h=>by have:=(aEt.1 h).2;omega),aJ6 _ _ (by omega)]
 ·show(bB (aEs _ (aFx d s.bs)) i).map XB.er=((aCx d (s.bs.length-d))[i]?).bind fun j=>(((erB s.bs)[j]?).join).map _;rw[aA5,aO9,aUq];by_cases h:i<s.bs.length-d
  ·rw[if_pos h];show _=(((erB s.bs)[d+i]?).join).map _;rw[qA]
  ·rw[if_neg h,aJ6 _ _ (by omega)];rfl
 ·show(aEs _ (aFx d s.bs)).length=(aCx d (s.bs.length-d)).length;rw[aG9,aO0,aUg]
 ·show(aR (aCn 0 (aPq _ (xM s.env))) t).er=(AV.renL _ (s.env.map fun p=>p.2.er)).getD t .un\/(aR (aCn 0 (aPq _ (xM s.env))) t).er=.any;rw[aAg,if_pos (fo _),Nat.sub_zero];by_cases h:t<(xM s.env).length
  ·left;rw[aVk _ _ _ h,aEo,<-aWd XV.er];congr 1;have:∀(l:List XV) (i:Nat),i<l.length->(wR l i).er=(l.map XV.er).getD i .un:=fun l=>by
    induction l with
    |nil=>intro i h;simp at h
    |cons v l ih=>
     intro i h;cases i with
     |zero=>rfl
     |succ i=>
      have:=ih i (by simpa using h);show(wR l i).er=(v.er::l.map XV.er).getD (i+1) .un;rw[this,nu]
   exact this _ _ h
  ·right;rw[aY4 _ _ (by rw[aPi];omega)];rfl
def aQt(s:XS):RRes->Option XV
 |.tmp t=>some (aR s.env t)
 |.cell ag t=>match aR s.env t with
  |.ptr h off=>match s.lk h with
   |some (.box cs)=>aXn ag cs off some
   |_=>none
  |.apt h 0=>match s.lk h,ag with
   |some (.arr _ n k x),some m=>match au m n with
    |true=>some (.d (.ar n k) x)
    |false=>none
   |_,_=>none
  |.rpt h off=>match s.lk h,ag with
   |some (.rb _ t x),some m=>aXn (some m) (lvs t x) off some
   |_,_=>none
  |_=>none
def wP(s:XS):List RRes->Option (List XV)
 |[]=>some []
 |r::rs=>match aQt s r,wP s rs with
  |some v,some vs=>some (v::vs)
  |_,_=>none
theorem aXd[YL]{r:RRes}(h:aQt s r=some v):uT s.er r=some v.er:=by
 unfold aQt at h;split at h
 ·cases h;rfl
 ·rename_i ag t;split at h
  ·rename_i hd off ht;split at h
   ·rename_i cs hl;obtain⟨v',h1,h2⟩:=aE4 h;cases h1;have e1:s.er.env t=.ptr hd off:=by show(aR s.env t).er=_;rw[ht];rfl
    have e2:s.er.lk hd=some (.box (XV.fcL cs)):=by rw[aQ,hl];rfl
    simp only[uT,e1,e2];cases ag with
    |none=>exact h2
    |some n=>
     obtain⟨h3,h4⟩:=h2;simp only;rw[if_pos h3,h4]
   ·cases h
  ·rename_i hd ht;split at h
   ·rename_i mt n k x m hl;split at h
    ·rename_i hb;obtain rfl:=η hb;cases h;have e1:s.er.env t=.eptr hd 1 0 0:=by show(aR s.env t).er=_;rw[ht];rfl
     have e2:s.er.lk hd=some (.row mt 1 (x.l.map (arD k))):=by rw[aQ,hl];rfl
     simp only[uT,e1,e2];have hx:=x.len;rw[if_pos ⟨trivial,trivial,trivial,by rw[κ];omega⟩,cc,bk (by rw[κ];omega),aEl];rfl
    ·cases h
   ·cases h
  ·rename_i hd off ht;split at h
   ·rename_i mt t2 x m hl;obtain⟨v',h1,h2,h3⟩:=aE4 h;cases h1;have e1:s.er.env t=.eptr hd 1 off 0:=by show(aR s.env t).er=_;rw[ht];rfl
    have e2:s.er.lk hd=some (.row mt 1 (sgD (t2.ds x))):=by rw[aQ,hl];rfl
    rw[dC]at h2 h3;rw[κ]at h2;simp only[uT,e1,e2];rw[if_pos ⟨trivial,trivial,trivial,by rw[aA0];exact h2⟩,aSz,aL9,h3,bu,cn]
   ·cases h
  ·cases h
theorem aH9[YL]{s:XS}:∀{rs:List RRes} {vs:List XV},wP s rs=some vs->oO s.er rs=some (XV.erL vs)
 |[],vs,h=>by cases h;rfl
 |r::rs,vs,h=>by
  unfold wP at h;split at h
  ·rename_i v vs' h1 h2;cases h;show(match uT s.er r,oO s.er rs with|some a,some as=>some (a::as)|_,_=>none)=_;rw[aXd h1,aH9 h2];rfl
  ·cases h
def nzR:List (Nat×XV)->List RRes->XS->XS
 |(_,m)::ms,r::rs,s=>match m,r with
  |.slw _ t _,.tmp n=>match aR s.env n with
   |.fln _=>nzR ms rs (s.put (some n) (.slw (.O s.own.length) t 0) [.row true t []] [])
   |.sl h t 0 len=>nzR ms rs (aQi s n h t len)
   |_=>nzR ms rs s
  |_,_=>nzR ms rs s
 |_,_,s=>s
theorem aK5[YL]:∀(ms:List (Nat×XV)) (rs:List RRes) (s:XS),Wk s.er (nzR ms rs s).er
 |[],_,s=>by unfold nzR;exact Wk.refl _
 |_::_,[],s=>by unfold nzR;exact Wk.refl _
 |(_,m)::ms,r::rs,s=>by
  unfold nzR;split
  ·split
   ·rename_i h;refine Wk.trans ?_ (aK5 ms rs _);rw[dD];exact AState.own0_ok s.er _ _ (by show(aR s.env _).er=_;rw[h];rfl)
   ·rename_i h;exact(aOq h).trans (aK5 ms rs _)
   ·exact aK5 ms rs s
  ·exact aK5 ms rs s
def bA6(rs:List RRes)(s:XS)(n:Nat):XV:=match wP s rs with
 |some vs=>wR vs n
 |none=>.any
def bMj(rs:List RRes)(m:XS)(n:Nat)(s:XS):Bool:=match wP s rs with
 |some vs=>aDa 0 m.env vs&&au s.bs.length n
 |none=>false
def bSu(rs:List RRes)(m s:XS):NZ:=⟨s,bF7 vrO (bA6 rs s) m.env (aVs m.own)⟩
def nzF(rs:List RRes)(m s:XS):NZ:=bKp vrO 0 m.own (bJs vrO 0 m.bs (bSu rs m (nzR m.env rs s)))
def bFs(rs:List RRes)(m:XS)(n:Nat)(K:tup m.tys->Option R)(st:NZ):Option R:=match bMj rs m n st.s with
 |true=>rd1 m (bA6 rs) st K
 |false=>none
def aU9:Hd->Hd->Bool
 |.B i,.B j=>au i j
 |.O _,.O _=>true
 |_,_=>false
def bQ6:List XV->List XV->Bool
 |[],_=>true
 |_::_,[]=>false
 |m::ms,v::vs=>(match m,v with
  |.ptr h _,.ptr h' _=>aU9 h h'
  |.apt h _,.apt h' _=>aU9 h h'
  |.rpt h _,.rpt h' _=>aU9 h h'
  |_,_=>true)&&bQ6 ms vs
def bUb(rs:List RRes)(m s:XS):Bool:=match wP s rs with
 |some vs=>bIc (xM m.env) vs&&bQ6 (xM m.env) vs
 |none=>false
def aF5(rs:List RRes)(n:Nat):(l:List XS)->XS->(RT l->Option R)->Option R
 |[],_,_=>none
 |[m],s,K=>bFs rs m n (fun v=>K (toR m.tys v)) (nzF rs m s)
 |m::m2::l,s,K=>match bUb rs m s with
  |true=>bFs rs m n (fun v=>K (.inl (toR m.tys v))) (nzF rs m s)
  |false=>aF5 rs n (m2::l) s fun r=>K (.inr r)
def bHx:Value->Value->Bool
 |.iface t (.agg a),.iface t' (.agg c)=>au t t'&&(a.isEmpty&&c.isEmpty)
 |_,_=>false
theorem aQy{v:Value}(h:bHx v w=true):v=w:=by
 unfold bHx at h;split at h
 ·rename_i t a t' c;rw[μ,μ]at h;obtain⟨h1,h2,h3⟩:=h;rw[η h1,Array.isEmpty_iff.1 h2,Array.isEmpty_iff.1 h3]
 ·cases h
def bDb(pv:Value):(l:List XS)->(RT l->Option R)->Option R
 |[],_=>none
 |[m],K=>match m.pv,m.own,aH1 m.tys []with
  |some w,[],some v=>match bHx w pv with
   |true=>K (toR m.tys v)
   |false=>none
  |_,_,_=>none
 |m::m2::l,K=>match m.pv,m.own,aH1 m.tys []with
  |some w,[],some v=>match bHx w pv with
   |true=>K (.inl (toR m.tys v))
   |false=>bDb pv (m2::l) fun r=>K (.inr r)
  |_,_,_=>bDb pv (m2::l) fun r=>K (.inr r)
def bR7(rs:List RRes)(n:Nat)(out:List XS):Exit->XS->Option (RT out)
 |.normal,s=>aF5 rs n out s some
 |.ret,s=>aF5 rs n out s some
 |_,_=>none
def bFw(rs:List RRes)(out:List XS):Exit->XS->Option (RT out)
 |.normal,s=>aF5 rs 0 out s some
 |.ret,s=>aF5 rs 0 out s some
 |.panic [⟨v,false,false⟩],_=>bDb v out some
 |_,_=>none
def aMs:List XS->Bool
 |[]=>false
 |o::l=>o.pv.isSome||aMs l
def bUf[YL]:List XV->AV
 |[v]=>v.er
 |vs=>.tup (XV.erL vs)
theorem bK5[YL](h:oO s.er rs=some (XV.erL vs)):bGj s.er rs=some (bUf vs):=by
 unfold bGj;rw[h]
 match vs with
 |[]=>rfl
 |[_]=>rfl
 |_::_::_=>rfl
theorem bKy(h:aDa 0 m.env vs=true)(v:tup m.tys):(m.fill v).pv=none:=by
 unfold XS.pv;split
 ·rename_i k u he;have he:(aD8 _ m.env _).1=[(k,.c u)]:=he;generalize m.env=l at h he;cases l with
  |nil=>cases he
  |cons p l=>
   obtain⟨k0,v0⟩:=p;cases vs with
   |nil=>cases h
   |cons a vs=>
    have h:(au k0 0&&aDa 1 l vs)=true:=h;rw[μ]at h;have h1:=η h.1;have h2:=congrArg (fun l=>l.map Prod.fst) he;have h2:k0::_=[k]:=h2;have:k0=k:=(List.cons.inj h2).1;rw[<-this,h1]
 ·rfl
theorem bA4[YL]{K:tup m.tys->Option R}{r:R}(h:bFs rs m n K (nzF rs m s)=some r):∃v,K v=some r/\(m.fill v).pv=none/\∀(e:Exit),(e=.normal\/e=.ret)->∀nbs:List Blk,nbs.map some=erB (m.fill v).own->
  uR n rs (XV.val (m.fill v).env).er (erB (m.fill v).bs) nbs e s.er:=by
 unfold bFs at h;split at h
 case h_2=>cases h
 rename_i hok;obtain⟨v,sl,h,hr⟩:=bIl h;have hw:Wk s.er (nzF rs m s).s.er:=(aK5 m.env rs s).trans ((aR2 vrO m.bs 0 (bSu rs m (nzR m.env rs s))).trans (aQa vrO _ _ _));generalize(nzF rs m s)=st at hok hr hw;unfold bMj at hok;split at hok
 case h_2=>cases hok
 rename_i vs hvs;rw[μ]at hok;obtain⟨hk,hb⟩:=hok;refine⟨v,h,bKy hk v,fun e he nbs hn=>⟨st.s.er,hw,he,sl,?_⟩⟩;have hb:=η hb;have hres:bA6 rs st.s=wR vs:=by funext i;unfold bA6;rw[hvs]
 have henv:(m.fill v).env.map (fun p=>p.2.er)=vs.map fun v=>AV.conv st.s.er.lk (phi sl) v.er:=by have:=congrArg (fun l=>l.map (fun p:Nat×AV=>p.2)) hr.env;simp only[ij]at this;rw[hres]at this;rw[<-aHh (f:=fun v=>AV.conv st.s.er.lk (phi sl) v.er) hk (ev:=wR vs) fun i _=>by rw[bg]];exact this
 refine⟨_,hr.nd,bK5 (aH9 hvs),?_,?_,?_⟩
 ·generalize hf:(m.fill v).env=fe at henv;have hl:∀l:List (Nat×XV),XV.erL (l.map (·.2))=l.map fun p=>p.2.er:=fun l=>by
   induction l with
   |nil=>rfl
   |cons p l ih=>show p.2.er::XV.erL (l.map (·.2))=_;rw[ih];rfl
  cases vs with
  |nil=>cases fe with
   |nil=>rfl
   |cons p fe=>cases henv
  |cons a vs=>cases fe with
   |nil=>cases henv
   |cons p fe=>cases vs with
    |nil=>cases fe with
     |nil=>exact(List.head_eq_of_cons_eq henv).symm
     |cons p2 fe=>exact absurd (congrArg List.length henv) (by simp)
    |cons a2 vs=>cases fe with
     |nil=>exact absurd (congrArg List.length henv) (by simp)
     |cons p2 fe=>
      show AV.tup (AV.convL _ _ (XV.erL (a::a2::vs)))=AV.tup (XV.erL ((p::p2::fe).map (·.2)));rw[aKq,<-henv,hl]
 ·rw[hr.bs];apply jc;intro i;rw[ba,ba];by_cases hi:i<n
  ·rw[List.getElem?_range hi];have h2:=qA st.s.bs i;have hl:i<(erB st.s.bs).length:=by show i<(List.map _ _).length;rw[κ];omega
   rw[ν hl]at h2|-;have h2:(erB st.s.bs)[i]=(bB st.s.bs i).map XB.er:=h2;rw[h2];rfl
  ·rw[bw (by rw[List.length_range];omega),bw (by show(List.map _ _).length<=i;rw[κ];omega)];rfl
 ·rw[hn,hr.own];have:∀l:List Nat,(erB (tV st.s l)).map (fun b=>b.map (Blk.conv st.s.er.lk (phi sl)))=l.map fun j=>(st.s.er.own j).map (Blk.conv st.s.er.lk (phi sl)):=fun l=>by
   induction l with
   |nil=>rfl
   |cons j l ih=>show _::List.map _ (erB (tV st.s l))=_::_;rw[ih];rfl
  exact(this sl).symm
theorem rT[YL]{rs:List RRes}{n:Nat}:∀{l:List XS} {s:XS} {K:RT l->Option R} {r:R},aF5 rs n l s K=some r->∃x,K x=some r/\(dU l x).pv=none/\∀(e:Exit),(e=.normal\/e=.ret)->∀nbs:List Blk,nbs.map some=erB (dU l x).own->
  uR n rs (XV.val (dU l x).env).er (erB (dU l x).bs) nbs e s.er
 |[],_,_,_,h=>by cases h
 |[m],s,K,r,h=>by
  obtain⟨v,h,hp,hv⟩:=bA4 (show bFs rs m n (fun v=>K (toR m.tys v)) (nzF rs m s)=some r from h);refine⟨toR m.tys v,h,?_⟩;have e:dU [m] (toR m.tys v)=m.fill v:=by show m.fill (ofR m.tys (toR m.tys v))=_;rw[wZ]
  rw[e];exact⟨hp,hv⟩
 |m::m2::l,s,K,r,h=>by
  unfold aF5 at h;split at h
  ·obtain⟨v,h,hp,hv⟩:=bA4 h;refine⟨.inl (toR m.tys v),h,?_⟩;have e:dU (m::m2::l) (.inl (toR m.tys v))=m.fill v:=by show m.fill (ofR m.tys (toR m.tys v))=_;rw[wZ]
   rw[e];exact⟨hp,hv⟩
  ·obtain⟨x,h,hx⟩:=rT (l:=m2::l) h;exact⟨.inr x,h,hx⟩
def bJ7(N:Nat)(P:Program)(T:List Sig)(fl:List Nat)(F:List (Nat×Nat×List Nat))(A:List Ann)(d:Nat)(fn:Func)(c:Code)(ent:XS)(out:List XS):fty ent.tys (RT out):=
 match aF P fl fn.ntmps c,dP P fn.ntmps fn.results.toList with
 |some rc,some rs=>match aMs out,ent.bs with
  |false,_=>cuF ent.tys fun v=>eB N T (mkX P fl F A c rc) noX (stS d (ent.fill v)) (bR7 rs ent.bs.length out)
  |true,[]=>cuF ent.tys fun v=>eB N T (mkX P fl F A c rc) qC (stS d (ent.fill v)) (bFw rs out)
  |_,_=>cuF ent.tys fun _=>none
 |_,_=>cuF ent.tys fun _=>none
theorem aD4(len:Hd->Nat):∀(l:List (Nat×XV)) (q:List DS),(aD8 len l q).1.length=l.length
 |[],_=>rfl
 |(_,_)::l,q=>congrArg (· +1) (aD4 len l _)
theorem wC(len:Hd->Nat):∀(l:List (Option XB)) (q:List DS),(sQ len l q).1.length=l.length
 |[],_=>rfl
 |none::l,q=>congrArg (· +1) (wC len l _)
 |some _::l,q=>congrArg (· +1) (wC len l _)
theorem bA1(h:m.pv=some w)(v:tup m.tys):(m.fill v).pv=some w:=by
 unfold XS.pv at h;split at h
 ·rename_i k u he;split at h
  ·rename_i hk;cases h;have:(m.fill v).env=[(k,.c w)]:=by show(aD8 _ m.env _).1=_;rw[he];rfl
   unfold XS.pv;rw[this];show(match au k 1000000 with|true=>some w|false=>none)=some w;rw[hk]
  ·cases h
 ·cases h
theorem aDk(h:m.own=[])(v:tup m.tys):(m.fill v).own=[]:=by show(sQ _ m.own _).1=[];rw[h];rfl
theorem aRl{pv:Value}:∀{l:List XS} {K:RT l->Option R} {r:R},bDb pv l K=some r->∃x,K x=some r/\(dU l x).pv=some pv/\(dU l x).own=[]
 |[],_,_,h=>by cases h
 |[m],K,r,h=>by
  unfold bDb at h;split at h
  case h_2=>cases h
  rename_i w v hw ho ht;split at h
  case h_2=>cases h
  rename_i he;refine⟨_,h,?_⟩;have e:dU [m] (toR m.tys v)=m.fill v:=by show m.fill (ofR m.tys (toR m.tys v))=_;rw[wZ]
  rw[e,<-aQy he];exact⟨bA1 hw v,aDk ho v⟩
 |m::m2::l,K,r,h=>by
  unfold bDb at h;split at h
  ·rename_i w v hw ho ht;split at h
   ·rename_i he;refine⟨_,h,?_⟩;have e:dU (m::m2::l) (.inl (toR m.tys v))=m.fill v:=by show m.fill (ofR m.tys (toR m.tys v))=_;rw[wZ]
    rw[e,<-aQy he];exact⟨bA1 hw v,aDk ho v⟩
   ·obtain⟨x,h,hx⟩:=aRl (l:=m2::l) h;exact⟨.inr x,h,hx⟩
  ·obtain⟨x,h,hx⟩:=aRl (l:=m2::l) h;exact⟨.inr x,h,hx⟩
abbrev pan(v:Value):Exit:=.panic [{v:=v,recovered:=false}]
theorem bSt{len:Hd->Nat}{u:Value}:∀{v:XV} {l:List DS},(XV.fil len v l).1=.c u->v=.c u:=by
 intro v l h;cases v with
 |d t x=>
  cases l with
  |nil=>cases h
  |cons p l=>
   obtain⟨t',x'⟩:=p;have h:aN6 t' x'=.c u:=h;unfold aN6 at h;split at h<;>cases h
 |c w=>exact h
 |sl hd t o n=>match l,h with
  |[],h=>cases h
  |[_],h=>cases h
  |_::_::_,h=>cases h
 |_=>cases h
theorem aLk{v:tup m.tys}(h:(m.fill v).pv=some w):m.pv=some w:=by
 unfold XS.pv at h;split at h
 case h_2=>cases h
 rename_i k u he;have he:(aD8 _ m.env _).1=[(k,.c u)]:=he;revert he;cases hm:m.env with
 |nil=>intro he;cases he
 |cons p l=>
  obtain⟨k0,v0⟩:=p;cases l with
  |nil=>
   intro he;have he:[(k0,_)]=[(k,XV.c u)]:=he;have h1:=(Prod.mk.inj (List.cons.inj he).1);have h2:=bSt h1.2;have h3:=h1.1;subst h2 h3;unfold XS.pv;rw[hm];exact h
  |cons q l=>
   obtain⟨k1,v1⟩:=q;intro he;exact absurd (congrArg List.length he) (by simp[aD8])
theorem bDw:∀{l:List XS} {r:RT l},aMs l=false->(dU l r).pv=none
 |[],_,_=>rfl
 |[m],r,h=>by
  have h:(m.pv.isSome||false)=false:=h;rw[Bool.or_false]at h;show(m.fill _).pv=none;cases hp:(m.fill (ofR m.tys r)).pv with
  |none=>rfl
  |some w=>rw[aLk hp]at h;cases h
 |m::m2::l,.inl r,h=>by
  have h:(m.pv.isSome||aMs (m2::l))=false:=h;rw[Bool.or_eq_false_iff]at h;show(m.fill _).pv=none;cases hp:(m.fill (ofR m.tys r)).pv with
  |none=>rfl
  |some w=>rw[aLk hp]at h;cases h.1
 |m::m2::l,.inr r,h=>by have h:(m.pv.isSome||aMs (m2::l))=false:=h;rw[Bool.or_eq_false_iff]at h;exact bDw (l:=m2::l) h.2
def aQh[YL](rs:List RRes)(o:XS)(nbs:List Blk):Exit->AState->Prop:=fun e s=>match o.pv with
 |some pv=>e=pan pv
 |none=>uR 0 rs (XV.val o.env).er (erB o.bs) nbs e s
theorem bD3[YL]{r:RT out}{e:Exit}(h:bFw rs out e s=some r)(hnbs:nbs.map some=erB (dU out r).own):aQh rs (dU out r) nbs e s.er:=by
 unfold bFw at h;split at h
 ·obtain⟨x,hx,hp,hq⟩:=rT h;cases hx;unfold aQh;rw[hp];exact hq _ (.inl rfl) nbs hnbs
 ·obtain⟨x,hx,hp,hq⟩:=rT h;cases hx;unfold aQh;rw[hp];exact hq _ (.inr rfl) nbs hnbs
 ·obtain⟨x,hx,hp,_⟩:=aRl h;cases hx;unfold aQh;rw[hp]
 ·cases h
theorem AOut.of_bodyX(fl:List Nat){rc:RCode}{args:List AV}{pv:Value}{o:Option (AV×List Blk)}{bs':List (Option Blk)}(s0:AState)
  (hf:P.funcs[f]?=some fn) (hb:fn.body=some c) (hname:(fn.name== "runtime.NumGoroutine")=false) (hm:P.follows .mixedOrders=true) (hrc:aF P fl fn.ntmps c=some rc) (hrs:dP P fn.ntmps fn.results.toList=some rs)
  (hn:args.length<=fn.ntmps) (hw0:Wk (entry args []) s0) (h:eG P iN rc (fun e s=>match o with
   |some p=>uR 0 rs p.1 bs' p.2 e s
   |none=>e=pan pv) s0):match o with
   |some p=>ACall P f args [] p.1 bs' p.2
   |none=>aTi P f args pv:=by
 have hrs0:=aJw hrs;cases o with
 |some p=>
  refine fun w G m vs hS hO hA=>.inl ⟨⟨fn,hf,by rw[hb];rfl,hname⟩,aDv (r:=none) (n:=0) (callsIn_of_wp hf hb (oX none f) ?_)⟩;have hent:=aAr true hn hS hO hA;have hsim0:=hw0 _ _ _ ⟨G,m,hent⟩;refine wpIn_mono (aV hm hrc none iN _ _ _ _ _ YOk.body rfl h hsim0) fun e a' w' ⟨s00,⟨s,hw,hq⟩,hA0⟩=>?_;obtain⟨G1,m1,hA'⟩:=hw _ _ _ hA0;obtain⟨v,hv,hp⟩:=aHa (bs:=[]) hrs0 rfl rfl rfl rfl hS hA' hq;have hd:a'.defers=[]:=(cK.1 hA'.defers).2.2 rfl;rcases hq.1 with rfl|rfl<;>exact⟨hd,v,hv,v,rfl,hp⟩
 |none=>
  refine fun w G m vs hS hO hA=>⟨⟨fn,hf,by rw[hb];rfl,hname⟩,aDv (r:=none) (n:=0) (callsIn_of_wp hf hb (oX none f) ?_)⟩;have hent:=aAr true hn hS hO hA;have hsim0:=hw0 _ _ _ ⟨G,m,hent⟩;refine wpIn_mono (aV hm hrc none iN _ _ _ _ _ YOk.body rfl h hsim0) fun e a' w' ⟨s,hq,G1,m1,hA'⟩=>?_;have hq:e=.panic [{v:=pv,recovered:=false}]:=hq;subst hq;have hd:a'.defers=[]:=(cK.1 hA'.defers).2.2 rfl;exact⟨hd,rfl,bL4 (P:=P) rfl rfl rfl rfl hS hA' rfl rfl⟩
theorem bMa(N:Nat){T:List Sig}(hT:kJ P T)(fl:List Nat)(A:List Ann)(d:Nat)(RF:List (Nat×Nat×List Nat)){F:fty ent.tys (RT out)}(hf:P.funcs[f]?=some fn)(hb:fn.body=some c)(hname:(fn.name== "runtime.NumGoroutine")=false)(hm:P.follows .mixedOrders=true)
  (hn:ent.env.length<=fn.ntmps) (hF:∀a,apF ent.tys F a=apF ent.tys (bJ7 N P T fl RF A d fn c ent out) a):aD P ⟨f,ent,out,F⟩:=by
 intro _ v r h nbs hnbs;have h:apF ent.tys F v=some r:=h;rw[hF]at h;unfold bJ7 at h;split at h
 case h_2=>rw[dR]at h;cases h
 rename_i rc rs hrc hrs;have hlen:(erB (ent.fill v).bs).length=ent.bs.length:=by show(List.map _ (sQ _ ent.bs _).1).length=_;rw[κ,wC]
 have hargs:((ent.fill v).env.map fun p=>p.2.er).length<=fn.ntmps:=by show(List.map _ (aD8 _ ent.env _).1).length<=_;rw[κ,aD4];exact hn
 show aFk P f _ _ (dU out r) nbs;split at h
 ·rw[dR]at h;rename_i hany;have hpv:(dU out r).pv=none:=bDw hany;unfold aFk;rw[hpv];refine ACall.of_bodyX fl _ hf hb hname hm hrc hrs hargs (bFk d (ent.fill v)) ?_;have:=bU hT (aG8 P fl RF A c rc) _ noX noY YRel.no h (Q:=uR ent.bs.length rs (XV.val (dU out r).env).er (erB (dU out r).bs) nbs) fun e s' h=>by
   cases e with
   |normal=>
    obtain⟨x,hx,_,hq⟩:=rT (show aF5 rs ent.bs.length out s' some=some r from h);cases hx;exact hq _ (.inl rfl) nbs hnbs
   |ret=>
    obtain⟨x,hx,_,hq⟩:=rT (show aF5 rs ent.bs.length out s' some=some r from h);cases hx;exact hq _ (.inr rfl) nbs hnbs
   |_=>cases h
  rw[aGr]at this;rw[hlen];exact this
 ·rename_i hbs;rw[dR]at h;have hb0:erB (ent.fill v).bs=[]:=by rw[aX9 hbs];rfl
  have hrun:=bU hT (aG8 P fl RF A c rc) _ qC iN YRel.body h (Q:=aQh rs (dU out r) nbs) fun e s' h=>bD3 h hnbs;rw[aGr]at hrun;rw[hb0];have hwk:=bFk d (ent.fill v);rw[hb0]at hwk;unfold aFk;cases hp:(dU out r).pv with
  |none=>
   refine AOut.of_bodyX fl (pv:=.nilIface) (o:=some ((XV.val (dU out r).env).er,nbs)) _ hf hb hname hm hrc hrs hargs hwk ?_;have e:aQh rs (dU out r) nbs=uR 0 rs (XV.val (dU out r).env).er (erB (dU out r).bs) nbs:=by funext e s;unfold aQh;rw[hp]
   rw[e]at hrun;exact hrun
  |some pv=>
   intro _;refine AOut.of_bodyX fl (pv:=pv) (o:=none) (bs':=[]) _ hf hb hname hm hrc hrs hargs hwk ?_;have e:aQh rs (dU out r) nbs=fun e _=>e=pan pv:=by funext e s;unfold aQh;rw[hp]
   rw[e]at hrun;exact hrun
 ·rw[dR]at h;cases h
theorem bUi(N:Nat){T:List Sig}(hT:kJ P T)(fl:List Nat)(A:List Ann)(d:Nat){F:fty ent.tys (RT out)}(hf:P.funcs[f]?=some fn)(hb:fn.body=some c)(hname:(fn.name== "runtime.NumGoroutine")=false)(hm:P.follows .mixedOrders=true)
  (hn:ent.env.length<=fn.ntmps) (hF:∀a,apF ent.tys F a=apF ent.tys (bJ7 N P T fl [] A d fn c ent out) a):aD P ⟨f,ent,out,F⟩:=bMa N hT fl A d [] hf hb hname hm hn hF
theorem tc{a:Sig}{T:List Sig}(h:aD P a)(t:kJ P T):kJ P (a::T):=⟨h,t⟩
theorem tn:kJ P []:=trivial
theorem xf(N:Nat){T:List Sig}(hT:kJ P T)(fl:List Nat)(A:List Ann)(d:Nat){F:fty ent.tys (RT out)}(hf:P.funcs[f]?=some fn)(hb:fn.body=some c)(hk:(!(fn.name== "runtime.NumGoroutine")&&(P.follows .mixedOrders&&m9 ent.env.length fn.ntmps))=true)(hF:∀a,apF ent.tys F a=apF ent.tys (bJ7 N P T fl [] A d fn c ent out) a):aD P ⟨f,ent,out,F⟩:=by simp only[μ,dn]at hk;exact bUi N hT fl A d hf hb hk.1 hk.2.1 (ez hk.2.2) hF
def dd(t:Ty):XV:=.d t t.z
end
section
variable{R:Type}
def aAt(P:Program)(u u1:FrameMode)(g:Sig):Prop:=∀[YL] (v:tup g.ent.tys) (r:RT g.out),apF g.ent.tys g.F v=some r->(dU g.out r).own=[]->
 DRec P g.fn ((g.ent.fill v).env.map fun p=>p.2.er) (erB (g.ent.fill v).bs) u u1 (erB (dU g.out r).bs)
def bSj(t:Nat)(pv:Value)(s:XS):XS:={env:=(t,.c pv)::aCn 0 (xM s.env),bs:=s.bs,own:=[]}
def bSi(s:XS):XS:={env:=aCn 0 (xM s.env),bs:=s.bs,own:=[]}
theorem aY3[YL](l:List (Nat×XV))(t:Nat):(aR (aCn 0 (xM l)) t).er=(l.map fun p=>p.2.er).getD t .un\/(aR (aCn 0 (xM l)) t).er=.any:=by
 rw[aAg,if_pos (fo _),Nat.sub_zero];have:∀(l:List (Nat×XV)) (i:Nat),(wR (xM l) i).er=(l.map fun p=>p.2.er).getD i .un\/(wR (xM l) i).er=.any:=fun l=>by
  induction l with
  |nil=>intro i;exact .inr rfl
  |cons v l ih=>
   intro i;cases i with
   |zero=>exact .inl rfl
   |succ i=>
    rcases ih i with h|h
    ·left;show(wR (xM l) i).er=(v.2.er::l.map fun p=>p.2.er).getD (i+1) .un;rw[h,nu]
    ·exact .inr h
 exact this l t
theorem bI1[YL](s:XS):Wk (entry (s.env.map fun p=>p.2.er) (erB s.bs)) (bSi s).er:=by refine Wk.any (fun i=>?_) (fun i=>rfl) rfl fun t=>aY3 s.env t;show(bB s.bs i).map XB.er=((erB s.bs)[i]?).join;rw[qA]
theorem bLg[YL](t:Nat)(pv:Value)(s:XS):Wk (bIu (s.env.map fun p=>p.2.er) (erB s.bs) t pv) (bSj t pv s).er:=by
 have e:bIu (s.env.map fun p=>p.2.er) (erB s.bs) t pv={env:=fun i=>if i=t then .D (.C pv)else(s.env.map fun p=>p.2.er).getD i .un,bs:=fun i=>((erB s.bs)[i]?).join,own:=fun _=>none,nx:=0}:=by
  refine AState.ext' (fun i=>?_) (fun i=>?_) (fun i=>?_) rfl
  ·show upd _ t _ i=_;unfold upd;rfl
  ·rfl
  ·rfl
 rw[e];refine Wk.any (fun i=>?_) (fun i=>rfl) rfl fun i=>?_
 ·show(bB s.bs i).map XB.er=((erB s.bs)[i]?).join;rw[qA]
 ·show(if au i t then XV.c pv else aR (aCn 0 (xM s.env)) i).er=_\/_;show(if au i t then XV.c pv else aR (aCn 0 (xM s.env)) i).er=(if i=t then AV.D (DV.C pv)else(List.map (fun p=>p.snd.er) s.env).getD i AV.un)\/(if au i t then XV.c pv else aR (aCn 0 (xM s.env)) i).er=.any;by_cases h:i=t
  ·left;rw[if_pos (by rw[gw];exact h),if_pos h];rfl
  ·rw[if_neg (by rw[gw];exact h),if_neg h];exact aY3 s.env i
def bUt:Code->Option (Nat×Code)
 |.seq (.region _ ops false) rest=>match ops.toList with
  |[o]=>match o.dst with
   |some t=>some (t,rest)
   |none=>none
  |_=>none
 |_=>none
def bMk(N:Nat)(P:Program)(T:List Sig)(fl:List Nat)(A:List Ann)(pv:Value)(t:Nat)(fn:Func)(rest:Code)(ent:XS)(out:List XS):fty ent.tys (RT out):=
 match aF P fl fn.ntmps rest,dP P fn.ntmps fn.results.toList with
 |some rc,some rs=>cuF ent.tys fun v=>eB N T (mkX P fl [] A rest rc) qC (bSj t pv (ent.fill v)) (bR7 rs ent.bs.length out)
 |_,_=>cuF ent.tys fun _=>none
theorem bNh(N:Nat){T:List Sig}(hT:kJ P T)(fl:List Nat)(A:List Ann){id t:Nat}{o:Oper}{cl:Call}{rest:Code}{pv:Value}{F:fty ent.tys (RT out)}
  (hf:P.funcs[f]?=some fn) (hb:fn.body=some (.seq (.region id #[o] false) rest)) (hname:(fn.name== "runtime.NumGoroutine")=false)
  (ho:o.op=.call cl) (hcl:cl.callee=.builtin .recover) (hca:cl.args=#[]) (hog:o.guard=none) (hot:o.dst=some t) (ht:t<fn.ntmps) (hm:P.follows .mixedOrders=true) (hrec:aZd u u1 pv)
  (hn:ent.env.length<=fn.ntmps) (hF:∀a,apF ent.tys F a=apF ent.tys (bMk N P T fl A pv t fn rest ent out) a):aAt P u u1 ⟨f,ent,out,F⟩:=by
 intro _ v r h hown;have h:apF ent.tys F v=some r:=h;rw[hF]at h;unfold bMk at h;split at h
 case h_2=>rw[dR]at h;cases h
 rename_i rc rs hrc hrs;rw[dR]at h;have hlen:(erB (ent.fill v).bs).length=ent.bs.length:=by show(List.map _ (sQ _ ent.bs _).1).length=_;rw[κ,wC]
 have hargs:((ent.fill v).env.map fun p=>p.2.er).length<=fn.ntmps:=by show(List.map _ (aD8 _ ent.env _).1).length<=_;rw[κ,aD4];exact hn
 have hown:(dU out r).own=[]:=hown;refine DRec.of_body fl (r:=(XV.val (dU out r).env).er) hf hb hname ho hcl hca hog hot ht hm hrc hrs hargs hrec (bLg t pv (ent.fill v)) ?_;rw[hlen];have:=bU hT (aG8 P fl [] A rest rc) _ qC iN YRel.body h (Q:=uR ent.bs.length rs (XV.val (dU out r).env).er (erB (dU out r).bs) []) fun e s' h=>by
  cases e with
  |normal=>
   obtain⟨x,hx,_,hq⟩:=rT (show aF5 rs ent.bs.length out s' some=some r from h);cases hx;exact hq _ (.inl rfl) [] (by rw[hown];rfl)
  |ret=>
   obtain⟨x,hx,_,hq⟩:=rT (show aF5 rs ent.bs.length out s' some=some r from h);cases hx;exact hq _ (.inr rfl) [] (by rw[hown];rfl)
  |_=>cases h
 rw[aGr]at this;exact this
def bTq(N:Nat)(vs:List XV)(s:XS):XS:={s with env:=ltE N s.env++aCn (N+1) vs}
theorem aKc(N:Nat)(l2:List (Nat×XV))(h2:∀i,i<N->aR l2 i=.any):∀(l:List (Nat×XV)) (i:Nat),i<N->aR (ltE N l++l2) i=aR l i
 |[],i,h=>h2 i h
 |(k,v)::l,i,h=>by
  unfold ltE;split
  ·show(if au i k then v else aR (ltE N l++l2) i)=if au i k then v else aR l i
   rw[aKc N l2 h2 l i h]
  ·rename_i hk;have hk:¬k<N:=fun h=>by rw[show ny k N=true by rw[Nat.blt_eq];exact h]at hk;cases hk
   show aR (ltE N l++l2) i=if au i k then v else aR l i
   rw[aKc N l2 h2 l i h,if_neg (by rw[gw];omega)]
theorem aMv(N:Nat)(l2:List (Nat×XV)):∀(l:List (Nat×XV)) (i:Nat),N<=i->aR (ltE N l++l2) i=aR l2 i
 |[],i,h=>rfl
 |(k,v)::l,i,h=>by
  unfold ltE;split
  ·rename_i hk;have hk:k<N:=by rwa[Nat.blt_eq]at hk
   show(if au i k then v else aR (ltE N l++l2) i)=_;rw[if_neg (by rw[gw];omega),aMv N l2 l i h]
  ·exact aMv N l2 l i h
theorem aTz[YL]:∀(vs:List XV) (i:Nat),(wR vs i).er=(XV.erL vs).getD i .any
 |[],i=>by cases i<;>rfl
 |v::vs,0=>rfl
 |v::vs,i+1=>by show(wR vs i).er=(v.er::XV.erL vs).getD (i+1) .any;rw[aTz vs i,nu]
theorem bL9[YL](N:Nat)(vs:List XV)(s:XS):(bTq N vs s).er=bHy N (XV.erL vs) s.er:=by
 refine AState.ext' (fun i=>?_) (fun i=>rfl) (fun i=>rfl) rfl;show(aR (ltE N s.env++aCn (N+1) vs) i).er=if i<N then(aR s.env i).er else if i=N then .any else(XV.erL vs).getD (i-N-1) .any
 by_cases h:i<N
 ·rw[if_pos h,aKc N _ (fun j hj=>by rw[aAg,if_neg (by omega)]) _ i h]
 ·rw[if_neg h,aMv N _ _ i (by omega),aAg];by_cases h2:i=N
  ·rw[if_pos h2,if_neg (by omega)];rfl
  ·rw[if_neg h2,if_pos (by omega),aTz];rw[Nat.sub_sub]
def dvX(N:Nat)(s:XS):Nat->List XV
 |0=>[]
 |n+1=>dvX N s n++[aR s.env (N+1+n)]
theorem aWj[YL](N:Nat)(s:XS):∀n,XV.erL (dvX N s n)=aI1 N s.er n
 |0=>rfl
 |n+1=>by show XV.erL (dvX N s n++[_])=aI1 N s.er n++[_];rw[rH,aWj N s n];rfl
def aVr:List XS->Bool
 |[]=>true
 |m::l=>(match m.own with
  |[]=>true
  |_=>false)&&aVr l
theorem aUn:∀{l:List XS} (r:RT l),aVr l=true->(dU l r).own=[]
 |[],_,_=>rfl
 |[m],r,h=>by
  have h:((match m.own with|[]=>true|_=>false)&&true)=true:=h;rw[jl]at h;split at h
  ·rename_i ho;exact aDk ho _
  ·cases h
 |m::m2::l,.inl r,h=>by
  have h:((match m.own with|[]=>true|_=>false)&&aVr (m2::l))=true:=h;rw[μ]at h;obtain⟨h,_⟩:=h;split at h
  ·rename_i ho;exact aDk ho _
  ·cases h
 |m::m2::l,.inr r,h=>by have h:((match m.own with|[]=>true|_=>false)&&aVr (m2::l))=true:=h;rw[μ]at h;exact aUn (l:=m2::l) r h.2
def bDs(g:Sig)(N k:Nat)(s:XS)(K:XS->Option R):Option R:=match aVr g.out,bF5 (bP1 vrB s 0 g.ent.bs (bF7 vrB (wR (dvX N s k)) g.ent.env (aVs g.ent.bs)))with
 |true,some hs=>aJy s g (dvX N s k) none K hs
 |_,_=>none
def aWf(g:Sig)(N k:Nat)(rs:List RRes)(n:Nat)(out:List XS)(s:XS):Option (RT out):=bDs g N k s fun s'=>aF5 rs n out s' some
def bMv(gr gp:Sig)(pv:Value)(N k:Nat)(rs:List RRes)(n:Nat)(out:List XS):Exit->XS->Option (RT out)
 |.normal,s=>aWf gr N k rs n out s
 |.ret,s=>aWf gr N k rs n out s
 |.panic [⟨v,false,false⟩],s=>match bHx v pv with
  |true=>aWf gp N k rs n out s
  |false=>none
 |_,_=>none
def bH4(N:Nat)(T:List Sig){R:Type}[DecidableEq R](K2:Exit->XS->Option R):List XC->XS->(XS->Option R)->Option R
 |[],s,K=>K s
 |c::cs,s,K=>eB N T c qC s (bCn (fun s'=>bH4 N T K2 cs s' K) K2)
def bRm(rs:List RRes)(n:Nat)(out:List XS):Exit->XS->Option (RT out)
 |.ret,s=>aF5 rs n out s some
 |_,_=>none
def bGc:Code->List Code
 |.seq a b=>a::bGc b
 |c=>[c]
def bE3:Nat->Code->Code
 |0,c=>c
 |n+1,.seq _ b=>bE3 n b
 |_,c=>c
def bB1(P:Program)(fl:List Nat):List (List Ann)->List Code->List RCode->List XC
 |AP,c::cs,rc::rcs=>mkX P fl [] (AP.headD []) c rc::bB1 P fl AP.tail cs rcs
 |AP,[],rc::rcs=>mkX P fl [] [] .skip rc::bB1 P fl AP.tail [] rcs
 |_,_,[]=>[]
def bMl:List Code->Nat->List Oper
 |[],_=>[]
 |c::_,0=>match c with
  |.region _ ops _=>ops.toList
  |_=>[]
 |_::cs,n+1=>bMl cs n
def bHm(N:Nat)(P:Program)(T:List Sig)(fl:List Nat)(A:List Ann)(AP:List (List Ann))(gr gp:Sig)(pv:Value)(fn:Func)(c:Code)(ent:XS)(out:List XS):fty ent.tys (RT out):=
 match dM P fl fn.ntmps c,dP P fn.ntmps fn.results.toList with
 |some (rcs,ros,g,xs,rc),some rs=>match au g gr.fn&&au g gp.fn with
  | true=>cuF ent.tys fun v=>bH4 N T (bRm rs ent.bs.length out) (bB1 P fl AP (bGc c) rcs) (bSi (ent.fill v)) fun s=>aEi T (zA ros ((bMl (bGc c) rcs.length).map (aAh P))) s fun s=>wL s xs fun vs =>
    eB N T (mkX P fl [] A (bE3 (rcs.length+1) c) rc) qC (bTq fn.ntmps vs s) (bMv gr gp pv fn.ntmps xs.length rs ent.bs.length out)
  |false=>cuF ent.tys fun _=>none
 |_,_=>cuF ent.tys fun _=>none
theorem aRy[YL]{P:Program}{N:Nat}{T:List Sig}(hT:kJ P T){fl:List Nat}[DecidableEq R]{r:R}{KP:AState->Prop}{Q:Exit->AState->Prop}{K:XS->Option R}{K2:Exit->XS->Option R}(hK:∀s,K s=some r->KP s.er)(hQ:∀e s,K2 e s=some r->Q e s.er):∀{AP:List (List Ann)} {cs:List Code} {rcs:List RCode} {s:XS},bH4 N T K2 (bB1 P fl AP cs rcs) s K=some r->aC9 P rcs KP Q s.er
 |_,[],[],s,h=>hK s h
 |_,_::_,[],s,h=>hK s h
 |AP,[],rc::rcs,s,h=>by
  have h:eB N T (mkX P fl [] [] .skip rc) qC s (bCn (fun s'=>bH4 N T K2 (bB1 P fl AP.tail [] rcs) s' K) K2)=some r:=h;have:=bU hT (aG8 P fl [] [] .skip rc) _ qC iN YRel.body h (Q:=zL (aC9 P rcs KP Q) Q) fun e s' h=>by
   cases e with
   |normal=>exact aRy hT hK hQ h
   |_=>exact hQ _ _ h
  rw[aGr]at this;exact this
 |AP,c::cs,rc::rcs,s,h=>by
  have h:eB N T (mkX P fl [] (AP.headD []) c rc) qC s (bCn (fun s'=>bH4 N T K2 (bB1 P fl AP.tail cs rcs) s' K) K2)=some r:=h;have:=bU hT (aG8 P fl [] (AP.headD []) c rc) _ qC iN YRel.body h (Q:=zL (aC9 P rcs KP Q) Q) fun e s' h=>by
   cases e with
   |normal=>exact aRy hT hK hQ h
   |_=>exact hQ _ _ h
  rw[aGr]at this;exact this
theorem aKg[YL]{g:Sig}(hg:aAt P u u1 g){r:RT out}(h:aWf g N k rs n out s=some r)(hnbs:nbs.map some=erB (dU out r).own):
  ∃hs bs2,hs.Nodup/\aN1 s.er.nx hs=true/\(∀h∈hs,(s.er.lk h).any Blk.isIt=false)/\bs2.length=hs.length/\
   DRec P g.fn (AV.convL s.er.lk (aBs hs) (aI1 N s.er k)) (vG s.er.lk hs) u u1 bs2/\uR n rs (XV.val (dU out r).env).er (erB (dU out r).bs) nbs .ret (fK s.er hs (aI1 N s.er k) none .any bs2 []):=by
 unfold aWf bDs at h;split at h
 case h_2=>cases h
 rename_i hds hno _;obtain⟨v,rr,bl,hr,hbl,hpv,hargs,hh,c1,c2,c3,c4,c5,hk,he⟩:=aKb h;have hown:=aUn rr hno;have hrec:=hg v rr hr hown;rw[hargs,<-hh,aWj]at hrec;obtain⟨x,hx,_,hq⟩:=rT hk;cases hx;have hend:=hq .ret (.inr rfl) nbs hnbs;rw[he,aWj]at hend;have hbl0:bl=[]:=by rw[hown]at hbl;exact jd.1 (jd.1 hbl)
 subst hbl0;exact⟨hds,_,c1,c2,c4,c5,hrec,hend⟩
theorem bSq(N:Nat){T:List Sig}(hT:kJ P T)(fl:List Nat)(A:List Ann)(AP:List (List Ann)){gr gp:Sig}{pv:Value}(hgr:aAt P .returning .returning gr)(hgp:aAt P (.panicking [{v:=pv,recovered:=false}]) (.panicking [{v:=pv,recovered:=true}]) gp){F:fty ent.tys (RT out)}(hf:P.funcs[f]?=some fn)(hb:fn.body=some c)(hname:(fn.name== "runtime.NumGoroutine")=false)(hm:P.follows .mixedOrders=true)
  (hno:aMs out=false) (hn:ent.env.length<=fn.ntmps) (hF:∀a,apF ent.tys F a=apF ent.tys (bHm N P T fl A AP gr gp pv fn c ent out) a):aD P ⟨f,ent,out,F⟩:=by
 intro _ v r h nbs hnbs;have h:apF ent.tys F v=some r:=h;rw[hF]at h;unfold bHm at h;split at h
 case h_2=>rw[dR]at h;cases h
 rename_i rcs ros g xs rc rs hrc hrs;split at h
 case h_2=>rw[dR]at h;cases h
 rename_i hg;rw[dR]at h;rw[μ]at hg;have hg1:=η hg.1;have hg2:=η hg.2;have hlen:(erB (ent.fill v).bs).length=ent.bs.length:=by show(List.map _ (sQ _ ent.bs _).1).length=_;rw[κ,wC]
 have hargs:((ent.fill v).env.map fun p=>p.2.er).length<=fn.ntmps:=by show(List.map _ (aD8 _ ent.env _).1).length<=_;rw[κ,aD4];exact hn
 show aFk P f _ _ (dU out r) nbs;unfold aFk;rw[bDw hno];refine ACall.of_bodyRR fl hf hb hname hm hrc hrs hargs (bI1 (ent.fill v)) ?_;rw[hlen];refine aRy hT (fun s h=>?_) (fun e s h=>?_) h
 case refine_2=>
  cases e with
  |ret=>
   obtain⟨x,hx,_,hq⟩:=rT (show aF5 rs ent.bs.length out s some=some r from h);cases hx;exact hq _ (.inr rfl) nbs hnbs
  |_=>cases h
 have:=lI hT h (KP:=fun s'=>eG P iN rc (aZl P fn.ntmps ent.bs.length g xs.length rs (XV.val (dU out r).env).er (erB (dU out r).bs) nbs) (bHy fn.ntmps (xs.map s'.ev) s')) fun s' h=>by
  obtain⟨vs,h,e⟩:=aNi h;rw[e,<-bL9];have:=bU hT (aG8 P fl [] A _ rc) _ qC iN YRel.body h (Q:=aZl P fn.ntmps ent.bs.length g xs.length rs (XV.val (dU out r).env).er (erB (dU out r).bs) nbs) fun e s2 h=>by
   unfold bMv at h;split at h
   ·obtain⟨hs,bs2,q⟩:=aKg hgr h hnbs;rw[<-hg1]at q;exact⟨_,_,.inl ⟨.inl rfl,rfl,rfl⟩,hs,bs2,q⟩
   ·obtain⟨hs,bs2,q⟩:=aKg hgr h hnbs;rw[<-hg1]at q;exact⟨_,_,.inl ⟨.inr rfl,rfl,rfl⟩,hs,bs2,q⟩
   ·split at h
    ·rename_i w _ he;obtain rfl:=aQy he;obtain⟨hs,bs2,q⟩:=aKg hgp (by assumption) hnbs;rw[<-hg2]at q;exact⟨_,_,.inr ⟨_,rfl,rfl,rfl⟩,hs,bs2,q⟩
    ·cases h
   ·cases h
  rw[aGr]at this;exact this
 rw[pZ]at this;exact this
theorem bM8(N:Nat){T:List Sig}(hT:kJ P T)(fl:List Nat)(A:List Ann){gr gp:Sig}{pv:Value}(hgr:aAt P .returning .returning gr)(hgp:aAt P (.panicking [{v:=pv,recovered:=false}]) (.panicking [{v:=pv,recovered:=true}]) gp){F:fty ent.tys (RT out)}(hf:P.funcs[f]?=some fn)(hb:fn.body=some c)(hname:(fn.name== "runtime.NumGoroutine")=false)(hm:P.follows .mixedOrders=true)
  (hno:aMs out=false) (hn:ent.env.length<=fn.ntmps) (hF:∀a,apF ent.tys F a=apF ent.tys (bHm N P T fl A [] gr gp pv fn c ent out) a):aD P ⟨f,ent,out,F⟩:=bSq N hT fl A [] hgr hgp hf hb hname hm hno hn hF
end
end Go.Eng
namespace Go.Eng
open Go.RowKit Go.ChangeShapes Go.WideShapes Go.ChangeAt
variable{P:Program}{t e:TypeId}{G:Gh}{m:HM}{W w:World}{v:Value}{α H:Type}{k base:Nat}{cs:List Value}{ds:List DV}{f:Nat->Option Value}{vs:Array Value}{d:TypeDesc}
def gOf(w:World):Gh:=fun b o=>w.cell? ⟨b,o,none⟩
def CRep(G:Gh)(ds:List DV)(cs:List Value):Prop:=ds.length=cs.length/\DV.cells G (fun j=>cs[j]?) 0 ds
theorem CRep.nil:CRep G [] []:=⟨rfl,by simp[DV.cells]⟩
theorem CRep.app{d1 d2:List DV}(n:Nat)(h1:CRep G d1 (cs.take n))(h2:CRep G d2 (cs.drop n)):CRep G (d1++d2) cs:=by
 obtain⟨l1,c1⟩:=h1;obtain⟨l2,c2⟩:=h2;rw[bn]at l1;rw[aw]at l2;refine⟨by rw[ι];omega,DV.cells_append (DV.cells_congr (fun i hi=>?_) c1) (DV.cells_congr (o:=0) (fun i hi=>?_) c2)⟩
 ·simp only[bg];rw[c6 (by omega)]
 ·simp only[bg];rw[fq];rcases dj n cs.length with h|h
  ·rw[show d1.length=n by omega]
  ·exfalso;omega
theorem CRep.one{d:DV}(h:DV.Rep G d v):CRep G [d] [v]:=⟨rfl,by simp[DV.cells];exact h⟩
structure Cv (P:Program) (t:TypeId) {α:Type} (row:α->List DV) (k:Nat) (ok:α->Prop):Prop where
 len:∀x,(row x).length=k
 cells:P.cellsOf t=k
 get:∀{H:Type} (enc:TypeId×Value->H) (w:World) (spare:Nat->Bool) (held:Bool) (fuel:Nat) (cs:List Value) (r:DataW H×List MemPlace),DataW.trod enc P w 0 spare held fuel t cs=some r->∃x,ok x/\CRep (gOf w) (row x) cs
theorem Cv.int{P:Program}{t:TypeId}{k:IntKind}(ht:P.underlying t=some (.int k))(hc:P.cellsOf t=1):Cv P t (Ty.i k).ds 1 fun n=>k.min<=n/\n<=k.max:=
 ⟨fun _=>rfl,hc,fun enc w spare held fuel cs r h=>by
  obtain⟨n,rfl,_,hw⟩:=DataW.trod_int ht h;simp only[Lit.wf,μ,decide_eq_true_eq]at hw;exact⟨n,hw,CRep.one (by unfold DV.Rep;rfl)⟩⟩
theorem Cv.bool{P:Program}{t:TypeId}(ht:P.underlying t=some .bool)(hc:P.cellsOf t=1):Cv P t Ty.b.ds 1 fun _=>True:=
 ⟨fun _=>rfl,hc,fun enc w spare held fuel cs r h=>by
  obtain⟨b,rfl,_⟩:=DataW.trod_bool ht h;exact⟨b,trivial,CRep.one (by unfold DV.Rep;rfl)⟩⟩
theorem Cv.string{P:Program}{t:TypeId}(ht:P.underlying t=some .string)(hc:P.cellsOf t=1):Cv P t Ty.s.ds 1 fun s=>s.length<=9223372036854775807:=
 ⟨fun _=>rfl,hc,fun enc w spare held fuel cs r h=>by
  obtain⟨s,rfl,_,hs⟩:=DataW.trod_string ht h;exact⟨s.data.toList,by simpa[maxLen]using hs,CRep.one (by unfold DV.Rep;rfl)⟩⟩
theorem aRk{α:Type}{Q:Nat->α->Prop}:∀(n:Nat),(∀i,i<n->∃x,Q i x)->∃xs:List α,xs.length=n/\∀i x,xs[i]?=some x->Q i x
 |0,_=>⟨[],rfl,fun i x h=>by simp at h⟩
 |n+1,h=>by
  obtain⟨xs,h1,h2⟩:=aRk n (fun i hi=>h i (by omega));obtain⟨x,hx⟩:=h n (by omega);refine⟨xs++[x],by simp[h1],fun i y hy=>?_⟩;rcases dj i xs.length with hi|hi
  ·rw[bp hi]at hy;exact h2 i y hy
  ·rw[bx hi]at hy;have:i-xs.length=0:=by
    rcases Nat.eq_zero_or_pos (i-xs.length)with e|e
    ·exact e
    ·rw[bw (by simp;omega)]at hy;cases hy
   rw[this]at hy;simp at hy;subst hy;rw[show i=n by omega];exact hx
theorem bAb{α:Type}{G:Gh}{row:α->List DV}{k:Nat}{f:Nat->Option Value}(hk:∀x,(row x).length=k):∀(xs:List α) (o:Nat),(∀i x,xs[i]?=some x->DV.cells G f (o+i*k) (row x))->DV.rows G f k o (xs.map row)
 |[],_,_=>by simp[DV.rows]
 |x::xs,o,h=>by simp only[cu];unfold DV.rows;refine⟨hk x,by simpa using h 0 x rfl,bAb hk xs (o+k) (fun i y hy=>?_)⟩;have:=h (i+1) y (by simpa using hy);rwa[Nat.add_mul,Nat.one_mul,Nat.add_comm (i*k) k,<-fw]at this
theorem Cv.slice{P:Program}{t e:TypeId}{α:Type}{row:α->List DV}{k:Nat}{ok:α->Prop}(hE:Cv P e row k ok)(hk:0<k)(ht:P.underlying t=some (.slice e))(hc:P.cellsOf t=1):
  Cv P t (fun xs:List α=>[DV.L (xs.map row)]) 1 fun xs=>xs.length<=9223372036854775807/\∀x∈xs,ok x:=
 ⟨fun _=>rfl,hc,fun enc w spare held fuel cs r h=>by
  rcases Go.Deep.open_slice ht h with⟨rfl,_⟩|⟨a,len,cap,m,n,D,Pl,rfl,_,hl,hm,hmm,_,hi⟩
  ·refine⟨[],⟨by simp,by simp⟩,CRep.one ?_⟩;unfold DV.Rep;exact⟨none,0,rfl,τ _,fun _=>rfl,fun h=>absurd rfl h⟩
  ·have hlm:len<=m:=by rw[hmm];split<;>omega
   obtain⟨xs,h1,h2⟩:=aRk (Q:=fun i x=>ok x/\∃cs',w.cells? 0 (a.add (i*P.cellsOf e)) (P.cellsOf e)=some cs'/\CRep (gOf w) (row x) cs') len (fun i hil=>by
    obtain⟨cs',hc',htr⟩:=hi i (by omega);obtain⟨x,hx,hr⟩:=hE.get enc w spare held n cs' _ htr;exact⟨x,hx,cs',hc',hr⟩)
   refine⟨xs,⟨by rw[h1];simp[maxLen]at hm;omega,fun x hx=>?_⟩,CRep.one ?_⟩
   ·obtain⟨i,hi⟩:=fg hx;exact(h2 i x hi).1
   ·unfold DV.Rep;refine⟨some a,cap,by rw[κ,h1],by rw[κ,h1];exact hl,(fun e=>by cases e),fun hne=>?_⟩;have hx0:∃x,xs[0]?=some x:=by
     cases xs with
     |nil=>simp at hne
     |cons x _=>exact⟨x,rfl⟩
    obtain⟨x0,hx0⟩:=hx0;obtain⟨_,cs0,hc0,hl0,_⟩:=h2 0 x0 hx0;obtain⟨_,hcl0,hat0⟩:=World.cells?_some hc0;rw[hE.cells]at hcl0 hat0;have hspot:a=⟨a.block,a.off,none⟩:=by
     have h3:=hat0 0 hk;have h4:(cs0[0]?).isSome=true:=by rw[ν (by omega)];rfl
     rw[<-h3]at h4;obtain⟨b,o,sp⟩:=a;cases sp with
     |none=>rfl
     |some _=>exfalso;simp[World.cell?,Addr.add]at h4;split at h4<;>cases h4
    refine⟨a.block,a.off,k,by rw[<-hspot],bAb hE.len xs a.off (fun i x hx=>?_)⟩;obtain⟨_,cs',hc',hl',hcr⟩:=h2 i x hx;obtain⟨_,hcl,hat⟩:=World.cells?_some hc';rw[hE.cells]at hcl hat;refine DV.cells_congr (o:=0) (fun j hj=>?_) hcr;have hj':j<k:=by rw[hE.len]at hj;exact hj
    have:=hat j hj';rw[hspot,Addr.add_lit,Addr.add_lit]at this;rw[bg,<-this];rfl⟩
theorem Cv.struct{P:Program}{t:TypeId}{fs:Array Field}{α:Type}{row:α->List DV}{k:Nat}{ok:α->Prop}(ht:P.underlying t=some (.struct fs))(hc:P.cellsOf t=k)(hlen:∀x,(row x).length=k)
  (h:∀(G:Gh) (cs:List Value),cs.length=k->(∀(i:Nat) (f:Field),fs[i]?=some f->∀{α:Type} {row:α->List DV} {k':Nat} {ok:α->Prop},Cv P f.type row k' ok->∃x,ok x/\CRep G (row x) ((cs.drop f.offset).take k'))->∃x,ok x/\CRep G (row x) cs):Cv P t row k ok:=
 ⟨hlen,hc,fun enc w spare held fuel cs r hr=>by
  obtain⟨xs,n,_,_,hcl,hxl,hf⟩:=DataW.trod_struct ht hr;refine h (gOf w) cs (by rw[hcl,hc]) (fun i f hi α' row' k' ok' hcv=>?_);have h1:=hf i f hi;have hlt:=(Array.getElem?_eq_some_iff.1 hi).1;rw[ν (by omega)]at h1;obtain⟨x,hx,hxr⟩:=hcv.get enc w spare held n _ _ h1;rw[hcv.cells]at hxr;exact⟨x,hx,hxr⟩⟩
theorem CRep.cons{rest:List DV}{o:Nat}(h1:CRep G ds ((cs.drop o).take k))(h2:CRep G rest (cs.drop (o+k))):CRep G (ds++rest) (cs.drop o):=
 CRep.app k h1 (by rwa[dv])
theorem aPy(h:CRep G ds cs):AV.RepL G m (ds.map .D) cs:=
 AV.RepL_data h.2 (fun j hj=>by rw[bg]) h.1.symm
theorem aEe{d:DV}(h:CRep G [d] v.cells.toList)(hv:v.oneCell'=true):AV.Rep G m (.D d) v:=by have:=aPy (m:=m) h;rw[aCg hv]at this;simp only[cu,List.map_nil]at this;unfold AV.RepL at this;obtain⟨u,us,e,h2,_⟩:=this;cases e;exact h2
theorem aWb{cs:Array Value}(h:CRep G ds cs.toList):AV.Rep G m (.agg (ds.map .D)) (.agg cs):=by unfold AV.Rep;exact⟨cs,rfl,aPy h⟩
theorem bI5(w:World)(hg:GlOk (gOf w)):Sim (gOf w) (fun _=>none) (eK [] []) w:=⟨(fun _ _ _ h=>by cases h),(fun _ h=>by cases h),(fun _ _ _ _ _ h=>by cases h),(fun _ _ _ h=>h),(fun _ h=>by cases h),hg,(fun _ _ _ _ h=>by cases h)⟩
theorem CallDoes.calls{f:FuncId}{R:Value->World->Prop}(hfn:aYj P f)(h:CallDoes P f vs w R):Calls P f vs w fun e w'=>∃v,e=.returned v/\R v w':=by
 rcases h with⟨_,h⟩|⟨v,w',h1,_⟩
 ·exact h
 ·exfalso;obtain⟨fd,q1,q2,q3⟩:=hfn;have hnone:fd.body.isNone=false:=by rw[Option.isNone_eq_false_iff];exact q2
  simp only[callFunc,Sem.run_bind,run_program,Result.andThen_ok,q1,q3,hnone,Bool.false_eq_true,if_false]at h1;simp at h1
theorem bDp{f:FuncId}{args:List AV}(hfn:aYj P f)(hg:GlOk (gOf w))(hc:ACall P f args [] (.D (.B true)) [] [])(hr:AV.RepL (gOf w) (fun _=>none) args vs.toList):
  Calls P f vs w fun e w'=>e=.returned (.bool true)/\Below w.heap.size w w':=
 (CallDoes.calls hfn (hc w (gOf w) _ vs (bI5 w hg) (fun _=>rfl) hr)).mono fun e w' ⟨v,he,G',m',_,hv,hF,_⟩=>by have:=aE8 hv;subst this;exact⟨he,hF.os,hF.tape.1,hF.output,hF.size,fun b hb=>hF.heap b hb (Own.no b)⟩
theorem aCb{H:Type}{enc:TypeId×Value->H}{P:Program}(hl:laidOutB P=true){W W':World}(hb:Below W.heap.size W W')(sp:Nat->Bool):∀{ts:List TypeId} {vs:List Value} {ds:List (DataW H)} {ps:List MemPlace},
  (∀t∈ts,P.readableRec t=true/\t<P.types.size)->DataW.TrodAll enc P W 0 (fun _=>true) true ts vs ds ps->(∀p∈ps,p.block<W.heap.size)->(∀p∈ps,sp p.block=true)->DataW.TrodAll enc P W' 0 sp true ts vs ds ps
 |[],[],[],_,_,h,_,_=>h
 |t::ts,v::vs,d::ds,ps,ht,h,hlt,hsp=>by
  obtain⟨p,q,h1,h2,rfl⟩:=h;exact⟨p,q,WideElems.Trod_stays hl (ht t (by simp)).1 (ht t (by simp)).2 h1 (fun x hx=>hb.same (hlt x (by simp[hx]))) (fun x hx=>hsp x (by simp[hx])),
   aCb hl hb sp (fun t' h'=>ht t' (by simp[h'])) h2 (fun x hx=>hlt x (by simp[hx])) (fun x hx=>hsp x (by simp[hx])),rfl⟩
 |[],[],_::_,_,_,h,_,_=>h.elim
 |[],_::_,ds,_,_,h,_,_=>by cases ds<;>exact h.elim
 |_::_,[],ds,_,_,h,_,_=>by cases ds<;>exact h.elim
 |_::_,_::_,[],_,_,h,_,_=>h.elim
theorem bFd{f:Func}{s:ChangeSpec}{enc:TypeId×Value->H}{W':World}{args:Array Value}{ds:List (DataW H)}{before:List MemPlace}{tb:TypeId}(hl:laidOutB P=true)
  (hW:DataW.Whole enc P f.params.toList s.vars false W args.toList ds [] before) (hvars:s.vars=[]) (hs:s.fn H (ds++[])={results:=[.lit (.bool true)],args:=ds}) (hr:f.resultTypes=#[tb]) (htb:P.underlying tb=some .bool)
  (hp:∀t∈f.params.toList,P.readableRec t=true/\t<P.types.size) (hb:Below W.heap.size W W'):s.post enc P f false true false false W args (.bool true) W':=by
 have hlt:∀p∈before,p.block<W.heap.size:=fun p hp=>hW.lt p hp;have hW0:=hW;obtain⟨p,q,hA,hV,hpq,hz,hn⟩:=hW0;have hV0:=hV;rw[hvars]at hV0;have hq:q=[]:=by simpa[DataW.TrodVars]using hV0
 subst hq;rw[bb]at hpq;subst hpq;have hstay:∀sp:Nat->Bool,(∀x∈before,sp x.block=true)->DataW.TrodAll enc P W' 0 sp true f.params.toList args.toList ds before:=fun sp hsp=>aCb hl hb sp hp hA hlt hsp;have hres:∀(b:Nat) (sp:Nat->Bool) (hd:Bool),DataW.TrodAll enc P W' b sp hd f.resultTypes.toList ((Value.bool true).resultList f.resultTypes.size) [.lit (.bool true)] []:=fun b sp hd=>by rw[hr];exact trodAll_mk1 ⟨1,by simp[DataW.trod,Value.cells,htb]⟩
 have hvt:∀sp:Nat->Bool,DataW.TrodVars enc P W' sp s.vars (s.fn H (ds++[])).vars []:=fun sp=>by rw[hvars,hs];exact rfl
 refine⟨ds,[],before,[],before,[],hW,by rw[hs];exact hres _ _ _,by rw[hs];exact hstay _ (fun p hp=>by simpa using hlt p hp),hvt _,World.keptBut_mono (fun p hp=>⟨hp,.inr (.inl hp)⟩) (hb.frame (· ∈before)),fun h=>by cases h⟩
theorem DV.cells_of{G:Gh}{f:Nat->Option Value}:∀{ds:List DV} {o:Nat},(∀i d,ds[i]?=some d->∃v,f (o+i)=some v/\DV.Rep G d v)->DV.cells G f o ds
 |[],o,_=>by unfold DV.cells;trivial
 |d::ds,o,h=>by
  unfold DV.cells;obtain⟨v,h1,h2⟩:=h 0 d rfl;exact⟨⟨v,h1,h2⟩,DV.cells_of fun i e hi=>by
   obtain⟨u,h3,h4⟩:=h (i+1) e (by simpa using hi);exact⟨u,by rw[<-h3];congr 1;omega,h4⟩⟩
theorem Cv.array{P:Program}{t e:TypeId}{n:Nat}{k:IntKind}(he:P.underlying e=some (.int k))(hce:P.cellsOf e=1)(ht:P.underlying t=some (.array n e))(hc:P.cellsOf t=n):
  Cv P t (Ty.ar n k).ds n fun x=>∀y∈x.l,k.min<=y/\y<=k.max:=⟨fun x=>Ty.ds_len (.ar n k) x,hc,fun enc w spare held fuel cs r h=>by
  obtain⟨xs,m,_,_,hcl,hxl,hf⟩:=DataW.trod_array ht h;rw[hc]at hcl;simp only[hce,ct]at hf;obtain⟨zs,hl,hz⟩:=aRk (Q:=fun i z=>(k.min<=z/\z<=k.max)/\cs[i]?=some (.int k z)) n fun i hi=>by have h1:=hf i hi;rw[ν (by omega)]at h1;obtain⟨z,hz,_,hw⟩:=DataW.trod_int he h1;simp only[Lit.wf,μ,decide_eq_true_eq]at hw;refine⟨z,hw,?_⟩;have h2:=congrArg (·[0]?) hz;simpa[List.getElem?_take,fq]using h2
  refine⟨⟨zs,hl⟩,fun y hy=>?_,?_⟩
  ·obtain⟨i,hi⟩:=fg hy;exact(hz i y hi).1
  ·refine⟨by rw[Ty.ds_len];show n=_;omega,DV.cells_of fun i d hd=>?_⟩;have hd:(zs.map (DV.I k))[i]?=some d:=hd;rw[ba,θ]at hd;obtain⟨z,hz1,rfl⟩:=hd;exact⟨_,by rw[bg];exact(hz i z hz1).2,by unfold DV.Rep;rfl⟩⟩
theorem bE1{name:String}{g:Nat}{k:IntKind}{zs:List Int}(hT:Lib.TabIs P W name k zs)(hg:P.globalNamed name=some g):DV.cells (gOf W) (gOf W g) 0 (zs.map (DV.I k)):=by refine DV.cells_of fun i d hd=>?_;rw[ba,θ]at hd;obtain⟨z,hz,rfl⟩:=hd;have hi:i<zs.length:=(χ.1 hz).1;refine⟨.int k z,?_,by unfold DV.Rep;rfl⟩;have h1:=hT.cell hg i hi;rw[List.getD,hz]at h1;rw[bg];exact h1
def Ty.ok:(t:Ty)->t.T->Prop
 |.i k,n=>k.min<=n/\n<=k.max
 |.s,x=>x.length<=9223372036854775807
 |.sl t,xs=>xs.length<=9223372036854775807/\∀x∈xs,t.ok x
 |.ar _ k,x=>∀y∈x.l,k.min<=y/\y<=k.max
 |.p a c,v=>a.ok v.1/\c.ok v.2
 |.w a,v=>a.ok v
 |_,_=>True
def isD:TypeDesc->TypeDesc->Bool
 |.bool,.bool=>true
 |.string,.string=>true
 |.int k,.int k'=>decide (k=k')
 |_,_=>false
theorem bOl:∀{a b:TypeDesc},isD a b=true->a=b:=by intro a b h;unfold isD at h;split at h<;>first|rfl|(rw[of_decide_eq_true h];done)|cases h
def bKg(P:Program)(t:TypeId)(d:TypeDesc):Bool:=match P.underlying t with
 |some d'=>isD d' d
 |none=>false
theorem bA7(h:bKg P t d=true):P.underlying t=some d:=by
 unfold bKg at h;split at h
 ·rename_i d' hd;rw[hd,bOl h]
 ·cases h
def aAl(P:Program)(t:TypeId)(d:TypeDesc):Bool:=bKg P t d&&au (P.cellsOf t) 1
def aHq(g:TypeId->Bool)(fs:List Field)(o:Nat):Bool:=match fs with
 |[f]=>au f.offset o&&g f.type
 |_=>false
def slB(P:Program)(n:Nat)(g:TypeId->Bool)(t:TypeId):Bool:=match P.underlying t with
 |some (.slice e)=>g e&&au (P.cellsOf t) 1&&ny 0 n
 |_=>false
def arB(P:Program)(n:Nat)(k:IntKind)(t:TypeId):Bool:=match P.underlying t with
 |some (.array m e)=>au m n&&bKg P e (.int k)&&au (P.cellsOf e) 1&&au (P.cellsOf t) n
 |_=>false
def stB(P:Program)(n:Nat)(g:List Field->Nat->Bool)(t:TypeId):Bool:=match P.underlying t with
 |some (.struct fs)=>g fs.toList 0&&au (P.cellsOf t) n
 |_=>false
def bIs(n:Nat)(g:TypeId->Bool)(h:List Field->Nat->Bool)(fs:List Field)(o:Nat):Bool:=match fs with
 |f::fs=>au f.offset o&&g f.type&&h fs (o+n)
 |[]=>false
def bP5:List Field->Nat->Bool
 |[],_=>true
 |_,_=>false
def cvB(P:Program):Ty->(TypeId->Bool)×(List Field->Nat->Bool)
 |.u=>(fun _=>false,bP5)
 |.b=>(fun t=>aAl P t .bool,aHq fun t=>aAl P t .bool)
 |.i k=>(fun t=>aAl P t (.int k),aHq fun t=>aAl P t (.int k))
 |.s=>(fun t=>aAl P t .string,aHq fun t=>aAl P t .string)
 |.ar n k=>(arB P n k,aHq (arB P n k))
 |.sl t=>(slB P t.n (cvB P t).1,aHq (slB P t.n (cvB P t).1))
 |.w x=>(stB P x.n (cvB P x).2,aHq (stB P x.n (cvB P x).2))
 |.p a c=>(fun _=>false,bIs a.n (cvB P a).1 (cvB P c).2)
 |.o _=>(fun _=>false,fun _ _=>false)
def bTy(P:Program)(G:Gh)(cs:List Value)(f:Field):Prop:=∀{α:Type} {row:α->List DV} {k':Nat} {ok:α->Prop},Cv P f.type row k' ok->∃x,ok x/\CRep G (row x) ((cs.drop f.offset).take k')
def bMf(P:Program)(t:Ty)(fs:List Field)(o:Nat):Prop:=∀(G:Gh) (cs:List Value),cs.length=o+t.n->(∀f∈fs,bTy P G cs f)->∃x:t.T,t.ok x/\CRep G (t.ds x) (cs.drop o)
theorem wQ{g:TypeId->Bool}{t:Ty}(hg:∀i,g i=true->Cv P i t.ds t.n t.ok){fs:List Field}{o:Nat}(h:aHq g fs o=true):bMf P t fs o:=by
 unfold aHq at h;split at h
 ·rename_i f;simp only[μ]at h;have ho:=η h.1;intro G cs hl hf;obtain⟨x,hx,hr⟩:=hf f (List.mem_singleton.2 rfl) (hg _ h.2);refine⟨x,hx,?_⟩;rw[ho,bk (by rw[aw];omega)]at hr;exact hr
 ·cases h
theorem oK(h:aAl P t d=true):P.underlying t=some d/\P.cellsOf t=1:=by simp only[aAl,μ]at h;exact⟨bA7 h.1,η h.2⟩
theorem aKx(P:Program):∀T:Ty,(∀i,(cvB P T).1 i=true->Cv P i T.ds T.n T.ok)/\∀fs o,(cvB P T).2 fs o=true->bMf P T fs o
 |.u=>by
  refine⟨fun _ h=>(by cases h),fun fs o h=>?_⟩;cases fs with
  |nil=>exact fun G cs hl _=>⟨(),trivial,by rw[List.drop_of_length_le (by simp[hl,Ty.n])];exact CRep.nil⟩
  |cons _ _=>cases h
 |.b=>by
  have h1:∀i,aAl P i .bool=true->Cv P i Ty.b.ds 1 Ty.b.ok:=fun i h=>Cv.bool (oK h).1 (oK h).2;exact⟨h1,fun fs o h=>wQ (t:=.b) h1 h⟩
 |.i k=>by
  have h1:∀i,aAl P i (.int k)=true->Cv P i (Ty.i k).ds 1 (Ty.i k).ok:=fun i h=>Cv.int (oK h).1 (oK h).2;exact⟨h1,fun fs o h=>wQ (t:=.i k) h1 h⟩
 |.s=>by
  have h1:∀i,aAl P i .string=true->Cv P i Ty.s.ds 1 Ty.s.ok:=fun i h=>Cv.string (oK h).1 (oK h).2;exact⟨h1,fun fs o h=>wQ (t:=.s) h1 h⟩
 |.ar n k=>by
  have h1:∀i,arB P n k i=true->Cv P i (Ty.ar n k).ds n (Ty.ar n k).ok:=fun i h=>by
   unfold arB at h;split at h
   ·rename_i m e hu;simp only[μ,decide_eq_true_eq]at h;obtain⟨⟨⟨h1,h2⟩,h3⟩,h4⟩:=h;obtain rfl:=η h1;exact Cv.array (bA7 h2) (η h3) hu (η h4)
   ·cases h
  exact⟨h1,fun fs o h=>wQ (t:=.ar n k) h1 h⟩
 |.sl t=>by
  have h1:∀i,slB P t.n (cvB P t).1 i=true->Cv P i (Ty.sl t).ds 1 (Ty.sl t).ok:=fun i h=>by
   unfold slB at h;split at h
   ·rename_i e hu;simp only[μ]at h;exact Cv.slice ((aKx P t).1 _ h.1.1) (dm Nat.zero_lt_one (ez h.2)) hu (η h.1.2)
   ·cases h
  exact⟨h1,fun fs o h=>wQ (t:=.sl t) h1 h⟩
 |.w x=>by
  have h1:∀i,stB P x.n (cvB P x).2 i=true->Cv P i (Ty.w x).ds x.n (Ty.w x).ok:=fun i h=>by
   unfold stB at h;split at h
   ·rename_i fs hu;simp only[μ]at h;refine Cv.struct hu (η h.2) (fun y=>Ty.ds_len x y) fun G cs hl hf=>?_;obtain⟨y,hy,hr⟩:=(aKx P x).2 _ _ h.1 G cs (by rw[hl,bg]) fun f hm=>by obtain⟨i,hi⟩:=fg hm;rw[Array.getElem?_toList]at hi;exact fun{α} {row} {k'} {ok} hcv=>hf i f hi hcv
    exact⟨y,hy,hr⟩
   ·cases h
  exact⟨h1,fun fs o h=>wQ (t:=.w x) h1 h⟩
 | .p a c=>by
   refine⟨fun _ h=>(by cases h),fun fs o h=>?_⟩;have h:bIs a.n (cvB P a).1 (cvB P c).2 fs o=true:=h;cases fs with
   |nil=>cases h
   |cons f fs=>
    simp only[bIs,μ]at h;intro G cs hl hf;have hl:cs.length=o+(a.n+c.n):=hl;obtain⟨x,hx,hr⟩:=hf f (cr ..) ((aKx P a).1 _ h.1.2);rw[η h.1.1]at hr;obtain⟨y,hy,hq⟩:=(aKx P c).2 _ _ h.2 G cs (by omega) fun g hg=>fun{α} {row} {k'} {ok} hcv=>hf g (cp _ hg) hcv;exact⟨(x,y),⟨hx,hy⟩,CRep.cons hr hq⟩
 |.o _=>⟨fun _ h=>(by cases h),fun _ _ h=>(by cases h)⟩
def cvL(P:Program):List Ty->List TypeId->Bool
 |[],[]=>true
 |T::Ts,t::ts=>(cvB P T).1 t&&cvL P Ts ts
 |_,_=>false
def aUa:(Ts:List Ty)->tup Ts->Prop
 |[],_=>True
 |T::Ts,x=>T.ok x.1/\aUa Ts x.2
def aPa:(Ts:List Ty)->tup Ts->List AV
 |[],_=>[]
 |T::Ts,x=>cH T x.1::aPa Ts x.2
theorem aWz{r:Reach}{n:Nat}(ht:P.underlying t=some (.array n e))(h:Value.okWide P w r base t v):∃cs,v=.agg cs:=by unfold Value.okWide at h;rw[ht]at h;obtain⟨cs,h,_⟩:=h;exact⟨cs,h⟩
theorem bJx{T:Ty}{x:T.T}(hc:(cvB P T).1 t=true)(hw:Value.okWide P W .any base t v)(hr:CRep (gOf W) (T.ds x) v.cells.toList):AV.Rep (gOf W) m (cH T x) v:=by
 cases T with
 |u=>cases hc
 |b=>obtain⟨b,rfl⟩:=okWide_bool (oK hc).1 hw;exact aEe hr rfl
 |i k=>obtain⟨n,rfl⟩:=okWide_int (k:=k) (oK hc).1 hw;exact aEe hr rfl
 |s=>obtain⟨n,rfl⟩:=okWide_string (oK hc).1 hw;exact aEe hr rfl
 |p a c=>cases hc
 |w y=>
  have hc:stB P y.n (cvB P y).2 t=true:=hc;unfold stB at hc;split at hc
  ·rename_i fs hu;obtain⟨cs,rfl,_⟩:=okWide_struct hu hw;exact aWb hr
  ·cases hc
 |ar n k=>
  have hc:arB P n k t=true:=hc;unfold arB at hc;split at hc
  ·rename_i m' e hu;obtain⟨cs,rfl⟩:=aWz hu hw;exact aWb hr
  ·cases hc
 |sl y=>
  have hc:slB P y.n (cvB P y).1 t=true:=hc;unfold slB at hc;split at hc
  ·rename_i e hu;obtain⟨a,l,c,rfl⟩:=okWide_slice hu hw;exact aEe hr rfl
  ·cases hc
 |o y=>cases hc
theorem aVy{P:Program}{W:World}{base:Nat}{H:Type}{enc:TypeId×Value->H}{spare:Nat->Bool}{held:Bool}{m:HM}:∀{Ts:List Ty} {ts:List TypeId} {vs:List Value} {ds:List (DataW H)} {ps:List MemPlace},cvL P Ts ts=true->DataW.TrodAll enc P W 0 spare held ts vs ds ps->(∀(j:Nat) t v,ts[j]?=some t->vs[j]?=some v->Value.okWide P W .any base t v)->∃x:tup Ts,aUa Ts x/\AV.RepL (gOf W) m (aPa Ts x) vs
 |[],[],vs,ds,ps,_,hA,_=>by
  obtain⟨rfl,_,_⟩:=trodAll_nil hA;exact⟨(),trivial,rfl⟩
 |T::Ts,t::ts,vs,ds,ps,hc,hA,hw=>by
  simp only[cvL,μ]at hc;obtain⟨v,vs1,d,ds1,p0,p1,rfl,rfl,rfl,t0,hA1⟩:=trodAll_cons hA;obtain⟨f0,t0⟩:=t0;obtain⟨x,hx,hr⟩:=((aKx P T).1 t hc.1).get enc W _ _ f0 _ _ t0;obtain⟨y,hy,hq⟩:=aVy (m:=m) hc.2 hA1 fun j t v h1 h2=>hw (j+1) t v (by simpa using h1) (by simpa using h2);exact⟨(x,y),⟨hx,hy⟩,_,_,rfl,bJx hc.1 (hw 0 t v rfl rfl) hr,hq⟩
 |[],_::_,_,_,_,h,_,_=>by cases h
 |_::_,[],_,_,_,h,_,_=>by cases h
end Go.Eng
namespace Go.Eng
open Go.RowKit
variable{α β:Type}
@[simp] theorem bS{a b:Option α}:if? true a b=a:=rfl
@[simp] theorem bC{a b:Option α}:if? false a b=b:=rfl
@[simp] theorem aB{x:α}{f:α->Option β}:bd? (some x) f=f x:=rfl
@[simp] theorem aJ{xs:List α}{a:Option β}:gl? xs.length xs a=a:=if_pos rfl
theorem aFq{n:Nat}{xs:List α}{a:Option β}(h:n=xs.length):gl? n xs a=a:=if_pos h
@[simp] theorem bT2{α:Type}[DecidableEq α]{x:α}{a:Option β}:gd? (x=x) a=a:=if_pos rfl
theorem aC{p:Prop}[Decidable p]{a:Option α}(h:p):gd? p a=a:=if_pos h
@[simp] theorem aSh{r:β}{f:α->Option β}:jn? (some (Sum.inl r)) f=some r:=rfl
@[simp] theorem aRz{x:α}{f:α->Option β}:jn? (some (Sum.inr x)) f=f x:=rfl
@[simp] theorem aDs{r:β}:(vV (some r):Option (β⊕α))=some (.inl r):=rfl
@[simp] theorem yH{γ:Type}{x:α}{f:α->Option γ}{g:β->Option γ}:sm? (Sum.inl x) f g=f x:=rfl
@[simp] theorem yG{γ:Type}{y:β}{f:α->Option γ}{g:β->Option γ}:sm? (Sum.inr y) f g=g y:=rfl
theorem aNl{n:Int}(h:-9223372036854775808<=n)(h':n<=9223372036854775807):IntKind.wrap .i64 n=n:=by rw[IntKind.wrap_i64];omega
theorem aS{n:Int}{a:Option α}(h:-9223372036854775808<=n)(h':n<=9223372036854775807):ck .i64 n a=a:=by unfold ck;rw[if_pos (aNl h h')]
theorem cD{xs:List α}{i:Nat}{x:α}{f:α->Option β}(h:xs[i]?=some x):aU xs (i:Int) f=f x:=by unfold aU;rw[if_pos (Int.natCast_nonneg i),ξ,h]
theorem qO{xs:List α}{j:Int}{x:α}{f:α->Option β}(h0:0<=j)(h:xs[j.toNat]?=some x):aU xs j f=f x:=by unfold aU;rw[if_pos h0,h]
theorem aCm{xs:List α}{i:Nat}{x:α}{f:α->Option β}(h:xs[i]?=some x):gn? xs i f=f x:=by unfold gn?;rw[h]
theorem bQf{c:Bool}{a b:Option α}:if? c a b=if c=true then a else b:=by cases c<;>rfl
end Go.Eng
