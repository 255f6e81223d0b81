/- Texts of this claim. -/
import Derived.Test.YtjcdfjldcinopaaGreatDoorYA
import Derived.ProofKit
import Derived.Deep.Slices
import Derived.OpenShut
import Derived.Lib.LaidTab
open Bool renaming and_assoc->jh,and_eq_true->ν,and_true->gq,eq_iff_iff->ef,noConfusion->ct,not_eq_true'->dc,or_eq_false_iff->im,or_eq_true->fa
open Int renaming toNat_natCast->π
open List renaming append_assoc->υ,append_nil->χ,drop_append_of_le_length->ee,drop_drop->dh,drop_eq_nil_of_le->eg,drop_zero->cc,getD_cons_succ->kg,getElem?_append_left->bp,getElem?_append_right->bz,getElem?_drop->dv,getElem?_eq_getElem->ε,getElem?_eq_none->db,getElem?_eq_some_iff->aw,getElem?_map->az,getElem?_of_mem->dq,getElem?_take_of_lt->du,length_append->κ,length_drop->aq,length_map->μ,length_take->bu,map_append->bn,map_cons->cx,map_drop->b6,map_eq_nil_iff->kf,map_map->fq,map_replicate->gn,map_set->il,map_take->br,mem_cons->bw,mem_cons_of_mem->jd,mem_cons_self->gz,nil_append->cg,nodup_cons->eu,nodup_nil->ju,replicate->bg,take_append_of_le_length->e9,take_of_length_le->bc
open Nat renaming add_assoc->fb,beq->bb,beq_eq->gm,ble->lg,eq_of_beq_eq_true->ι,le_add_right->gy,le_of_ble_eq_true->fg,le_refl->ω,lt_of_lt_of_le->dw,lt_or_ge->c6,mul_one->cz,zero_add->bf,zero_le->di
open Option renaming ite_none_right_eq_some->ζ,map_eq_some_iff->θ
set_option linter.all false
namespace Go.Eng
open Go.RowKit
variable{s m ent s':XS}{P:Program}{v a y vf vy:XV}{KP:AState->Prop}{k off n sz bytes N:Nat}{t:Ty}{out:List XS}{f:FuncId}{fn:Func}{vs l xs ys:List XV}{c:Code}{dst ag:Option Nat}{rs:List RRes}{ty:Option Ty}{α:Type}{q:Bool}{hd h:Hd}{hs:List Hd}{j:Int}{xo yo:Operand}{u u1:FrameMode}{zs args:List AV}{w:Value}{ds:List DV}{b:Option XB}{nbs:List Blk}{bs':List (Option Blk)}
section
variable{R:Type}
theorem aD5[YL]{K:List t.T->Option R}{r:R}(h:pK s (.sl t) v K=some r):
  ∃xs:List t.T,K xs=some r/\AV.content s.er.lk v.er=some (xs.map t.ds)/\AV.isS v.er=false:=by
 unfold pK at h;split at h
 ·rename_i t' x;split at h
  ·rename_i y hy;obtain⟨e,rfl⟩:=Ty.cst_ok hy;subst e;exact⟨x,h,rfl,rfl⟩
  ·cases h
 ·rename_i t' xs;split at h
  ·rename_i y hy;obtain⟨e,rfl⟩:=Ty.cst_ok hy;cases e;exact⟨xs,h,rfl,rfl⟩
  ·cases h
 ·have h:K []=some r:=h;exact⟨[],h,rfl,rfl⟩
 ·have h:K []=some r:=h;exact⟨[],h,rfl,rfl⟩
 ·rename_i hd t' len;split at h
  ·rename_i mt t2 xs hl;split at h
   ·rename_i hb;obtain rfl:=Ty.eq_of hb;split at h
    ·rename_i y hy;obtain⟨e,rfl⟩:=Ty.cst_ok hy;cases e
     replace h:=aXy h
     obtain⟨rfl,h⟩:=h;refine⟨xs,h,?_,rfl⟩;show(match s.er.lk hd with|some (.row _ k' es)=>if k'=t.n/\0+xs.length<=es.length then some ((es.drop 0).take xs.length)else none|_=>none)=_;rw[aT,hl];show(if t.n=t.n/\0+xs.length<=(xs.map t.ds).length then some (((xs.map t.ds).drop 0).take xs.length)else none)=_;rw[if_pos ⟨rfl,by rw[μ];omega⟩,cc,bc (by rw[μ];exact ω _)]
    ·cases h
   ·cases h
  ·cases h
 ·rename_i hd t' off len;split at h
  ·rename_i mt t2 xs hl;split at h
   ·rename_i hb;obtain rfl:=Ty.eq_of hb;split at h
    ·rename_i y hy;obtain⟨e,rfl⟩:=Ty.cst_ok hy;cases e;obtain⟨h1,h⟩:=aX h;refine⟨_,h,?_,rfl⟩;show(match s.er.lk hd with|some (.row _ k' es)=>if k'=t.n/\off+len<=es.length then some ((es.drop off).take len)else none|_=>none)=_;rw[aT,hl];show(if t.n=t.n/\off+len<=(xs.map t.ds).length then some (((xs.map t.ds).drop off).take len)else none)=_;rw[if_pos ⟨rfl,by rw[μ];exact h1⟩,br,b6]
    ·cases h
   ·cases h
  ·cases h
 ·rename_i hd off len;split at h
  ·rename_i mt n k x hl;split at h
   ·rename_i y hy;obtain⟨e,rfl⟩:=Ty.cst_ok hy;cases e;obtain⟨h1,h⟩:=aX h;refine⟨_,h,?_,rfl⟩;show(match s.er.lk hd with|some (.row _ k' es)=>if k'=1/\off+len<=es.length then some ((es.drop off).take len)else none|_=>none)=_;rw[aT,hl];show(if 1=1/\off+len<=(x.l.map (arD k)).length then some (((x.l.map (arD k)).drop off).take len)else none)=some ((zL x.l off len n).map (arD k));rw[aF0 x.len,if_pos ⟨rfl,by rw[μ,x.len];exact h1⟩,br,b6]
   ·cases h
  ·cases h
 ·rename_i hd off l len;split at h
  ·rename_i mt t2 x hl;split at h
   ·rename_i a ha;split at h
    ·rename_i y hy;obtain⟨e,rfl⟩:=Ty.cst_ok hy;cases e;obtain⟨h1,h⟩:=aX h;obtain⟨c1,c2⟩:=aFk ha h1;refine⟨_,h,?_,rfl⟩;show(match s.er.lk hd with|some (.row _ k' es)=>if k'=1/\off+l+len<=es.length then some ((es.drop (off+l)).take len)else none|_=>none)=_;rw[aT,hl];show(if 1=1/\off+l+len<=(sgD (t2.ds x)).length then some (((sgD (t2.ds x)).drop (off+l)).take len)else none)=_;rw[if_pos ⟨rfl,c1⟩,c2]
    ·cases h
   ·cases h
  ·cases h
 ·cases h
mutual
def XV.hr:XV->List Hd
 |.sl h _ _ _=>[h]
 |.slw h _ _=>[h]
 |.asl h _ _=>[h]
 |.rsl h _ _ _=>[h]
 |.agg cs=>XV.hrL cs
 |.tup vs=>XV.hrL vs
 |.clo _ vs=>XV.hrL vs
 |_=>[]
def XV.hrL:List XV->List Hd
 |[]=>[]
 |v::vs=>v.hr++XV.hrL vs
end
theorem aKq:∀(a c:List AV),AV.rowsL (a++c)=AV.rowsL a++AV.rowsL c
 |[],c=>rfl
 |x::a,c=>by show AV.rows x++AV.rowsL (a++c)=AV.rows x++AV.rowsL a++AV.rowsL c;rw[aKq a c,υ]
theorem aNj:∀l:List DV,AV.rowsL (l.map .D)=[]
 |[]=>rfl
 |x::l=>aNj l
theorem aXh(x:t.T):AV.rows (jB t x)=[]:=by
 cases hl:nW t with
 |true=>cases t<;>first|rfl|(cases hl;done)
 |false=>rw[wV x hl];exact aNj _
mutual
theorem aD0[YL]:∀v:XV,AV.rows v.er=v.hr
 |.d t x=>aXh x
 |.agg cs=>aNf cs
 |.tup vs=>zT vs
 |.clo _ vs=>zT vs
 |.any=>rfl
 |.un=>rfl
 |.ab=>rfl
 |.sc=>rfl
 |.ptr _ _=>rfl
 |.ept _ _ _ _=>rfl
 |.apt _ _=>rfl
 |.pa _ _ _=>rfl
 |.epa _ _ _ _ _=>rfl
 |.rop _ _ _=>rfl
 |.fl _ _=>rfl
 |.fln _=>rfl
 |.nl _=>rfl
 |.sl _ _ _ _=>rfl
 |.slw _ _ _=>rfl
 |.asl _ _ _=>rfl
 |.rpt _ _=>rfl
 |.rpa _ _ _=>rfl
 |.rsl _ _ _ _=>rfl
 |.mref _=>rfl
 |.itr _ _=>rfl
 |.c _=>rfl
 |.yld=>rfl
 |.gst _=>rfl
theorem zT[YL]:∀vs:List XV,AV.rowsL (XV.erL vs)=XV.hrL vs
 |[]=>rfl
 |v::vs=>by show AV.rows v.er++AV.rowsL (XV.erL vs)=_;rw[aD0 v,zT vs];rfl
theorem bK2[YL]:∀v:XV,AV.rowsL v.fc=v.hr
 |.d t x=>aNj _
 |.agg cs=>aNf cs
 |.tup vs=>by show AV.rowsL (XV.erL vs)++[]=_;rw[zT vs,χ];rfl
 |.clo _ vs=>by show AV.rowsL (XV.erL vs)++[]=_;rw[zT vs,χ];rfl
 |.any=>rfl
 |.un=>rfl
 |.ab=>rfl
 |.sc=>rfl
 |.ptr _ _=>rfl
 |.ept _ _ _ _=>rfl
 |.apt _ _=>rfl
 |.pa _ _ _=>rfl
 |.epa _ _ _ _ _=>rfl
 |.rop _ _ _=>rfl
 |.fl _ _=>rfl
 |.fln _=>rfl
 |.nl _=>rfl
 |.sl _ _ _ _=>rfl
 |.slw _ _ _=>rfl
 |.asl _ _ _=>rfl
 |.rpt _ _=>rfl
 |.rpa _ _ _=>rfl
 |.rsl _ _ _ _=>rfl
 |.mref _=>rfl
 |.itr _ _=>rfl
 |.c _=>rfl
 |.yld=>rfl
 |.gst _=>rfl
theorem aNf[YL]:∀vs:List XV,AV.rowsL (XV.fcL vs)=XV.hrL vs
 |[]=>rfl
 |v::vs=>by show AV.rowsL (v.fc++XV.fcL vs)=_;rw[aKq,bK2 v,aNf vs];rfl
end
def xfz(s:XS):List Hd->List Hd
 |[]=>[]
 |h::l=>match s.lk h with
  |some _=>h::xfz s l
  |none=>xfz s l
theorem qQ[YL](s:XS):∀l:List Hd,fzL s.er.lk l=xfz s l
 |[]=>rfl
 |h::l=>by
  show(h::l).filter _=_;rw[List.filter_cons,aT];unfold xfz;cases s.lk h with
  |none=>exact qQ s l
  |some b=>exact congrArg (h::·) (qQ s l)
def flD:Ty->Bool
 |.sl _=>false
 |.o _=>false
 |.p a c=>flD a&&flD c
 |.w a=>flD a
 |_=>true
theorem aSz:∀(a c:List AV),AV.flatL (a++c)=(AV.flatL a&&AV.flatL c)
 |[],c=>rfl
 |x::a,c=>by show(AV.flat x&&AV.flatL (a++c))=(AV.flat x&&AV.flatL a&&AV.flatL c);rw[aSz a c,jh]
theorem qO:∀(t:Ty) (x:t.T),AV.flatL ((t.ds x).map .D)=flD t
 |.u,_=>rfl
 |.b,_=>rfl
 |.i _,_=>rfl
 |.s,_=>rfl
 |.p a c,v=>by
  show AV.flatL ((a.ds v.1++c.ds v.2).map .D)=(flD a&&flD c);rw[bn,aSz,qO a,qO c]
 |.w a,v=>qO a v
 |.ar n k,v=>by
  show AV.flatL ((v.l.map (DV.I k)).map .D)=true;generalize v.l=l
  induction l with
  |nil=>rfl
  |cons x l ih=>exact ih
 |.sl t,v=>rfl
 |.o _,_=>rfl
theorem aKm(x:t.T):AV.flat (jB t x)=flD t:=by
 cases hl:nW t with
 |true=>cases t<;>first|rfl|(cases hl;done)
 |false=>rw[wV x hl];exact qO t x
mutual
def flX:XV->Bool
 |.d t _=>flD t
 |.any=>true
 |.un=>true
 |.ab=>true
 |.sc=>true
 |.c _=>true
 |.gst _=>true
 |.yld=>true
 |.agg cs=>aPu cs
 |.tup cs=>aPu cs
 |_=>false
def aPu:List XV->Bool
 |[]=>true
 |v::vs=>flX v&&aPu vs
end
mutual
theorem aRw[YL]:∀v:XV,AV.flat v.er=flX v
 |.d t x=>aKm x
 |.agg cs=>aL4 cs
 |.tup cs=>aMr cs
 |.clo _ _=>rfl
 |.any=>rfl
 |.un=>rfl
 |.ab=>rfl
 |.sc=>rfl
 |.ptr _ _=>rfl
 |.ept _ _ _ _=>rfl
 |.apt _ _=>rfl
 |.pa _ _ _=>rfl
 |.epa _ _ _ _ _=>rfl
 |.rop _ _ _=>rfl
 |.fl _ _=>rfl
 |.fln _=>rfl
 |.nl _=>rfl
 |.sl _ _ _ _=>rfl
 |.slw _ _ _=>rfl
 |.asl _ _ _=>rfl
 |.rpt _ _=>rfl
 |.rpa _ _ _=>rfl
 |.rsl _ _ _ _=>rfl
 |.mref _=>rfl
 |.itr _ _=>rfl
 |.c _=>rfl
 |.yld=>rfl
 |.gst _=>rfl
theorem aMr[YL]:∀vs:List XV,AV.flatL (XV.erL vs)=aPu vs
 |[]=>rfl
 |v::vs=>by show(AV.flat v.er&&AV.flatL (XV.erL vs))=(flX v&&aPu vs);rw[aRw v,aMr vs]
theorem bHq[YL]:∀v:XV,AV.flatL v.fc=flX v
 |.d t x=>qO t x
 |.agg cs=>aL4 cs
 |.tup cs=>by show(AV.flatL (XV.erL cs)&&true)=aPu cs;rw[gq,aMr]
 |.clo _ _=>rfl
 |.any=>rfl
 |.un=>rfl
 |.ab=>rfl
 |.sc=>rfl
 |.ptr _ _=>rfl
 |.ept _ _ _ _=>rfl
 |.apt _ _=>rfl
 |.pa _ _ _=>rfl
 |.epa _ _ _ _ _=>rfl
 |.rop _ _ _=>rfl
 |.fl _ _=>rfl
 |.fln _=>rfl
 |.nl _=>rfl
 |.sl _ _ _ _=>rfl
 |.slw _ _ _=>rfl
 |.asl _ _ _=>rfl
 |.rpt _ _=>rfl
 |.rpa _ _ _=>rfl
 |.rsl _ _ _ _=>rfl
 |.mref _=>rfl
 |.itr _ _=>rfl
 |.c _=>rfl
 |.yld=>rfl
 |.gst _=>rfl
theorem aL4[YL]:∀vs:List XV,AV.flatL (XV.fcL vs)=aPu vs
 |[]=>rfl
 |v::vs=>by show AV.flatL (v.fc++XV.fcL vs)=(flX v&&aPu vs);rw[aSz,bHq v,aL4 vs]
end
@[reducible] def RT:List XS->Type
 |[]=>Unit
 |[m]=>rty m.tys
 |m::m2::l=>rty m.tys⊕RT (m2::l)
structure Sig where
 fn:Nat
 ent:XS
 out:List XS
 F:fty ent.tys (RT out)
def dA:(l:List XS)->RT l->XS
 |[],_=>⟨[],[],[]⟩
 |[m],v=>m.fill (ofR m.tys v)
 |m::_::_,.inl v=>m.fill (ofR m.tys v)
 |_::m2::l,.inr v=>dA (m2::l) v
def XV.val:List (Nat×XV)->XV
 |[(_,v)]=>v
 |l=>.tup (l.map (·.2))
def XS.pv(o:XS):Option Value:=match o.env with
 |[(k,.c v)]=>match bb k 1000000 with
  |true=>some v
  |false=>none
 |_=>none
def aCm[YL](P:Program)(fn:Nat)(args:List AV)(bs:List (Option Blk))(o:XS)(nbs:List Blk):Prop:=match o.pv with
 |some pv=>bs=[]->aPo P fn args pv
 |none=>ACall P fn args bs (XV.val o.env).er (erB o.bs) nbs
def aI(P:Program)(g:Sig):Prop:=∀[YL] (v:tup g.ent.tys) (r:RT g.out),apF g.ent.tys g.F v=some r->∀nbs:List Blk,nbs.map some=erB (dA g.out r).own->
 aCm P g.fn ((g.ent.fill v).env.map fun p=>p.2.er) (erB (g.ent.fill v).bs) (dA g.out r) nbs
def jD(P:Program):List Sig->Prop
 |[]=>True
 |g::l=>aI P g/\jD P l
mutual
def bOf:XV->XV->Bool
 |.clo f ms,v=>match v with
  |.clo g vs=>bb f g&&bAf ms vs
  |_=>false
 |.ptr _ _,v=>match v with
  |.ptr _ _=>true
  |_=>false
 |.apt _ _,v=>match v with
  |.apt _ _=>true
  |_=>false
 |.rpt _ _,v=>match v with
  |.rpt _ _=>true
  |_=>false
 |.mref _,v=>match v with
  |.mref _=>true
  |_=>false
 |.slw _ _ _,v=>match v with
  |.slw _ _ _=>true
  |.fln _=>true
  |_=>false
 |.nl _,v=>match v with
  |.fln _=>true
  |.nl _=>true
  |_=>false
 |.fln _,v=>match v with
  |.fln _=>true
  |_=>false
 |.c x,v=>match v with
  |.c y=>cEq x y
  |_=>false
 |.agg ms,v=>match v with
  |.agg vs=>bAf ms vs
  |_=>false
 |.sc,_=>true
 |.d _ _,v=>match v with
  |.ptr _ _=>false
  |.apt _ _=>false
  |.rpt _ _=>false
  |.mref _=>false
  |.clo _ _=>false
  |.c _=>false
  |.sc=>false
  |_=>true
 |_,_=>false
def bAf:List XV->List XV->Bool
 |[],[]=>true
 |m::ms,v::vs=>bOf m v&&bAf ms vs
 |_,_=>false
end
def uQ:List (Nat×XV)->List XV
 |[]=>[]
 |p::r=>p.2::uQ r
def aWm:List Sig->Nat->List XV->Option Sig
 |[],_,_=>none
 |g::l,f,vs=>match bb g.fn f&&bAf (uQ g.ent.env) vs with
  |true=>some g
  |false=>aWm l f vs
theorem aFo{P:Program}{vs:List XV}:∀{l:List Sig} {f:Nat} {g:Sig},jD P l->aWm l f vs=some g->aI P g/\g.fn=f
 |[],_,_,_,h=>by cases h
 |g0::l,f,g,ht,h=>by
  unfold aWm at h;split at h
  ·rename_i hb;cases h;rw[ν]at hb;exact⟨ht.1,ι hb.1⟩
  ·exact aFo ht.2 h
def sm?{α β γ:Type}(v:α⊕β)(f:α->Option γ)(g:β->Option γ):Option γ:=match v with
 |.inl a=>f a
 |.inr y=>g y
def bE5:(l:List XS)->RT l->(XS->Option R)->Option R
 |[],_,_=>none
 |[m],v,K=>K (m.fill (ofR m.tys v))
 |m::m2::l,v,K=>sm? v (fun a=>K (m.fill (ofR m.tys a))) fun y=>bE5 (m2::l) y K
theorem aMk:∀{l:List XS} {v:RT l} {K:XS->Option R} {r:R},bE5 l v K=some r->K (dA l v)=some r
 |[],_,_,_,h=>by cases h
 |[_],_,_,_,h=>h
 |_::_::_,.inl _,_,_,h=>h
 |_::m2::l,.inr _,_,_,h=>aMk (l:=m2::l) h
def aPv:List (Option XB)->Option (List XB)
 |[]=>some []
 |some b::r=>match aPv r with
  |some l=>some (b::l)
  |none=>none
 |none::_=>none
theorem aF1[YL]:∀{l:List (Option XB)} {bl:List XB},aPv l=some bl->(bl.map XB.er).map some=erB l
 |[],_,h=>by cases h;rfl
 |some b::r,bl,h=>by
  unfold aPv at h;split at h
  ·rename_i l hl;cases h;show some b.er::(l.map XB.er).map some=some b.er::erB r;rw[aF1 hl]
  ·cases h
 |none::_,_,h=>by cases h
def tV:List XV->Nat->XV
 |[],_=>.any
 |v::_,0=>v
 |_::r,i+1=>tV r i
def zJ:Nat->List (Nat×XV)->List XV->Bool
 |_,[],[]=>true
 |n,(k,_)::r,_::vs=>bb k n&&zJ (n+1) r vs
 |_,_,_=>false
theorem aCz{f:XV->AV}:∀{l:List (Nat×XV)} {vs:List XV} {n:Nat} {ev:Nat->XV},zJ n l vs=true->(∀i,i<vs.length->ev (n+i)=tV vs i)->l.map (fun p=>f (ev p.1))=vs.map f
 |[],[],_,_,_,_=>rfl
 |(k,_)::r,v::vs,n,ev,h,he=>by
  have h:(bb k n&&zJ (n+1) r vs)=true:=h;rw[ν]at h;have e0:ev k=v:=by rw[ι h.1];exact he 0 (Nat.succ_pos _)
  show f (ev k)::r.map (fun p=>f (ev p.1))=f v::vs.map f;rw[e0,aCz h.2 fun i hi=>by rw[show n+1+i=n+(i+1) by omega,he (i+1) (Nat.succ_lt_succ hi)];rfl]
 |[],_::_,_,_,h,_=>by cases h
 |_::_,[],_,_,h,_=>by cases h
theorem aI9[YL](lk:bE)(φ:Hd->Option Hd):∀vs:List XV,AV.convL lk φ (XV.erL vs)=vs.map fun v=>AV.conv lk φ v.er
 |[]=>rfl
 |v::vs=>by show AV.conv _ _ v.er::AV.convL _ _ (XV.erL vs)=_;rw[aI9 lk φ vs];rfl
theorem pS[YL]:∀a c:List XV,XV.erL (a++c)=XV.erL a++XV.erL c
 |[],_=>rfl
 |x::a,c=>by show x.er::XV.erL (a++c)=_;rw[pS a c];rfl
mutual
def aXp:XV->Bool
 |.d t _=>flD t
 |.any=>true
 |.un=>true
 |.ab=>true
 |.sc=>true
 |.c _=>true
 |.slw _ _ _=>true
 |.sl _ _ _ _=>true
 |.agg cs=>aH3 cs
 |.tup cs=>aH3 cs
 |_=>false
def aH3:List XV->Bool
 |[]=>true
 |v::vs=>aXp v&&aH3 vs
end
theorem aVq:∀(a c:List AV),AV.flatOL (a++c)=(AV.flatOL a&&AV.flatOL c)
 |[],_=>rfl
 |x::a,c=>by show(AV.flatO x&&AV.flatOL (a++c))=(AV.flatO x&&AV.flatOL a&&AV.flatOL c);rw[aVq a c,jh]
theorem wJ:∀l:List DV,AV.flatOL (l.map .D)=AV.flatL (l.map .D)
 |[]=>rfl
 |x::l=>by show(DV.flat x&&AV.flatOL (l.map .D))=(DV.flat x&&AV.flatL (l.map .D));rw[wJ l]
theorem aSi(x:t.T):AV.flatO (jB t x)=AV.flat (jB t x):=by
 cases t with
 |u=>rfl
 |b=>rfl
 |i k=>rfl
 |s=>rfl
 |p a c=>exact wJ _
 |w a=>exact wJ _
 |ar n k=>exact wJ _
 |sl t=>rfl
 |o t=>rfl
mutual
theorem aUp[YL]:∀v:XV,aXp v=true->AV.flatO v.er=true
 |.d t x,h=>by show AV.flatO (jB t x)=true;rw[aSi,aKm];exact h
 |.agg cs,h=>aH5 cs h
 |.tup cs,h=>aGo cs h
 |.slw _ _ _,_=>rfl
 |.sl _ _ _ _,_=>rfl
 |.any,_=>rfl
 |.un,_=>rfl
 |.ab,_=>rfl
 |.sc,_=>rfl
 |.c _,_=>rfl
 |.ptr _ _,h=>by cases h
 |.ept _ _ _ _,h=>by cases h
 |.apt _ _,h=>by cases h
 |.pa _ _ _,h=>by cases h
 |.epa _ _ _ _ _,h=>by cases h
 |.rpt _ _,h=>by cases h
 |.rpa _ _ _,h=>by cases h
 |.rsl _ _ _ _,h=>by cases h
 |.rop _ _ _,h=>by cases h
 |.fl _ _,h=>by cases h
 |.fln _,h=>by cases h
 |.nl _,h=>by cases h
 |.asl _ _ _,h=>by cases h
 |.mref _,h=>by cases h
 |.itr _ _,h=>by cases h
 |.clo _ _,h=>by cases h
 |.yld,h=>by cases h
 |.gst _,h=>by cases h
theorem aGo[YL]:∀vs:List XV,aH3 vs=true->AV.flatOL (XV.erL vs)=true
 |[],_=>rfl
 |v::vs,h=>by have h:(aXp v&&aH3 vs)=true:=h;rw[ν]at h;show(AV.flatO v.er&&AV.flatOL (XV.erL vs))=true;rw[aUp v h.1,aGo vs h.2];rfl
theorem bCk[YL]:∀v:XV,aXp v=true->AV.flatOL v.fc=true
 |.d t x,h=>by show AV.flatOL ((t.ds x).map .D)=true;rw[wJ,qO];exact h
 |.agg cs,h=>aH5 cs h
 |.tup cs,h=>by show(AV.flatOL (XV.erL cs)&&true)=true;rw[aGo cs h];rfl
 |.slw _ _ _,_=>rfl
 |.sl _ _ _ _,_=>rfl
 |.any,_=>rfl
 |.un,_=>rfl
 |.ab,_=>rfl
 |.sc,_=>rfl
 |.c _,_=>rfl
 |.ptr _ _,h=>by cases h
 |.ept _ _ _ _,h=>by cases h
 |.apt _ _,h=>by cases h
 |.pa _ _ _,h=>by cases h
 |.epa _ _ _ _ _,h=>by cases h
 |.rpt _ _,h=>by cases h
 |.rpa _ _ _,h=>by cases h
 |.rsl _ _ _ _,h=>by cases h
 |.rop _ _ _,h=>by cases h
 |.fl _ _,h=>by cases h
 |.fln _,h=>by cases h
 |.nl _,h=>by cases h
 |.asl _ _ _,h=>by cases h
 |.mref _,h=>by cases h
 |.itr _ _,h=>by cases h
 |.clo _ _,h=>by cases h
 |.yld,h=>by cases h
 |.gst _,h=>by cases h
theorem aH5[YL]:∀vs:List XV,aH3 vs=true->AV.flatOL (XV.fcL vs)=true
 |[],_=>rfl
 |v::vs,h=>by have h:(aXp v&&aH3 vs)=true:=h;rw[ν]at h;show AV.flatOL (v.fc++XV.fcL vs)=true;rw[aVq,bCk v h.1,aH5 vs h.2];rfl
end
def bEe:List XB->Bool
 |[]=>true
 |.row true t _::l=>flD t&&bEe l
 |_::_=>false
theorem aU7[YL]:∀l:List XB,bEe l=true->(l.map XB.er).all Blk.flatR=true
 |[],_=>rfl
 |.row true t xs::l,h=>by
  have h:(flD t&&bEe l)=true:=h;rw[ν]at h;rw[cx,List.all_cons,aU7 l h.2,gq];show(xs.map t.ds).all (fun e=>e.all DV.flat)=true;rw[List.all_map,List.all_eq_true];intro x _;have:=qO t x;rw[h.1]at this;have key:∀l:List DV,AV.flatL (l.map .D)=l.all DV.flat:=fun l=>by
   induction l with
   |nil=>rfl
   |cons d l ih=>show(DV.flat d&&AV.flatL (l.map .D))=(DV.flat d&&l.all DV.flat);rw[ih]
  rw[key]at this;exact this
 |.row false _ _::_,h=>by cases h
 |.box _::_,h=>by cases h
 |.arr _ _ _ _::_,h=>by cases h
 |.rb _ _ _::_,h=>by cases h
 |.mp _ _ _ _ _ _::_,h=>by cases h
 |.it::_,h=>by cases h
 |.sb _ _ _::_,h=>by cases h
def bCf(al:Bool)(v:XV)(bl:List XB):Bool:=al&&(aXp v&&bEe bl)
def xfl(s:XS)(al:Bool)(v:XV)(bl:List XB)(hs:List Hd):List Hd:=match flX v,bl with
 |true,[]=>[]
 |_,_=>match bCf al v bl with
  |true=>[]
  |false=>xfz s hs
theorem bJ1[YL](s:XS)(al:Bool)(v:XV)(bl:List XB)(vs:List XV):xfl s al v bl (XV.hrL vs)=if AV.flat v.er=true/\bl.map XB.er=[]then[]else fzC (bCf al v bl) (fzL s.er.lk (AV.rowsL (XV.erL vs))):=by
 unfold xfl;rw[aRw,zT,qQ];cases flX v with
 |false=>rw[if_neg (fun h=>by cases h.1)];rfl
 |true=>cases bl with
  |nil=>rw[if_pos ⟨rfl,rfl⟩]
  |cons b bl=>rw[if_neg (fun h=>by cases h.2)];rfl
def aYn(s:XS)(al:Bool)(vs:List XV)(o:XS)(K:XV->List XB->List Hd->Option R):Option R:=match aPv o.own with
 |some bl=>K ((XV.val o.env).ren (bF [] s.own.length)) (bl.map (XB.ren (bF [] s.own.length))) (xfl s al (XV.val o.env) bl (XV.hrL vs))
 |none=>none
def bB3:XV->Bool
 |.fln _=>true
 |_=>false
def aKb:List (Nat×XV)->List Bool
 |[]=>[]
 |p::r=>bB3 p.2::aKb r
def aO3:List (Nat×XV)->Bool
 |[]=>true
 |p::r=>!bB3 p.2&&aO3 r
theorem aF3(lk:bE):∀{l:List (Nat×XV)} (as:List AV),aO3 l=true->AV.convK lk (aKb l) as=AV.convL lk (fun _=>none) as
 |[],_,_=>rfl
 |p::r,as,h=>by
  unfold aO3 at h;rw[ν,dc]at h;unfold aKb;rw[h.1];cases as with
  |nil=>rfl
  |cons a as=>
   show AV.conv _ _ a::AV.convK lk (aKb r) as=AV.conv _ _ a::AV.convL lk _ as;rw[aF3 lk as h.2]
def aYy(s:XS):List (Nat×XV)->List XV->(List XV->Option R)->Option R
 |[],[],K=>K []
 |p::ms,v::vs,K=>match bB3 p.2 with
  |true=>match v with
   |.fln t=>aYy s ms vs fun l=>K (.fln t::l)
   |_=>none
  |false=>xcv s (fun _=>none) v fun v'=>aYy s ms vs fun l=>K (v'::l)
 |_,_,_=>none
theorem aL5[YL]{s:XS}{r:R}:∀{ms:List (Nat×XV)} {vs:List XV} {K:List XV->Option R},aYy s ms vs K=some r->∃l,K l=some r/\l.map XV.er=AV.convK s.er.lk (aKb ms) (XV.erL vs)/\slP.slPL (yY s fun _=>none) l
 |[],[],K,h=>⟨[],h,rfl,trivial⟩
 |p::ms,v::vs,K,h=>by
  unfold aYy at h;unfold aKb;split at h
  ·rename_i hp;rw[hp];split at h
   ·rename_i t;obtain⟨l,h,h1,h2⟩:=aL5 h;refine⟨_,h,?_,trivial,h2⟩;show AV.fl []::l.map XV.er=AV.fl []::AV.convK _ (aKb ms) (XV.erL vs);rw[h1]
   ·cases h
  ·rename_i hp;rw[hp];obtain⟨v',h,h0,_,h3⟩:=aR7 h;obtain⟨l,h,h1,h2⟩:=aL5 h;refine⟨_,h,?_,h3,h2⟩;show v'.er::l.map XV.er=AV.conv _ _ v.er::AV.convK _ (aKb ms) (XV.erL vs);rw[h1,h0]
 |[],_::_,_,h=>by cases h
 |_::_,[],_,h=>by cases h
theorem aXt[YL]{ds:List DS}{v:tup m.tys}(h1:mtE m.env l=some ds)(h2:aDy m.tys ds=some v)(hp:slP.slPL (yY s fun _=>none) l):(m.fill v).env.map (fun p=>p.2.er)=l.map XV.er:=by have hL:=aIb h2;show(m.fil (sgs m.tys v)).env.map _=_;rw[hL];obtain⟨_,x2⟩:=aSk (len:=bIy (oU m.bs (ds.drop (aTj m.env).length)) (oU m.own ((ds.drop (aTj m.env).length).drop (aEa m.bs).length))) h1 (slPL.mono (fun h' n ⟨h,mt,t,xs,e1,e2,e3⟩=>by cases e1) hp);obtain⟨e,x3,x4,x5⟩:=x2 [];rw[χ]at x3;show(aAh _ m.env ds).1.map _=_;rw[x3];exact x5
def aN4(s:XS)(al:Bool)(g:Sig)(vs:List XV)(K:XV->List XB->List Hd->Option R)(Kp:Value->Option R):Option R:=match g.ent.bs,g.ent.own with
 |[],[]=>aYy s g.ent.env vs fun l=>match mtE g.ent.env l with
  |some ds=>match aDy g.ent.tys ds with
   |some v=>bd? (apF g.ent.tys g.F v) fun r=>bE5 g.out r fun o=>match o.bs,o.pv with
    |[],none=>aYn s al vs o K
    |_,some pv=>match o.own,aO3 g.ent.env with
     |[],true=>Kp pv
     |_,_=>none
    |_,_=>none
   |none=>none
  |none=>none
 |_,_=>none
def bIw(s:XS)(g:Sig)(vs:List XV)(K:XV->List XB->List Hd->Option R):Option R:=aN4 s true g vs K fun _=>none
def aY1(T:List Sig)(s:XS)(vs:List XV)(K:XV->List XB->List Hd->Option R):XV->Option R
 |.clo fn caps=>match aWm T fn (vs++caps)with
  |some g=>bIw s g (vs++caps) K
  |none=>none
 |_=>none
theorem aSn(h:m.bs=[])(v:tup m.tys):(m.fill v).bs=[]:=by show(pN _ m.bs _).1=[];rw[h];rfl
theorem bGb[YL](ψ:Hd->Hd)(l:List XB):(l.map (XB.ren ψ)).map XB.er=(l.map XB.er).map (Blk.ren ψ):=by rw[fq,fq];congr 1;funext b;exact aN7 ψ b
theorem aK7[YL]{g:Sig}(hs:aI P g){al:Bool}{K:XV->List XB->List Hd->Option R}{Kp:Value->Option R}{r:R}(h:aN4 s al g vs K Kp=some r){KP:AV->List Blk->List Hd->Prop}(hK:∀v nbs fz,K v nbs fz=some r->KP v.er (nbs.map XB.er) fz):
  (∃z rr nbs,(al=false->z=false)/\(z=true->AV.flatO rr=true/\nbs.all Blk.flatR=true)/\ACall P g.fn (AV.convK s.er.lk (aKb g.ent.env) (XV.erL vs)) [] rr [] nbs/\
   KP (AV.ren (bF [] s.er.nx) rr) (nbs.map (Blk.ren (bF [] s.er.nx))) (if AV.flat rr=true/\nbs=[]then[]else fzC z (fzL s.er.lk (AV.rowsL (XV.erL vs)))))\/
   ∃pv,aPo P g.fn (AV.convL s.er.lk (fun _=>none) (XV.erL vs)) pv/\Kp pv=some r:=by
 unfold aN4 at h;split at h
 case h_2=>cases h
 rename_i hb ho;obtain⟨l,h,e1,hp⟩:=aL5 h;split at h
 case h_2=>cases h
 rename_i ds hds;split at h
 case h_2=>cases h
 rename_i v hv;obtain⟨rr,hr,h⟩:=bJr h;have h:=aMk h;have hargs:(g.ent.fill v).env.map (fun p=>p.2.er)=AV.convK s.er.lk (aKb g.ent.env) (XV.erL vs):=(aXt hds hv hp).trans e1;split at h
 ·rename_i hob hpv;unfold aYn at h;split at h
  case h_2=>cases h
  rename_i bl hbl;have hcall:=hs v rr hr (bl.map XB.er) (aF1 hbl);unfold aCm at hcall;rw[hpv]at hcall;rw[hargs,aSn hb,hob]at hcall;refine .inl ⟨bCf al (XV.val (dA g.out rr).env) bl,_,_,fun e=>by unfold bCf;rw[e];rfl,fun e=>?_,hcall,?_⟩
  ·unfold bCf at e;rw[ν,ν]at e;exact⟨aUp _ e.2.1,aU7 _ e.2.2⟩
  have:=hK _ _ _ h;rw[aM5,bGb]at this;rw[bJ1]at this;exact this
 ·rename_i pv hpv;split at h
  case h_2=>cases h
  rename_i hown hno;have:=hs v rr hr [] (by rw[hown];rfl);unfold aCm at this;rw[hpv,hargs,aSn hb,aF3 _ _ hno]at this;exact .inr ⟨pv,this rfl,h⟩
 ·cases h
def aSd(T:List Sig)(s:XS)(vs:List XV)(K:XV->List XB->List Hd->Option R)(Kp:Value->Option R):XV->Option R
 |.clo fn caps=>match aWm T fn (vs++caps)with
  |some g=>match aO3 g.ent.env with
   |true=>aN4 s false g (vs++caps) K Kp
   |false=>none
  |none=>none
 |_=>none
theorem aWq[YL]{T:List Sig}(hT:jD P T){K:XV->List XB->List Hd->Option R}{Kp:Value->Option R}{r:R}(h:aSd T s vs K Kp vf=some r){KP:AV->List Blk->List Hd->Prop}(hK:∀v nbs fz,K v nbs fz=some r->KP v.er (nbs.map XB.er) fz):
  ∃fn caps,vf.er=.clo fn caps/\((∃rr nbs,ACall P fn (AV.convL s.er.lk (fun _=>none) (XV.erL vs++caps)) [] rr [] nbs/\
   KP (AV.ren (bF [] s.er.nx) rr) (nbs.map (Blk.ren (bF [] s.er.nx))) (if AV.flat rr=true/\nbs=[]then[]else fzL s.er.lk (AV.rowsL (XV.erL vs++caps))))\/
   ∃pv,aPo P fn (AV.convL s.er.lk (fun _=>none) (XV.erL vs++caps)) pv/\Kp pv=some r):=by
 unfold aSd at h;split at h
 case h_2=>cases h
 rename_i fn caps;split at h
 case h_2=>cases h
 rename_i g hg;obtain⟨hs,hfn⟩:=aFo hT hg;split at h
 case h_2=>cases h
 rename_i hno;rcases aK7 hs h hK with⟨z,rr,nbs,hz,_,h1,h2⟩|h1
 ·rw[aF3 _ _ hno,hfn,pS]at h1;rw[hz rfl,pS]at h2;exact⟨fn,XV.erL caps,rfl,.inl ⟨rr,nbs,h1,h2⟩⟩
 ·rw[hfn,pS]at h1;exact⟨fn,XV.erL caps,rfl,.inr h1⟩
theorem bBk[YL]{T:List Sig}(hT:jD P T){K:XV->List XB->List Hd->Option R}{r:R}(h:aY1 T s vs K vf=some r){KP:AV->List Blk->List Hd->Prop}(hK:∀v nbs fz,K v nbs fz=some r->KP v.er (nbs.map XB.er) fz):
  ∃fn caps ks z rr nbs,vf.er=.clo fn caps/\(z=true->AV.flatO rr=true/\nbs.all Blk.flatR=true)/\ACall P fn (AV.convK s.er.lk ks (XV.erL vs++caps)) [] rr [] nbs/\
   KP (AV.ren (bF [] s.er.nx) rr) (nbs.map (Blk.ren (bF [] s.er.nx))) (if AV.flat rr=true/\nbs=[]then[]else fzC z (fzL s.er.lk (AV.rowsL (XV.erL vs++caps)))):=by
 unfold aY1 at h;split at h
 case h_2=>cases h
 rename_i fn caps;split at h
 case h_2=>cases h
 rename_i g hg;obtain⟨hs,hfn⟩:=aFo hT hg;rcases aK7 hs h hK with⟨z,rr,nbs,_,hz,h1,h2⟩|⟨pv,_,h⟩
 ·rw[hfn,pS]at h1;rw[pS]at h2;exact⟨fn,XV.erL caps,_,z,rr,nbs,rfl,hz,h1,h2⟩
 ·cases h
end
section
variable{R:Type}
def w1(s:XS)(x:Operand)(f:XV->Option R):Option R:=match noG x with
 |true=>f (s.ev x)
 |false=>none
theorem aS[YL]{x:Operand}{f:XV->Option R}{r:R}(h:w1 s x f=some r):f (s.ev x)=some r/\s.er.ev x=(s.ev x).er:=by
 unfold w1 at h;split at h
 ·exact⟨h,aDz s ‹_›⟩
 ·cases h
def wL(s:XS):List Operand->(List XV->Option R)->Option R
 |[],f=>f []
 |x::xs,f=>w1 s x fun v=>wL s xs fun vs=>f (v::vs)
theorem aEk[YL]{s:XS}{r:R}:∀{xs:List Operand} {f:List XV->Option R},wL s xs f=some r->∃vs,f vs=some r/\xs.map s.er.ev=XV.erL vs
 |[],f,h=>⟨[],h,rfl⟩
 |x::xs,f,h=>by obtain⟨h,e1⟩:=aS h;obtain⟨vs,h,e2⟩:=aEk h;exact⟨s.ev x::vs,h,by show s.er.ev x::xs.map s.er.ev=_;rw[e1,e2];rfl⟩
def bA8(c:Bool)(K:XV->Option R):XV->XV->Option R
 |.d t x,v=>match v with
  |.d t' y=>match t'.cst t y with
   |some y=>K (.d t (cond c x y))
   |none=>if? c (K (.d t x)) (K (.d t' y))
  |v=>if? c (K (.d t x)) (K v)
 |u,v=>if? c (K u) (K v)
theorem bAs[YL]{c:Bool}{K:XV->Option R}{KP:AV->Prop}{r:R}{b:XV}(h:bA8 c K a b=some r)(hK:∀v,K v=some r->KP v.er):KP (if c=true then a.er else b.er):=by
 have hif:∀{a b:XV},if? c (K a) (K b)=some r->KP (if c=true then a.er else b.er):=fun h=>by
  rcases aNv h with⟨rfl,h⟩|⟨rfl,h⟩
  ·exact hK _ h
  ·exact hK _ h
 unfold bA8 at h;split at h
 ·split at h
  ·split at h
   ·rename_i y hy;obtain⟨e,rfl⟩:=Ty.cst_ok hy;subst e;have:=hK _ h;cases c<;>exact this
   ·exact hif h
  ·exact hif h
 ·exact hif h
def nth:List XV->Nat->Option XV
 |[],_=>none
 |v::_,0=>some v
 |_::r,i+1=>nth r i
theorem aZ8[YL]:∀{l:List XV} {i:Nat} {v:XV},nth l i=some v->(XV.erL l)[i]?=some v.er
 |[],_,_,h=>by cases h
 |v::_,0,_,h=>by cases h;rfl
 |_::r,i+1,v,h=>by have:=aZ8 (l:=r) (i:=i) h;show(_::XV.erL r)[i+1]?=_;rw[List.getElem?_cons_succ];exact this
def aHz(kd:Nat):XV->XV->Option Bool
 |.d .b x,.d .b y=>match bb kd 0 with
  |true=>some (x==y)
  |false=>none
 |.d (.i k) x,.d (.i k') y=>if kd=1/\k=k' then some (x==y)else none
 |.d .s x,.d .s y=>match bb kd 2 with
  |true=>some (x==y)
  |false=>none
 |_,_=>none
def aPl:List Nat->Bool->Bool->Bool
 |[],p,_=>p
 |_::_,p,q=>p&&q
def aPr:List Nat->List XV->List XV->Option Bool
 |[],[],[]=>some true
 |kd::kds,x::xs,y::ys=>match aHz kd x y with
  |some p=>match aPr kds xs ys with
   |some q=>some (aPl kds p q)
   |none=>none
  |none=>none
 |_,_,_=>none
theorem aX9(h:aPr [] xs ys=some q):q=true:=by cases xs<;>cases ys<;>first|(cases h;rfl;done)|(cases h;done)
theorem aP3[YL]:∀{kds:List Nat} {xs ys:List XV} {b:Bool},aPr kds xs ys=some b->jV kds (XV.fcL xs) (XV.fcL ys)=some b
 |[],xs,ys,b,h=>by
  cases xs<;>cases ys<;>first|(cases h;rfl;done)|(cases h;done)
 |kd::kds,[],ys,b,h=>by cases h
 |kd::kds,x::xs,[],b,h=>by cases h
 |kd::kds,x::xs,y::ys,b,h=>by
  unfold aPr at h;split at h
  case h_2=>cases h
  rename_i p hp;split at h
  case h_2=>cases h
  rename_i q hq;cases h;have e:aPl kds p q=(p&&q):=by
   cases kds with
   |nil=>rw[aX9 hq,gq];rfl
   |cons _ _=>rfl
  have ih:=aP3 hq;obtain⟨d1,d2,e1,e2,e3⟩:∃d1 d2,x.fc=[.D d1]/\y.fc=[.D d2]/\DV.same kd d1 d2=some p:=by
   unfold aHz at hp;split at hp
   ·split at hp
    ·rename_i hb;obtain rfl:=ι hb;exact⟨_,_,rfl,rfl,hp⟩
    ·cases hp
   ·exact⟨_,_,rfl,rfl,hp⟩
   ·split at hp
    ·rename_i hb;obtain rfl:=ι hb;exact⟨_,_,rfl,rfl,hp⟩
    ·cases hp
   ·cases hp
  show jV (kd::kds) (x.fc++XV.fcL xs) (y.fc++XV.fcL ys)=_;rw[e1,e2];show(match DV.same kd d1 d2,jV kds (XV.fcL xs) (XV.fcL ys)with|some p,some q=>some (p&&q)|_,_=>none)=_;rw[e3,ih,e]
def aLv(off:Nat)(K:XV->Option R):XV->Option R
 |.ptr h o=>K (.ptr h (o+off))
 |.ept h t ix o=>match bb t.n 1 with
  |true=>match o,off with
   |0,0=>K (.ept h t ix 0)
   |_,_=>none
  |false=>K (.ept h t ix (o+off))
 |.apt h ix=>K (.apt h (ix+off))
 |.rpt h o=>K (.rpt h (o+off))
 |.rop t x o=>K (.rop t x (o+off))
 |_=>none
def ixA(o j k:Nat):Nat:=match o,k with
 |0,1=>j
 |o,1=>o+j
 |o,k=>o+j*k
theorem sQ(o j k:Nat):ixA o j k=o+j*k:=by
 unfold ixA;split
 ·omega
 ·omega
 ·rfl
def aG9(k:Nat)(j:Int)(K:XV->Option R):XV->Option R
 |.d (.sl t) xs=>match bb t.n k with
  |true=>aZ xs j fun x=>K (.rop t x 0)
  |false=>none
 |.fl t xs=>match bb t.n k with
  |true=>aZ xs j fun x=>K (.rop t x 0)
  |false=>none
 |.slw h t len=>match bb t.n k with
  |true=>gd? (0<=j) (gd? (j<(len:Int)) (K (.ept h t j.toNat 0)))
  |false=>none
 |.sl h t off len=>match bb t.n k with
  |true=>gd? (0<=j) (gd? (j<(len:Int)) (K (.ept h t (off+j.toNat) 0)))
  |false=>none
 |.asl h off len=>match bb 1 k with
  |true=>gd? (0<=j) (gd? (j<(len:Int)) (K (.apt h (ixA off j.toNat 1))))
  |false=>none
 |.rsl h off l len=>match bb 1 k with
  |true=>gd? (0<=j) (gd? (j<(len:Int)) (K (.rpa h off (ixA l j.toNat 1))))
  |false=>none
 |_=>none
def bJ7(m k:Nat)(j:Int)(K:XV->Option R):XV->Option R
 |.apt h ix=>gd? (0<=j) (gd? (j<(m:Int)) (K (.apt h (ixA ix j.toNat k))))
 |.rop t x o=>gd? (0<=j) (gd? (j<(m:Int)) (K (.rop t x (ixA o j.toNat k))))
 |.ptr h o=>match bb k 1 with
  |true=>gd? (0<=j) (gd? (j<(m:Int)) (K (.pa h o j.toNat)))
  |false=>gd? (0<=j) (gd? (j<(m:Int)) (K (.ptr h (ixA o j.toNat k))))
 |.rpt h o=>match bb k 1 with
  |true=>gd? (0<=j) (gd? (j<(m:Int)) (K (.rpa h o j.toNat)))
  |false=>gd? (0<=j) (gd? (j<(m:Int)) (K (.rpt h (ixA o j.toNat k))))
 |.ept h t ix o=>match bb t.n 1,bb k 1 with
  |false,true=>gd? (0<=j) (gd? (j<(m:Int)) (K (.epa h t ix o j.toNat)))
  |_,_=>none
 |_=>none
def aIw(s:XS)(k:Nat)(lo hi mx:Option Operand)(K:XV->Option R):XV->Option R
 |.d (.sl t) xs=>match bb t.n k with
  |true=>match mx with
   |none=>qA s hi xs.length fun h=>qA s lo 0 fun l=>gd? (l<=h) (gd? (h<=xs.length) (K (.d (.sl t) ((xs.drop l).take (h-l)))))
   |some _=>match hi with
    |none=>none
    |some _=>qA s mx xs.length fun m=>qA s hi xs.length fun h=>qA s lo 0 fun l=>gd? (l<=h) (gd? (h<=xs.length) (gd? (h=m) (K (.fl t ((xs.drop l).take (h-l))))))
  |false=>none
 |.fln t=>match mx with
  |none=>qA s hi 0 fun h=>qA s lo 0 fun l=>gd? (l<=h) (gd? (h<=0) (K (.fln t)))
  |some _=>none
 |.slw hd t len=>match bb t.n k,mx with
  |true,none=>match lo,hi with
   |none,none=>K (.slw hd t len)
   |none,hi=>qA s hi len fun h=>gd? (h<=len) (K (.sl hd t 0 h))
   |lo,hi=>qA s hi len fun h=>qA s lo 0 fun l=>gd? (l<=h) (gd? (h<=len) (K (.sl hd t l (h-l))))
  |_,_=>none
 |.sl hd t off len=>match bb t.n k,mx with
  |true,none=>qA s hi len fun h=>qA s lo 0 fun l=>gd? (l<=h) (gd? (h<=len) (K (.sl hd t (off+l) (h-l))))
  |_,_=>none
 |.asl hd off len=>match bb 1 k,mx with
  |true,none=>qA s hi len fun h=>qA s lo 0 fun l=>gd? (l<=h) (gd? (h<=len) (K (.asl hd (ixA off l 1) (h-l))))
  |_,_=>none
 |.rsl hd off l0 len=>match bb 1 k,mx with
  |true,none=>qA s hi len fun h=>qA s lo 0 fun l=>gd? (l<=h) (gd? (h<=len) (K (.rsl hd off (ixA l0 l 1) (h-l))))
  |_,_=>none
 |_=>none
theorem aLh[YL]{K:XV->Option R}{r:R}(h:aLv off K v=some r){KP:AV->Prop}(hK:∀v,K v=some r->KP v.er):
  match v.er with
  |.ptr h o=>KP (.ptr h (o+off))
  |.eptr h k ix o=>KP (AV.eadd h k ix o off)
  |.rop ds=>KP (.rop (ds.drop off))
  |_=>False:=by
 unfold aLv at h;split at h
 ·exact hK _ h
 ·rename_i hd t ix o;show KP (AV.eadd hd t.n ix o off);unfold AV.eadd;split at h
  ·rename_i hb;have hb:=ι hb;split at h
   ·have:=hK _ h;simp only[XV.er,hb]at this;rw[if_pos hb];exact this
   ·cases h
  ·rename_i hb;rw[if_neg (fun e=>by rw[e]at hb;cases hb)];exact hK _ h
 ·rename_i hd ix;show KP (AV.eadd hd 1 ix 0 off);unfold AV.eadd;rw[if_pos rfl];exact hK _ h
 ·rename_i hd ix;show KP (AV.eadd hd 1 ix 0 off);unfold AV.eadd;rw[if_pos rfl];exact hK _ h
 ·rename_i t x o;have:=hK _ h;simp only[XV.er]at this|-;rw[dh];exact this
 ·cases h
theorem aC3[YL]{K:XV->Option R}{r:R}(h:aG9 k j K v=some r){KP:AV->Prop}(hK:∀v,K v=some r->KP v.er):0<=j/\
  match v.er with
  |.D (.L es)=>∃e,es[j.toNat]?=some e/\e.length=k/\KP (.rop e)
  |.fl es=>∃e,es[j.toNat]?=some e/\e.length=k/\KP (.rop e)
  |.sl h k' off len=>k'=k/\j<len/\KP (.eptr h k (off+j.toNat) 0)
  |_=>False:=by
 unfold aG9 at h;split at h
 ·rename_i t xs;split at h
  ·rename_i hb;obtain⟨x,h0,hx,h⟩:=aQa h;refine⟨h0,t.ds x,by rw[az,hx];rfl,by rw[Ty.ds_len];exact ι hb,hK _ h⟩
  ·cases h
 ·rename_i t xs;split at h
  ·rename_i hb;obtain⟨x,h0,hx,h⟩:=aQa h;refine⟨h0,t.ds x,by rw[az,hx];rfl,by rw[Ty.ds_len];exact ι hb,hK _ h⟩
  ·cases h
 ·split at h
  ·rename_i hb;obtain⟨h0,h⟩:=aX h;obtain⟨h1,h⟩:=aX h;have hb:=ι hb;have:=hK _ h;simp only[XV.er,hb]at this;exact⟨h0,hb,h1,by rw[bf];exact this⟩
  ·cases h
 ·split at h
  ·rename_i hb;obtain⟨h0,h⟩:=aX h;obtain⟨h1,h⟩:=aX h;have hb:=ι hb;have:=hK _ h;simp only[XV.er,hb]at this;exact⟨h0,hb,h1,this⟩
  ·cases h
 ·split at h
  ·rename_i hb;obtain⟨h0,h⟩:=aX h;obtain⟨h1,h⟩:=aX h;have hb:=ι hb;subst hb;have:=hK _ h;rw[sQ,cz]at this;exact⟨h0,rfl,h1,this⟩
  ·cases h
 ·rename_i hd off l len;split at h
  ·rename_i hb;obtain⟨h0,h⟩:=aX h;obtain⟨h1,h⟩:=aX h;have hb:=ι hb;subst hb;have:=hK _ h;simp only[XV.er,sQ,cz]at this;exact⟨h0,rfl,h1,by rw[fb];exact this⟩
  ·cases h
 ·cases h
theorem bE6[YL]{m:Nat}{K:XV->Option R}{r:R}(h:bJ7 m k j K v=some r){KP:AV->Prop}(hK:∀v,K v=some r->KP v.er):0<=j/\j<(m:Int)/\
  match v.er with
  |.ptr h o=>KP (.ptr h (o+j.toNat*k))
  |.eptr h k' ix o=>KP (AV.eadd h k' ix o (j.toNat*k))
  |.rop ds=>KP (.rop (ds.drop (j.toNat*k)))
  |_=>False:=by
 unfold bJ7 at h;split at h
 ·rename_i hd ix;obtain⟨h0,h⟩:=aX h;obtain⟨h1,h⟩:=aX h;have:=hK _ h;rw[sQ]at this;refine⟨h0,h1,?_⟩;show KP (AV.eadd hd 1 ix 0 (j.toNat*k));unfold AV.eadd;rw[if_pos rfl];exact this
 ·rename_i t x o;obtain⟨h0,h⟩:=aX h;obtain⟨h1,h⟩:=aX h;have:=hK _ h;rw[sQ]at this;refine⟨h0,h1,?_⟩;simp only[XV.er]at this|-;rw[dh];exact this
 ·rename_i hd o;split at h
  ·rename_i hb;obtain⟨h0,h⟩:=aX h;obtain⟨h1,h⟩:=aX h;have hb:=ι hb;subst hb;have:=hK _ h;refine⟨h0,h1,?_⟩;show KP (.ptr hd (o+j.toNat*1));rw[cz];exact this
  ·obtain⟨h0,h⟩:=aX h;obtain⟨h1,h⟩:=aX h;have:=hK _ h;rw[sQ]at this;exact⟨h0,h1,this⟩
 ·rename_i hd o;split at h
  ·rename_i hb;obtain⟨h0,h⟩:=aX h;obtain⟨h1,h⟩:=aX h;have hb:=ι hb;subst hb;have:=hK _ h;refine⟨h0,h1,?_⟩;show KP (AV.eadd hd 1 o 0 (j.toNat*1));unfold AV.eadd;rw[if_pos rfl,cz];exact this
  ·obtain⟨h0,h⟩:=aX h;obtain⟨h1,h⟩:=aX h;have:=hK _ h;rw[sQ]at this;refine⟨h0,h1,?_⟩;show KP (AV.eadd hd 1 o 0 (j.toNat*k));unfold AV.eadd;rw[if_pos rfl];exact this
 ·rename_i hd t ix o;split at h
  ·rename_i hb1 hb;obtain⟨h0,h⟩:=aX h;obtain⟨h1,h⟩:=aX h;have hb:=ι hb;subst hb;have:=hK _ h;refine⟨h0,h1,?_⟩;show KP (AV.eadd hd t.n ix o (j.toNat*1));unfold AV.eadd;rw[if_neg (fun e=>by rw[e]at hb1;cases hb1),cz];exact this
  ·cases h
 ·cases h
theorem aDi[YL]{lo hi mx:Option Operand}{K:XV->Option R}{r:R}(h:aIw s k lo hi mx K v=some r){KP:AV->Prop}(hK:∀v,K v=some r->KP v.er):rE k s.er.ev lo hi mx KP v.er:=by
 unfold aIw at h;split at h
 ·rename_i t xs;split at h
  ·rename_i hb;have hb:=ι hb;have hu:Uni k (xs.map t.ds):=hb▸uC t xs;have hl:(xs.map t.ds).length=xs.length:=μ _;split at h
   ·refine⟨hu,?_⟩;rw[hl];rw[show∀(Q:Nat->Prop),gE s.er.ev none xs.length Q=Q xs.length from fun _=>rfl];refine cV h fun hh h=>cV h fun l h=>?_;obtain⟨h1,h⟩:=aX h;obtain⟨h2,h⟩:=aX h;refine⟨h1,h2,fun e=>ct e,?_⟩;have:=hK _ h;simp only[XV.er,jB,br,b6]at this;exact this
   ·split at h
    ·cases h
    ·refine⟨hu,?_⟩;rw[hl];refine cV h fun m h=>cV h fun hh h=>cV h fun l h=>?_;obtain⟨h1,h⟩:=aX h;obtain⟨h2,h⟩:=aX h;obtain⟨h3,h⟩:=aX h;refine⟨h1,h2,fun _=>⟨rfl,h3⟩,?_⟩;have:=hK _ h;simp only[XV.er,br,b6]at this;rw[if_pos (show(some _).isSome=true from rfl)];exact this
  ·cases h
 ·rename_i t;split at h
  ·refine⟨fun e he=>(by simp at he),?_⟩;refine(show∀Q:Nat->Prop,Q 0->gE s.er.ev none ([]:List (List DV)).length Q from fun _ h=>h) _ ?_;refine cV (d:=0) h fun hh h=>cV h fun l h=>?_;obtain⟨h1,h⟩:=aX h;obtain⟨h2,h⟩:=aX h;refine⟨h1,h2,ω _,fun e=>ct e,?_⟩;have:=hK _ h;rw[if_pos (show hh=0 by omega),List.drop_nil,List.take_nil];exact this
  ·cases h
 ·rename_i hd t len;split at h
  ·rename_i hb;have hb:=ι hb;split at h
   ·refine⟨hb,rfl,?_⟩;show 0<=len/\len<=len/\_;refine⟨di _,ω _,?_⟩;have:=hK _ h;simp only[XV.er,hb]at this;exact this
   ·refine⟨hb,rfl,cV h fun hh h=>?_⟩;obtain⟨h2,h⟩:=aX h;show 0<=hh/\hh<=len/\_;refine⟨di _,h2,?_⟩;have:=hK _ h;simp only[XV.er,hb]at this;exact this
   ·refine⟨hb,rfl,cV h fun hh h=>cV h fun l h=>?_⟩;obtain⟨h1,h⟩:=aX h;obtain⟨h2,h⟩:=aX h;refine⟨h1,h2,?_⟩;have:=hK _ h;simp only[XV.er,hb]at this;rw[bf];exact this
  ·cases h
 ·rename_i hd t off len;split at h
  ·rename_i hb;have hb:=ι hb;refine⟨hb,rfl,cV h fun hh h=>cV h fun l h=>?_⟩;obtain⟨h1,h⟩:=aX h;obtain⟨h2,h⟩:=aX h;refine⟨h1,h2,?_⟩;have:=hK _ h;simp only[XV.er,hb]at this;exact this
  ·cases h
 ·rename_i hd off len;split at h
  ·rename_i hb;have hb:=ι hb;refine⟨hb,rfl,cV h fun hh h=>cV h fun l h=>?_⟩;obtain⟨h1,h⟩:=aX h;obtain⟨h2,h⟩:=aX h;refine⟨h1,h2,?_⟩;have:=hK _ h;rw[sQ,cz]at this;subst hb;exact this
  ·cases h
 ·rename_i hd off l0 len;split at h
  ·rename_i hb;have hb:=ι hb;refine⟨hb,rfl,cV h fun hh h=>cV h fun l h=>?_⟩;obtain⟨h1,h⟩:=aX h;obtain⟨h2,h⟩:=aX h;refine⟨h1,h2,?_⟩;have:=hK _ h;simp only[XV.er,sQ,cz]at this;subst hb;rw[fb];exact this
  ·cases h
 ·cases h
end
section
variable{R:Type}
def bI(xs:List Int):Str:=xs.map fun n=>UInt8.ofNat n.toNat
theorem aDw:∀{xs:List Int},pU (xs.map (Ty.i .u8).ds)=some (bI xs)
 |[]=>rfl
 |x::xs=>by have ih:=aDw (xs:=xs);show(pU (xs.map (Ty.i .u8).ds)).map _=_;rw[ih];rfl
def szL:List XV->Nat
 |[]=>0
 |v::r=>v.sz+szL r
theorem aDv[YL]:∀l:List XV,(XV.fcL l).length=szL l
 |[]=>rfl
 |v::r=>by show(v.fc++XV.fcL r).length=v.sz+szL r;rw[κ,aGu,aDv r]
theorem xC:∀l:List DV,AV.data (l.map .D)=some l
 |[]=>rfl
 |x::l=>by show(AV.data (l.map .D)).map (x::·)=_;rw[xC l];rfl
def zl:Ty->List XV
 |.u=>[]
 |.b=>[.d .b false]
 |.i k=>[.d (.i k) 0]
 |.s=>[.d .s []]
 |.p a c=>zl a++zl c
 |.w a=>zl a
 |.ar n k=>[.d (.ar n k) (Arr.zero n)]
 |.sl t=>[.fln t]
 |.o t=>[.fln t]
def zV:Ty->List AV
 |.u=>[]
 |.b=>[.D (.B false)]
 |.i k=>[.D (.I k 0)]
 |.s=>[.D (.S [])]
 |.p a c=>zV a++zV c
 |.w a=>zV a
 |.ar n k=>bg n (.D (.I k 0))
 |.sl _=>[.fl []]
 |.o _=>[.fl []]
theorem aBw[YL]:∀t:Ty,XV.fcL (zl t)=zV t
 |.u=>rfl
 |.b=>rfl
 |.i _=>rfl
 |.s=>rfl
 |.p a c=>by show XV.fcL (zl a++zl c)=zV a++zV c;rw[oH,aBw a,aBw c]
 |.w a=>aBw a
 |.ar n k=>by
  show(((bg n (0:Int)).map (DV.I k)).map AV.D)++[]=bg n (.D (.I k 0));rw[χ,gn,gn]
 |.sl _=>rfl
 |.o _=>rfl
def zeq:List AV->List AV->Bool
 |[],[]=>true
 |.D (.B x)::r,.D (.B y)::r'=>(x==y)&&zeq r r'
 |.D (.I k x)::r,.D (.I k' y)::r'=>decide (k=k')&&((x==y)&&zeq r r')
 |.D (.S x)::r,.D (.S y)::r'=>(x==y)&&zeq r r'
 |.fl []::r,.fl []::r'=>zeq r r'
 |.D (.L [])::r,.D (.L [])::r'=>zeq r r'
 |_,_=>false
theorem aHn:∀{a c:List AV},zeq a c=true->a=c:=by
 intro a
 induction a with
 |nil=>intro c h;cases c<;>first|rfl|(cases h;done)
 |cons x r ih=>
  intro c h;unfold zeq at h;split at h
  ·cases‹x::r=[]›
  ·rename_i e;cases e;rw[ν,beq_iff_eq]at h;rw[h.1,ih h.2]
  ·rename_i e;cases e;rw[ν,ν,beq_iff_eq,decide_eq_true_eq]at h;rw[h.1,h.2.1,ih h.2.2]
  ·rename_i e;cases e;rw[ν,beq_iff_eq]at h;rw[h.1,ih h.2]
  ·rename_i e;cases e;rw[ih h]
  ·rename_i e;cases e;rw[ih h]
  ·cases h
def zX:List AV->Option (List XV)
 |[]=>some []
 |.D (.B x)::r=>(zX r).map (.d .b x::·)
 |.D (.I k x)::r=>(zX r).map (.d (.i k) x::·)
 |.D (.S x)::r=>(zX r).map (.d .s x::·)
 |.fl []::r=>(zX r).map (.fln .u::·)
 |.D (.C v)::r=>(zX r).map (.c v::·)
 |_=>none
theorem bFy[YL]:∀{a:List AV} {l:List XV},zX a=some l->XV.fcL l=a:=by
  intro a
  induction a with
  |nil=>intro l h;cases h;rfl
  | cons x r ih =>
    intro l h;unfold zX at h;split at h
    · rename_i e;cases e
    all_goals first
      | (rename_i e;cases e
         rw[θ]at h;obtain⟨l',h1,rfl⟩:=h;exact congrArg (_::·) (ih h1))
      |(cases h;done)
def aT7(ty:Option Ty)(zs:List AV):Option (List XV):=match ty with
 |some t=>match zeq zs (zV t)with
  |true=>some (zl t)
  |false=>none
 |none=>zX zs
theorem aRd[YL](h:aT7 ty zs=some l):XV.fcL l=zs:=by
 unfold aT7 at h;split at h
 ·split at h
  ·rename_i hz;cases h;rw[aBw,aHn hz]
  ·cases h
 ·exact bFy h
def elT:Option Ty->Option Ty
 |some (.sl t)=>some t
 |_=>none
def xbs(s:XS)(t:Ty):List XV->(List t.T->Option R)->Option R
 |[],K=>K []
 |v::vs,K=>match sS v with
  |some cs=>pkC s t cs fun x l=>match l with
   |[]=>xbs s t vs fun ys=>K (x::ys)
   |_=>none
  |none=>none
theorem aSh[YL]{s:XS}{t:Ty}{k:Nat}(hk:t.n=k){r:R}:∀{ps:List Operand} {vs:List XV} {K:List t.T->Option R},ps.map s.er.ev=XV.erL vs->xbs s t vs K=some r->∃xs,K xs=some r/\sP s.er.lk s.er.ev k ps=some (xs.map t.ds)/\eF s.er.ev ps=XV.hrL vs
 |[],[],K,_,h=>⟨[],h,rfl,rfl⟩
 |p::ps,v::vs,K,e,h=>by
  have e1:s.er.ev p=v.er:=List.head_eq_of_cons_eq e;have e2:ps.map s.er.ev=XV.erL vs:=List.tail_eq_of_cons_eq e;unfold xbs at h;split at h
  ·rename_i cs hcs;obtain⟨x,l1,l2,rfl,h,ec⟩:=bB1 (φ:=fun _=>none) (fun _ _ _=>rfl) h;split at h
   ·obtain⟨xs,h,h1,h2⟩:=aSh hk e2 h;refine⟨x::xs,h,?_,?_⟩
    ·unfold sP;rw[e1,nY hcs,h1];show(match AV.data (AV.convL s.er.lk (fun _=>none) (XV.fcL (l1++[]))),some (xs.map t.ds)with|some e,some es=>if e.length=k then some (e::es)else none|_,_=>none)=_;rw[χ,ec,xC];show(if(t.ds x).length=k then _ else _)=_;rw[if_pos (by rw[Ty.ds_len];exact hk)];rfl
    ·show AV.rows (s.er.ev p)++eF s.er.ev ps=_;rw[e1,aD0,h2];rfl
   ·cases h
  ·cases h
 |[],_::_,_,e,_=>by cases e
 |_::_,[],_,e,_=>by cases e
def aS7(s:XS):List (Nat×Nat×Operand)->List XV->(List XV->Option R)->Option R
 |[],l,K=>K l
 |(o,sz,x)::r,l,K=>w1 s x fun v=>match sS v with
  |some cs=>match bb (szL cs) sz,aMv l o cs sz with
   |true,some l'=>aS7 s r l' K
   |_,_=>none
  |none=>none
theorem aGt(o:Nat)(xs:List AV):∀(r:List (Nat×List AV)) (cs:List AV),wQ cs (r++[(o,xs)])=(wQ cs r).take o++xs++(wQ cs r).drop (o+xs.length)
 |[],cs=>rfl
 |(o',ys)::r,cs=>by show wQ _ (r++[(o,xs)])=_;rw[aGt o xs r];rfl
theorem aKx[YL]{s:XS}{zs:List AV}{K:List XV->Option R}{r:R}{KP:AV->Prop}(hK:∀l,K l=some r->KP (.agg (XV.fcL l))):∀{ps:List (Nat×Nat×Operand)} {l:List XV} {acc:List (Nat×List AV)},XV.fcL l=wQ zs acc.reverse->(XV.fcL l).length=zs.length->aS7 s ps l K=some r->aC1 s.er.ev zs ps acc KP
 |[],l,acc,e,_,h=>by show KP (.agg (wQ zs acc.reverse));rw[<-e];exact hK _ h
 |(o,sz,x)::ps,l,acc,e,el,h=>by
  obtain⟨h,e1⟩:=aS h;split at h
  ·rename_i cs hcs;split at h
   ·rename_i l' hb hu;obtain⟨u1,u2⟩:=uN hu;have hsz:(XV.fcL cs).length=sz:=by rw[aDv];exact ι hb
    refine⟨XV.fcL cs,by rw[e1];exact nY hcs,hsz,by rw[<-el];exact u1,?_⟩;refine aKx hK (l:=l') ?_ ?_ h
    ·rw[u2,e,List.reverse_cons,aGt,hsz]
    ·rw[u2,κ,κ,bu,aq,hsz];omega
   ·cases h
  ·cases h
def unA:XV->XV
 |.agg [.d (.ar n k) x]=>.d (.ar n k) x
 |v=>v
theorem aM8[YL](v:XV):(unA v).er=v.er:=by
 unfold unA;split
 ·rename_i n k x;show AV.agg (((Ty.ar n k).ds x).map .D)=.agg (((Ty.ar n k).ds x).map .D++[]);rw[χ]
 ·rfl
def Ty.z:(t:Ty)->t.T
 |.u=>()
 |.b=>false
 |.i _=>0
 |.s=>[]
 |.p a c=>(a.z,c.z)
 |.w a=>a.z
 |.ar n _=>Arr.zero n
 |.sl _=>[]
 |.o _=>[]
def bKc(t:Ty)(k bytes:Nat)(zs:List DV)(K:XV->XB->Option R)(m:Nat):XV->XV->Option R
 |.d (.i _) l,.d (.i _) c=>match bb t.n k,zeq (zs.map .D) ((t.ds t.z).map .D)with
  |true,true=>gd? (0<=l) (gd? (l<=c) (gd? (c.toNat<=9223372036854775807) (gd? (c.toNat*bytes<=281474976710656) (K (.slw (.O m) t l.toNat) (.row true t (bg l.toNat t.z))))))
  |_,_=>none
 |_,_=>none
theorem bEp[YL]{zs:List DV}{K:XV->XB->Option R}{r:R}{m:Nat}{vx:XV}(h:bKc t k bytes zs K m vx vy=some r):
  ∃(k1 k2:IntKind) (l c:Int) (v:XV) (b:XB),vx.er=.D (.I k1 l)/\vy.er=.D (.I k2 c)/\0<=l/\l<=c/\c<=9223372036854775807/\(bytes:Int)*c<=281474976710656/\K v b=some r/\v.er=.sl (.O m) k 0 l.toNat/\b.er=.row true k (bg l.toNat zs):=by
 unfold bKc at h;split at h
 ·rename_i k1 l k2 c;split at h
  ·rename_i hb hz;have hb:=ι hb;have hz:=nJ (aHn hz);obtain⟨h1,h⟩:=aX h;obtain⟨h2,h⟩:=aX h;obtain⟨h3,h⟩:=aX h;obtain⟨h4,h⟩:=aX h;have h0:(0:Int)<=c:=Int.le_trans (show(0:Int)<=l from h1) h2;have hc:((Int.toNat c:Nat):Int)=c:=Int.toNat_of_nonneg h0;have h3:(c:Int)<=9223372036854775807:=by rw[<-hc];exact Int.ofNat_le.2 h3
   have h4:(bytes:Int)*c<=281474976710656:=by rw[<-hc,Int.mul_comm,<-Int.natCast_mul];exact Int.ofNat_le.2 h4
   refine⟨k1,k2,l,c,_,_,rfl,rfl,h1,h2,h3,h4,h,?_,?_⟩
   ·show AV.sl (.O m) t.n 0 _=_;rw[hb]
   ·show Blk.row true t.n ((bg _ t.z).map t.ds)=_;rw[hb,gn,<-hz]
  ·cases h
 ·cases h
def xpk(j:Int)(K:XV->Option R):Nat->List XV->Option R
 |_,[]=>none
 |i,v::vs=>match v with
  |.clo f c=>if? (decide (j=(i:Int))) (K (.clo f c)) (xpk j K (i+1) vs)
  |_=>none
theorem aYc[YL]{j:Int}{K:XV->Option R}{r:R}:∀{vs:List XV} {i:Nat},xpk j K i vs=some r->∃n v,j=((i+n:Nat):Int)/\n<vs.length/\(XV.fcL vs)[n]?=some v.er/\K v=some r
 |[],i,h=>by cases h
 |v::vs,i,h=>by
  unfold xpk at h;split at h
  ·rename_i f c;by_cases hj:j=(i:Int)
   ·rw[decide_eq_true hj]at h;exact⟨0,.clo f c,hj,Nat.succ_pos _,rfl,h⟩
   ·rw[decide_eq_false hj]at h;have h:xpk j K (i+1) vs=some r:=h;obtain⟨n,v,h1,h2,h3,h4⟩:=aYc h;exact⟨n+1,v,by rw[h1];congr 1;omega,Nat.succ_lt_succ h2,h3,h4⟩
  ·cases h
def bIe(m k:Nat)(ag:Option Nat)(j:Int)(K:XV->Option R):XV->Option R
 |.d (.ar n k') y=>match ag with
  |none=>match bb n m,bb k 1 with
   |true,true=>aZ y.l j fun c=>K (.d (.i k') c)
   |_,_=>none
  |some q=>match bb (m*k) n,bb q k with
   |true,true=>gd? (0<=j) (gd? (j<(m:Int)) (K (.d (.ar q k') (y.part (ixA 0 j.toNat k) q))))
   |_,_=>none
 |.agg cs=>match ag,bb cs.length m,bb k 1 with
  |none,true,true=>xpk j K 0 cs
  |_,_,_=>none
 |_=>none
theorem bCr[YL]{m:Nat}{K:XV->Option R}{r:R}(h:bIe m k ag j K v=some r){KP:AV->Prop}(hK:∀v,K v=some r->KP v.er):∃cs,v.er=.agg cs/\0<=j/\j<(m:Int)/\
  match(generalizing:=false) ag with
  |none=>∃a,cs[j.toNat*k]?=some a/\KP a
  |some q=>j.toNat*k+q<=cs.length/\KP (.agg ((cs.drop (j.toNat*k)).take q)):=by
 unfold bIe at h;split at h
 ·rename_i n k' y;cases ag with
  |none=>
   replace h:(match bb n m,bb k 1 with
    |true,true=>aZ y.l j fun c=>K (.d (.i k') c)
    |_,_=>none)=some r:=h
   split at h
   ·rename_i hb hb2;have hb:=ι hb;have hb2:=ι hb2;obtain⟨c,h0,hc,h⟩:=aQa h;have hlt:=(aw.1 hc).1;rw[y.len]at hlt;refine⟨(y.l.map (DV.I k')).map .D,rfl,h0,by omega,.D (.I k' c),?_,hK (.d (.i k') c) h⟩;rw[hb2,cz,az,az,hc];rfl
   ·cases h
  |some q=>
   replace h:(match bb (m*k) n,bb q k with
    |true,true=>gd? (0<=j) (gd? (j<(m:Int)) (K (.d (.ar q k') (y.part (ixA 0 j.toNat k) q))))
    |_,_=>none)=some r:=h
   split at h
   ·rename_i hb hb2;have hb:=ι hb;obtain rfl:=ι hb2;obtain⟨h0,h⟩:=aX h;obtain⟨h1,h⟩:=aX h;have hle:j.toNat*q+q<=n:=by rw[<-hb,<-Nat.succ_mul];exact Nat.mul_le_mul_right _ (by omega)
    have:=hK _ h;rw[sQ,bf]at this;refine⟨(y.l.map (DV.I k')).map .D,rfl,h0,h1,by rw[μ,μ,y.len];exact hle,?_⟩;have e:(XV.d (.ar q k') (y.part (j.toNat*q) q)).er=.agg ((((y.l.map (DV.I k')).map AV.D).drop (j.toNat*q)).take q):=by show AV.agg (((y.part (j.toNat*q) q).l.map (DV.I k')).map .D)=_;rw[Arr.l_part hle,br,b6,br,b6]
    rw[e]at this;exact this
   ·cases h
 ·rename_i cs;split at h
  ·rename_i hb hb2;have hb:=ι hb;obtain rfl:=ι hb2;obtain⟨n,v,h1,h2,h3,h4⟩:=aYc h;refine⟨XV.fcL cs,rfl,by omega,by omega,v.er,?_,hK v h4⟩;rw[h1,π,cz,bf];exact h3
  ·cases h
 ·cases h
def bMs(s:XS)(m:Nat)(lo hi:Option Operand)(K:XV->Option R):XV->Option R
 |.apt h ix=>match s.lk h with
  |some (.arr _ n _ _)=>match lg (ix+m) n with
   |true=>qA s hi m fun hh=>qA s lo 0 fun l=>gd? (l<=hh) (gd? (hh<=m) (K (.asl h (ixA ix l 1) (hh-l))))
   |false=>none
  |_=>none
 |.rpt h off=>match s.lk h with
  |some (.rb _ t x)=>match aAs (lvs t x) off with
   |some a=>match bb a.n m with
    |true=>qA s hi m fun hh=>qA s lo 0 fun l=>gd? (l<=hh) (gd? (hh<=m) (K (.rsl h off l (hh-l))))
    |false=>none
   |none=>none
  |_=>none
 |_=>none
def zK(k:IntKind):Nat->List AV->Bool
 |0,[]=>true
 |n+1,.D (.I k' 0)::l=>decide (k'=k)&&zK k n l
 |_,_=>false
theorem bGy{k:IntKind}:∀{n:Nat} {l:List AV},zK k n l=true->l=(bg n (DV.I k 0)).map .D
 |0,[],_=>rfl
 |n+1,.D (.I k' 0)::l,h=>by have h:(decide (k'=k)&&zK k n l)=true:=h;rw[ν,decide_eq_true_eq]at h;rw[h.1,bGy h.2];rfl
def bGv(zs:List AV)(K:XV->XB->Option R)(m:Nat):Ty->Option R
 |.ar n k=>match zK k n zs with
  |true=>K (.apt (.O m) 0) (.arr true n k (Arr.zero n))
  |false=>none
 |t=>match zeq zs ((t.ds t.z).map .D)with
  |true=>K (.rpt (.O m) 0) (.rb true t t.z)
  |false=>none
def bGt(ty:Option Ty)(K:XV->XB->Option R)(m:Nat):XV->Option R
 |.d (.ar n k) y=>K (.apt (.O m) 0) (.arr true n k y)
 |.agg cs=>match ty with
  |some t=>match pkD t cs with
   |some (x,[])=>K (.rpt (.O m) 0) (.rb true t x)
   |_=>none
  |none=>none
 |_=>none
def bJf(k:IntKind)(m:Nat)(K:Bool->Option R):XV->XV->Option R
 |.d (.ar n k1) a,.d (.ar n2 k2) b=>match bb n m,bb n2 m,decide (k1=k),decide (k2=k)with
  |true,true,true,true=>K (a.l==b.l)
  |_,_,_,_=>none
 |_,_=>none
def aU5(K:XV->Option R):XV->Option R
 |.ptr h o=>K (.ptr h o)
 |.ept h t ix o=>K (.ept h t ix o)
 |.apt h ix=>K (.apt h ix)
 |.rpt h o=>K (.rpt h o)
 |.rop t x o=>K (.rop t x o)
 |_=>none
theorem xJ{k:IntKind}:∀(l:List Int),vT k ((l.map (DV.I k)).map .D)=some l
 |[]=>rfl
 |x::l=>by show(if k=k then(vT k ((l.map (DV.I k)).map .D)).map (x::·)else none)=_;rw[if_pos rfl,xJ l];rfl
theorem bDa[YL]{k:IntKind}{m:Nat}{K:Bool->Option R}{r:R}{c:XV}(h:bJf k m K a c=some r):∃xs ys p q,a.er=.agg xs/\c.er=.agg ys/\vT k xs=some p/\vT k ys=some q/\p.length=m/\q.length=m/\K (p==q)=some r:=by
 unfold bJf at h;split at h
 ·rename_i n k1 a n2 k2 b;split at h
  ·rename_i h1 h2 h3 h4;have h1:=ι h1;have h2:=ι h2;have h3:=of_decide_eq_true h3;have h4:=of_decide_eq_true h4;subst h1 h2 h3 h4;exact⟨(a.l.map (DV.I _)).map .D,(b.l.map (DV.I _)).map .D,a.l,b.l,rfl,rfl,xJ _,xJ _,a.len,b.len,h⟩
  ·cases h
 ·cases h
theorem aQt[YL]{K:XV->Option R}{r:R}(h:aU5 K v=some r){KP:AV->Prop}(hK:∀v,K v=some r->KP v.er):match v.er with
  |.ptr h o=>KP (.ptr h o)
  |.eptr h k ix o=>KP (.eptr h k ix o)
  |.rop ds=>KP (.rop ds)
  |_=>False:=by
 unfold aU5 at h;split at h
 ·exact hK _ h
 ·exact hK _ h
 ·exact hK _ h
 ·exact hK _ h
 ·exact hK _ h
 ·cases h
theorem aBa:∀l:List DV,AV.data (l.map .D)=some l
 |[]=>rfl
 |x::l=>by show(AV.data (l.map AV.D)).map (x::·)=_;rw[aBa l];rfl
def bI5:List Sh->Bool->Bool->Bool
 |[],p,_=>p
 |_::_,p,q=>p&&q
def bJ6(k:IntKind)(m:Nat):XV->XV->Option Bool
 |.d (.ar n k1) a,.d (.ar n2 k2) e=>match bb n m,bb n2 m,decide (k1=k),decide (k2=k)with
  |true,true,true,true=>some (a.l==e.l)
  |_,_,_,_=>none
 |_,_=>none
theorem bFg[YL]{k:IntKind}{m:Nat}{x:XV}{b:Bool}(h:bJ6 k m x y=some b):∃p q:List Int,x.fc=(p.map (DV.I k)).map .D/\y.fc=(q.map (DV.I k)).map .D/\p.length=m/\q.length=m/\b=(p==q):=by
 unfold bJ6 at h;split at h
 ·rename_i n k1 a n2 k2 e;split at h
  ·rename_i h1 h2 h3 h4;obtain rfl:=ι h1;obtain rfl:=ι h2;obtain rfl:=of_decide_eq_true h3;obtain rfl:=of_decide_eq_true h4;cases h;exact⟨a.l,e.l,rfl,rfl,a.len,e.len,rfl⟩
  ·cases h
 ·cases h
def aQ6:List Sh->List XV->List XV->Option Bool
 |[],[],[]=>some true
 |.s kd::r,x::xs,y::ys=>match aHz kd x y,aQ6 r xs ys with
  |some p,some q=>some (bI5 r p q)
  |_,_=>none
 |.a k m::r,x::xs,y::ys=>match bJ6 k m x y,aQ6 r xs ys with
  |some p,some q=>some (bI5 r p q)
  |_,_=>none
 |_,_,_=>none
theorem bCh(h:aQ6 [] xs ys=some q):q=true:=by cases xs<;>cases ys<;>first|(cases h;rfl;done)|(cases h;done)
theorem aVx{r:List Sh}{p:Bool}(h:aQ6 r xs ys=some q):bI5 r p q=(p&&q):=by
 cases r with
 |nil=>rw[bCh h,gq];rfl
 |cons _ _=>rfl
theorem aWi[YL]{kd:Nat}{x:XV}{p:Bool}(hp:aHz kd x y=some p):∃d1 d2,x.fc=[.D d1]/\y.fc=[.D d2]/\DV.same kd d1 d2=some p:=by
 unfold aHz at hp;split at hp
 ·split at hp
  ·rename_i hb;obtain rfl:=ι hb;exact⟨_,_,rfl,rfl,hp⟩
  ·cases hp
 ·exact⟨_,_,rfl,rfl,hp⟩
 ·split at hp
  ·rename_i hb;obtain rfl:=ι hb;exact⟨_,_,rfl,rfl,hp⟩
  ·cases hp
 ·cases hp
theorem aLw[YL]:∀{sh:List Sh} {xs ys:List XV} {b:Bool},aQ6 sh xs ys=some b->aEq sh (XV.fcL xs) (XV.fcL ys)=some b
 |[],xs,ys,b,h=>by
  cases xs<;>cases ys<;>first|(cases h;rfl;done)|(cases h;done)
 |.s kd::r,x::xs,y::ys,b,h=>by
  unfold aQ6 at h;split at h
  ·rename_i p q h1 h2;cases h;obtain⟨d1,d2,e1,e2,e3⟩:=aWi h1;have ih:=aLw h2;show aEq (.s kd::r) (x.fc++XV.fcL xs) (y.fc++XV.fcL ys)=_;rw[e1,e2,aVx h2];show(match DV.same kd d1 d2,aEq r (XV.fcL xs) (XV.fcL ys)with|some p,some q=>some (p&&q)|_,_=>none)=_;rw[e3,ih]
  ·cases h
 |.a k m::r,x::xs,y::ys,b,h=>by
  unfold aQ6 at h;split at h
  ·rename_i p q h1 h2;cases h;obtain⟨p1,q1,e1,e2,l1,l2,rfl⟩:=bFg h1;have ih:=aLw h2;show aEq (.a k m::r) (x.fc++XV.fcL xs) (y.fc++XV.fcL ys)=_;rw[e1,e2,aVx h2];have hl:∀(p:List Int),p.length=m->((p.map (DV.I k)).map AV.D).length=m:=fun p e=>by rw[μ,μ,e]
   have tk:∀{a c:List AV},a.length=m->(a++c).take m=a:=fun e=>by rw[<-e,List.take_left]
   have dp:∀{a c:List AV},a.length=m->(a++c).drop m=c:=fun e=>by rw[<-e,List.drop_left]
   unfold aEq;rw[tk (hl _ l1),tk (hl _ l2),dp (hl _ l1),dp (hl _ l2),xJ,xJ,ih];simp only;rw[if_pos ⟨l1,l2⟩]
  ·cases h
 |.s _::_,[],ys,b,h=>by cases h
 |.s _::_,_::_,[],b,h=>by cases h
 |.a _ _::_,[],ys,b,h=>by cases h
 |.a _ _::_,_::_,[],b,h=>by cases h
section
variable{α β:Type}[DecidableEq α]
def aAy:List (α×β)->α->Option β
 |[],_=>none
 |e::es,y=>if e.1=y then some e.2 else aAy es y
def bKu:List (α×β)->α->β->List (α×β)
 |[],y,v=>[(y,v)]
 |e::es,y,v=>if e.1=y then(y,v)::es else e::bKu es y v
def bL8:List (α×β)->α->List (α×β)
 |[],_=>[]
 |e::es,y=>if e.1=y then es else e::bL8 es y
end
def bJ2(t:Ty)(x:t.T):XV:=match t,x with
 |.o t,x=>.d (.sl t) x
 |t,x=>aC8 t x
theorem aPf:∀{a b c d:List AV} {p q:Bool},aE3 a b=some p->aE3 c d=some q->aE3 (a++c) (b++d)=some (p&&q)
 |a,b,c,d,p,q,h,h2=>by
  unfold aE3 at h;split at h
  ·cases h;simpa using h2
  ·rename_i k n xs k' n' ys;rw[ζ]at h;obtain⟨e,h⟩:=h;split at h
   ·rename_i b0 hb;cases h;show(if k=k' then match aE3 (xs++c) (ys++d)with|some b=>some (n==n'&&b)|none=>none else none)=_;rw[if_pos e,aPf hb h2,jh]
   ·cases h
  ·cases h
theorem aUb(k:IntKind):∀(l l':List Int),l.length=l'.length->aE3 ((l.map (DV.I k)).map .D) ((l'.map (DV.I k)).map .D)=some (decide (l'=l))
 |[],[],_=>rfl
 |x::l,y::l',h=>by
  show(if k=k then match aE3 ((l.map (DV.I k)).map .D) ((l'.map (DV.I k)).map .D)with|some b=>some (x==y&&b)|none=>none else none)=_;rw[if_pos rfl,aUb k l l' (by simpa using h)];simp only[Option.some.injEq];rw[ef,ν,beq_iff_eq,decide_eq_true_eq,decide_eq_true_eq];exact⟨fun⟨a,b⟩=>by rw[a,b],fun e=>by cases e;exact⟨rfl,rfl⟩⟩
 |[],_::_,h=>by cases h
 |_::_,[],h=>by cases h
theorem aMj:∀{t:Ty},aWz t=true->∀x y:t.T,aE3 ((t.ds x).map .D) ((t.ds y).map .D)=some (decide (y=x))
 |.i k,_,x,y=>by
  show(if k=k then some (((x:Int)==y)&&true)else none)=_;rw[if_pos rfl,gq];congr 1;rw[ef,beq_iff_eq,decide_eq_true_eq];exact⟨Eq.symm,Eq.symm⟩
 |.p a b,h,x,y=>by
  have h:(aWz a&&aWz b)=true:=h;rw[ν]at h;show aE3 ((a.ds x.1++b.ds x.2).map .D) ((a.ds y.1++b.ds y.2).map .D)=_;rw[bn,bn,aPf (aMj h.1 x.1 y.1) (aMj h.2 x.2 y.2)];congr 1;rw[ef,ν,decide_eq_true_eq,decide_eq_true_eq,decide_eq_true_eq];exact⟨fun⟨a,b⟩=>Prod.ext a b,fun e=>by rw[e];exact⟨rfl,rfl⟩⟩
 |.ar n k,_,x,y=>by
  show aE3 ((x.l.map (DV.I k)).map .D) ((y.l.map (DV.I k)).map .D)=_;rw[aUb k x.l y.l (x.len.trans y.len.symm)];congr 1;rw[ef,decide_eq_true_eq,decide_eq_true_eq];exact⟨fun e=>Arr.ext e,fun e=>by rw[e]⟩
 |.u,h,_,_|.b,h,_,_|.s,h,_,_|.w _,h,_,_|.sl _,h,_,_|.o _,h,_,_=>by cases h
theorem bE7{K:Ty}(h:aDx K=true)(x y:K.T):(jB K x).keq (jB K y)=some (decide (y=x)):=by
 cases K<;>first|(cases h;done)|skip
 ·rename_i k;show(if k=k then some ((x:Int)==y)else none)=_;rw[if_pos rfl];congr 1;rw[ef,beq_iff_eq,decide_eq_true_eq];exact⟨Eq.symm,Eq.symm⟩
 ·show some ((x:List UInt8)==y)=_;congr 1;rw[ef,beq_iff_eq,decide_eq_true_eq];exact⟨Eq.symm,Eq.symm⟩
 ·exact aMj h x y
 ·exact aMj (t:=.ar _ _) rfl x y
theorem aAd{wr:Bool}{K V:Ty}(hk:aDx K=true)(y:K.T):∀(es:List (K.T×V.T)) (hole:Option K.T),∃r,yU (jB K y) (aEf wr K V es hole)=some r/\
  match aAy es y with
  |none=>r=none
  |some v=>∃j,r=some (j,if hole=some y then .v (bId wr V v)else aWv wr V v)
 |[],hole=>⟨none,rfl,rfl⟩
 |e::es,hole=>by
  have key:∀(mv:MV) (rest:List (AV×MV)) (r0:Option (Nat×MV)),yU (jB K y) rest=some r0->yU (jB K y) ((jB K e.1,mv)::rest)=some (if e.1=y then some (0,mv)else match r0 with|some (j,v)=>some (j+1,v)|none=>none):=fun mv rest r0 h0=>by
   unfold yU;rw[bE7 hk];by_cases he:e.1=y
   ·rw[decide_eq_true he,if_pos he]
   ·rw[decide_eq_false he,if_neg he];simp only[h0];cases r0 with
    |none=>rfl
    |some p=>rfl
  have hg:aAy (e::es) y=if e.1=y then some e.2 else aAy es y:=rfl
  cases hole with
  |none=>
   obtain⟨r0,h0,h1⟩:=aAd hk y es none;refine⟨_,key (aWv wr V e.2) _ r0 h0,?_⟩;rw[hg];by_cases he:e.1=y
   ·rw[if_pos he,if_pos he];exact⟨0,by rw[if_neg (fun h=>by cases h)]⟩
   ·rw[if_neg he,if_neg he];cases hm:aAy es y with
    |none=>rw[hm]at h1;simp only at h1;subst h1;rfl
    |some v=>rw[hm]at h1;obtain⟨j,rfl⟩:=h1;exact⟨j+1,rfl⟩
  |some z=>
   by_cases hz:e.1=z
   ·obtain⟨r0,h0,h1⟩:=aAd hk y es none;refine⟨_,by unfold aEf;rw[if_pos hz];exact key (.v (bId wr V e.2)) _ r0 h0,?_⟩;rw[hg];by_cases he:e.1=y
    ·rw[if_pos he,if_pos he];exact⟨0,by rw[if_pos (by rw[<-hz,he])]⟩
    ·rw[if_neg he,if_neg he];cases hm:aAy es y with
     |none=>rw[hm]at h1;simp only at h1;subst h1;rfl
     |some v=>
      rw[hm]at h1;obtain⟨j,rfl⟩:=h1;exact⟨j+1,by rw[if_neg (fun h=>by cases h),if_neg (fun h=>he (by cases h;exact hz))]⟩
   ·obtain⟨r0,h0,h1⟩:=aAd hk y es (some z);refine⟨_,by unfold aEf;rw[if_neg hz];exact key (aWv wr V e.2) _ r0 h0,?_⟩;rw[hg];by_cases he:e.1=y
    ·rw[if_pos he,if_pos he];exact⟨0,by rw[if_neg (fun h=>hz (by cases h;exact he))]⟩
    ·rw[if_neg he,if_neg he];cases hm:aAy es y with
     |none=>rw[hm]at h1;simp only at h1;subst h1;rfl
     |some v=>rw[hm]at h1;obtain⟨j,rfl⟩:=h1;exact⟨j+1,rfl⟩
def zOk(V:Ty):AV->Bool
 |.agg cs=>!(nW V)&&zeq cs ((V.ds V.z).map .D)
 |a=>nW V&&zeq [a] [jB V V.z]
def kdB(a b:KD):Bool:=match a,b with
 |.i k,.i k'=>decide (k=k')
 |.s,.s=>true
 |.a l,.a l'=>decide (l=l')
 |_,_=>false
def aV2(K:Ty)(v:XV):Option K.T:=match v with
 |.d t x=>t.cst K x
 |.agg cs=>match nW K with
  |true=>none
  |false=>match pkD K cs with
   |some (x,[])=>some x
   |_=>none
 |_=>none
def bO5(s:XS)(kd:KD)(z:AV)(ok:Bool)(K:XV->Option R):XV->XV->Option R
 |.mref h,vy=>match s.lk h with
  |some (.mp false K0 V es _ _)=>match aDx K0&&kdB K0.kd kd&&zOk V z,aV2 K0 vy with
   |true,some y=>match ok with
    |true=>K (.tup [bJ2 V ((aAy es y).getD V.z),.d .b (aAy es y).isSome])
    |false=>K (bJ2 V ((aAy es y).getD V.z))
   |_,_=>none
  |_=>none
 |_,_=>none
def bPb(s:XS)(K:XV->Option R):XV->Option R
 |.itr h hi=>match s.lk h,s.lk hi with
  |some (.mp false K0 V es _ (some (hi',some cur,_))),some _=>match aDx K0&&hi.eqb hi' with
   |true=>bd? (aAy es cur) fun v=>K (.tup [aC8 K0 cur,bJ2 V v])
   |false=>none
  |_,_=>none
 |_=>none
def bIz(neg:Bool)(K:XV->Option R):XV->Option R
 |.ptr _ _=>K (.d .b neg)
 |.c (.pointer none)=>K (.d .b (!neg))
 |_=>none
theorem bCl[YL]{neg:Bool}{K:XV->Option R}{r:R}(h:bIz neg K v=some r){KP:AV->Prop}(hK:∀v,K v=some r->KP v.er):match v.er with
  |.ptr _ _=>KP (.D (.B neg))
  |.D (.C (.pointer none))=>KP (.D (.B (!neg)))
  |_=>False:=by
 unfold bIz at h;split at h
 ·exact hK _ h
 ·exact hK _ h
 ·cases h
def aVw(k:IntKind):List XV->Option (List Int)
 |[]=>some []
 |.d (.i k') x::l=>match decide (k'=k),aVw k l with
  |true,some r=>some (x::r)
  |_,_=>none
 |_=>none
theorem aQu[YL]{k:IntKind}:∀{l:List XV} {xs:List Int},aVw k l=some xs->XV.fcL l=(xs.map (DV.I k)).map .D
 |[],xs,h=>by cases h;rfl
 |v::l,xs,h=>by
  unfold aVw at h;split at h
  ·rename_i e;cases e
  ·rename_i k' x l' e;cases e;split at h
   ·rename_i r h1 h2;cases h;have h1:=of_decide_eq_true h1;subst h1;show[AV.D (.I _ x)]++XV.fcL l=_;rw[aQu h2];rfl
   ·cases h
  ·cases h
def xzB(ty:Option Ty)(zs:List AV)(ps:List (Nat×Nat×Operand)):Option (List XV):=match ty,ps with
 |some (.ar _ _),_::_=>zX zs
 |_,_=>aT7 ty zs
theorem bIc[YL]{ps:List (Nat×Nat×Operand)}(h:xzB ty zs ps=some l):XV.fcL l=zs:=by
 unfold xzB at h;split at h
 ·exact bFy h
 ·exact aRd h
def bJw(ty:Option Ty)(K:XV->Option R)(l:List XV):Option R:=match ty with
 |some (.ar n k)=>match aVw k l with
  |some xs=>match bb xs.length n with
   |true=>K (.d (.ar n k) (Arr.from xs n))
   |false=>K (.agg l)
  |none=>K (.agg l)
 |_=>K (.agg l)
theorem bEf[YL]{K:XV->Option R}{r:R}(h:bJw ty K l=some r){KP:AV->Prop}(hK:∀v,K v=some r->KP v.er):KP (.agg (XV.fcL l)):=by
 unfold bJw at h;split at h
 ·rename_i n k;split at h
  ·rename_i xs hx;split at h
   ·rename_i hb;have:=hK _ h;have e:(XV.d (.ar n k) (Arr.from xs n)).er=.agg (XV.fcL l):=by show AV.agg (((Arr.from xs n).l.map (DV.I k)).map .D)=_;rw[aQu hx,Arr.l_from (Nat.le_of_eq (ι hb).symm),bc (Nat.le_of_eq (ι hb))]
    rw[e]at this;exact this
   ·exact hK _ h
  ·exact hK _ h
 ·exact hK _ h
def xp(T:List Sig)(s:XS)(ty:Option Ty)(op:ROp)(K:XV->List XB->List Hd->Option R):Option R:=
 match op with
 |.mv x=>w1 s x fun v=>K v [] []
 |.pick c a b=>w1 s c fun vc=>w1 s a fun va=>w1 s b fun vb=>match vc with
  |.d .b x=>bA8 x (fun v=>K v [] []) va vb
  |_=>none
 |.new zs=>match aT7 ty zs with
  |some l=>K (.ptr (.O s.own.length) 0) [.box l] []
  |none=>none
 |.build zs ps=>match xzB ty zs ps with
  |some l=>aS7 s ps l fun l=>bJw ty (fun v=>K v [] []) l
  |none=>none
 |.bslice k ps=>match ps with
  |[]=>K (.fln ((elT ty).getD .u)) [] []
  |ps=>match elT ty with
   |some t=>match bb t.n k with
    |true=>wL s ps fun vs=>xbs s t vs fun xs=>K (.slw (.O s.own.length) t ps.length) [.row true t xs] (xfz s (XV.hrL vs))
    |false=>none
   |none=>none
 |.bsF k ps=>match ps with
  |[]=>K (.fln ((elT ty).getD .u)) [] []
  |ps=>match elT ty with
   |some t=>match bb t.n k with
    |true=>wL s ps fun vs=>xbs ⟨s.env,[],[]⟩ t vs fun xs=>K (.fl t xs) [] []
    |false=>none
   |none=>none
 |.box x=>w1 s x fun v=>match sS v with
  |some cs=>K (.ptr (.O s.own.length) 0) [.box cs] []
  |none=>none
 |.load ag x=>w1 s x (aVb s ag fun a=>K a [] [])
 |.bin op x y=>w1 s x fun a=>w1 s y fun c=>bIk op (fun a=>K a [] []) a c
 |.eqs neg kds x y=>w1 s x fun a=>w1 s y fun c=>match a,c with
  |.agg xs,.agg ys=>match aPr kds xs ys with
   |some q=>K (.d .b (match neg with
    |true=>!q
    |false=>q)) [] []
   |none=>none
  |_,_=>none
 |.beq neg x y=>w1 s x fun a=>w1 s y fun c=>match a,c with
  |.d .b p,.d .b q=>K (.d .b (match neg with
   |true=>!(p==q)
   |false=>p==q)) [] []
  |_,_=>none
 |.un op x=>w1 s x (xun op fun a=>K a [] [])
 |.faddr off x=>w1 s x fun v=>match vN s v with
  |true=>aLv off (fun a=>K a [] []) v
  |false=>none
 |.field off ag x=>w1 s x fun v=>match v with
  |.agg cs=>aRu ag cs off fun a=>K a [] []
  |_=>none
 |.iaddr k x i=>w1 s x fun v=>w1 s i fun vi=>match vN s v with
  |true=>match vi with
   |.d (.i _) j=>aG9 k j (fun a=>K a [] []) v
   |_=>none
  |false=>none
 |.ixs x i=>w1 s x fun v=>w1 s i fun vi=>match v,vi with
  |.d .s t,.d (.i _) j=>aZ t j fun c=>K (.d (.i .u8) c.toNat) [] []
  |_,_=>none
 |.sls x lo hi=>w1 s x fun v=>match v with
  |.d .s t=>qA s hi t.length fun h=>qA s lo 0 fun l=>gd? (l<=h) (gd? (h<=t.length) (K (.d .s ((t.drop l).take (h-l))) [] []))
  |_=>none
 |.sll k x lo hi mx=>w1 s x fun v=>match vN s v with
  |true=>aIw s k lo hi mx (fun a=>K a [] []) v
  |false=>none
 |.ext x i=>w1 s x fun v=>match v with
  |.tup vs=>match nth vs i with
   |some a=>K a [] []
   |none=>none
  |_=>none
 |.call f args=>w1 s f fun vf=>wL s args fun vs=>aY1 T s vs K vf
 |.len str x=>w1 s x fun v=>match vN s v with
  |true=>match aZi str v with
   |some m=>K (.d (.i .i64) (m:Int)) [] []
   |none=>none
  |false=>none
 |.mm isMax x y=>w1 s x fun a=>w1 s y fun c=>match a,c with
  |.d (.i k) p,.d (.i k') q=>if k=k' then K (.d (.i k) (match isMax with
   |true=>max p q
   |false=>min p q)) [] []else none
  |_,_=>none
 |.mkf f caps=>wL s caps fun vs=>K (.clo f vs) [] []
 |.cvI k x=>w1 s x fun v=>match v with
  |.d (.i _) j=>K (.d (.i k) (k.wrap j)) [] []
  |_=>none
 |.cvS x=>w1 s x fun v=>pK s (.sl (.i .u8)) v fun xs=>K (.d .s (bI xs)) [] []
 |.cvB x=>w1 s x fun v=>match v with
  |.d .s t=>K (.d (.sl (.i .u8)) (aG t)) [] []
  |_=>none
 |.iaddrA m k x i=>w1 s x fun v=>w1 s i fun vi=>match vN s v with
  |true=>match vi with
   |.d (.i _) j=>bJ7 m k j (fun a=>K a [] []) v
   |_=>none
  |false=>none
 |.idxA m k ag x i=>w1 s x fun v=>w1 s i fun vi=>match vi with
  |.d (.i _) j=>bIe m k ag j (fun a=>K a [] []) (unA v)
  |_=>none
 |.slsA m x lo hi=>w1 s x fun v=>bMs s m lo hi (fun a=>K a [] []) v
 |.newR zs=>match ty with
  |some t=>bGv zs (fun v b=>K v [b] []) s.own.length t
  |none=>none
 |.boxR x=>w1 s x fun v=>bGt ty (fun v b=>K v [b] []) s.own.length v
 |.eqa neg k m x y=>w1 s x fun a=>w1 s y fun c=>bJf k m (fun q=>K (.d (.b) (match neg with
  |true=>!q
  |false=>q)) [] []) (unA a) (unA c)
 |.isnil neg x=>w1 s x fun v=>match vN s v with
  |true=>match aZi false v with
   |some m=>if? (decide (0<m)) (K (.d .b neg) [] []) (K .ab [] [])
   |none=>none
  |false=>none
 |.nilc x=>w1 s x fun v=>match vN s v with
  |true=>aU5 (fun a=>K a [] []) v
  |false=>none
 |.isp neg x=>w1 s x fun v=>match vN s v with
  |true=>bIz neg (fun a=>K a [] []) v
  |false=>none
 |.eqg neg sh x y=>w1 s x fun a=>w1 s y fun c=>match a,c with
  |.agg xs,.agg ys=>match aQ6 sh xs ys with
   |some q=>K (.d .b (match neg with
    |true=>!q
    |false=>q)) [] []
   |none=>none
  |_,_=>none
 |.newB T=>K (.mref (.O s.own.length)) [.sb T false []] []
 |.mkm kd=>none
 |.mkmW kd=>none
 |.mget kd z _ ok x y=>none
 |.mlen x=>none
 |.ent x=>none
 |.loadD ag x=>w1 s x fun v=>match v with
  |.rop t x off=>bJm ag off (fun a=>K a [] []) t x
  |_=>none
 |.sllD k x lo hi mx=>w1 s x fun v=>match v with
  |.d (.sl t) xs=>aIw s k lo hi mx (fun a=>K a [] []) (.d (.sl t) xs)
  |.fl t xs=>aIw s k lo hi mx (fun a=>K a [] []) (.fl t xs)
  |_=>none
 |.iaddrD k x i=>w1 s x fun v=>w1 s i fun vi=>match vi,v with
  |.d (.i _) j,.d (.sl t) xs=>aG9 k j (fun a=>K a [] []) (.d (.sl t) xs)
  |.d (.i _) j,.fl t xs=>aG9 k j (fun a=>K a [] []) (.fl t xs)
  |_,_=>none
 |.mks k bytes zs x y=>w1 s x fun vx=>w1 s y fun vy=>match elT ty with
  |some t=>bKc t k bytes zs (fun v b=>K v [b] []) s.own.length vx vy
  |none=>none
 |.arrP m x=>w1 s x fun v=>match v with
  |.asl h off len=>match s.lk h with
   |some (.arr _ _ _ _)=>gd? (m<=len) (gd? (0<len) (K (.apt h off) [] []))
   |_=>none
  |.rsl h off l len=>match s.lk h with
   |some (.rb _ _ _)=>gd? (m<=len) (gd? (0<len) (K (.rpt h (off+l)) [] []))
   |_=>none
  |_=>none
 |.capK x=>w1 s x fun v=>match v with
  |.fl _ xs=>K (.d (.i .i64) (xs.length:Int)) [] []
  |.fln _=>K (.d (.i .i64) 0) [] []
  |_=>none
 |.appZ k bytes zs x y=>w1 s x fun vx=>w1 s y fun vy=>match vx,vy,elT ty with
  |.fln _,.d (.i _) j,some t=>match bb t.n k,zeq (zs.map .D) ((t.ds t.z).map .D)with
   |true,true=>gd? (0<j) (gd? ((0+j.toNat)*bytes<=140737488355328) (K (.slw (.O s.own.length) t j.toNat) [.row true t (bg j.toNat t.z)] []))
   |_,_=>none
  |_,_,_=>none
 |.mkI t x=>w1 s x fun v=>match v with
  |.agg []=>K (.c (.iface t (.agg #[]))) [] []
  |_=>none
 |.isn neg x=>w1 s x fun v=>match v with
  |.c .nilIface=>K (.d .b (!neg)) [] []
  |.c (.iface _ _)=>K (.d .b neg) [] []
  |_=>none
 |.tas t x=>w1 s x fun v=>match v with
  |.c (.iface t' (.agg a))=>match bb t' t,a.isEmpty with
   |true,true=>K (.tup [.agg [],.d .b true]) [] []
   |_,_=>none
  |_=>none
 |_=>none
theorem aWa{lk:bE}{KP:AV->Prop}(h:oW lk ag KP (.rop ds)):oW (fun _=>none) ag KP (.rop ds):=h
theorem bLl[YL]{T:List Sig}(hT:jD P T){op:ROp}{K:XV->List XB->List Hd->Option R}{r:R}(h:xp T s ty op K=some r){KP:AV->List Blk->List Hd->Prop}
  (hK:∀v nbs fz,K v nbs fz=some r->KP v.er (nbs.map XB.er) fz):aV P s.er.lk s.er.nx s.er.ev op KP:=by
 unfold xp at h;split at h
 ·obtain⟨h,e⟩:=aS h;show KP (s.er.ev _) [] [];rw[e];exact hK _ _ _ h
 ·obtain⟨h,e1⟩:=aS h;obtain⟨h,e2⟩:=aS h;obtain⟨h,e3⟩:=aS h;split at h
  ·rename_i x hx;refine⟨x,by rw[e1,hx];rfl,?_⟩;rw[e2,e3];exact bAs (KP:=fun a=>KP a [] []) h fun v h=>hK _ _ _ h
  ·cases h
 ·split at h
  ·rename_i l hl;have:=hK _ _ _ h;show KP (.ptr (.O s.own.length) 0) [.box _] [];rw[<-aRd hl];exact this
  ·cases h
 ·split at h
  ·rename_i l hl;have e:=bIc hl;exact aKx (KP:=fun a=>KP a [] []) (fun l h=>bEf (KP:=fun a=>KP a [] []) h fun v h=>hK v [] [] h) (acc:=[]) e (by rw[e]) h
  ·cases h
 ·rename_i k ps;split at h
  ·exact hK _ _ _ h
  ·rename_i ps' hne;split at h
   ·rename_i t _;split at h
    ·rename_i hb;have hk:=ι hb;obtain⟨vs,h,e⟩:=aEk h;obtain⟨xs,h,h1,h2⟩:=aSh hk e h;show if ps=[]then _ else _
     rw[if_neg hne];refine⟨_,h1,?_⟩;rw[h2,qQ];have:=hK _ _ _ h;have e2:([XB.row true t xs].map XB.er)=[Blk.row true k (xs.map t.ds)]:=by show[Blk.row true t.n (xs.map t.ds)]=_;rw[hk]
     have e3:(XV.slw (.O s.own.length) t ps.length).er=.sl (.O s.own.length) k 0 ps.length:=by show AV.sl (.O s.own.length) t.n 0 ps.length=_;rw[hk]
     rw[e2,e3]at this;exact this
    ·cases h
   ·cases h
 ·rename_i k ps;split at h
  ·exact .inl ⟨rfl,hK _ _ _ h⟩
  ·rename_i ps' hne;split at h
   ·rename_i t _;split at h
    ·rename_i hb;have hk:=ι hb;obtain⟨vs,h,e⟩:=aEk h;have e':ps.map (XS.er ⟨s.env,[],[]⟩).ev=XV.erL vs:=by rw[<-e];apply List.map_congr_left;intro x _;cases x<;>rfl
     obtain⟨xs,h,h1,_⟩:=aSh hk e' h;refine .inr ⟨hne,xs.map t.ds,?_,hK _ _ _ h⟩;have e1:(XS.er ⟨s.env,[],[]⟩).lk=fun _=>none:=by funext x;cases x<;>rfl
     have e2:(XS.er ⟨s.env,[],[]⟩).ev=s.er.ev:=by funext x;cases x<;>rfl
     rw[e1,e2]at h1;exact h1
    ·cases h
   ·cases h
 ·obtain⟨h,e1⟩:=aS h;split at h
  ·rename_i cs hcs;exact⟨_,by rw[e1];exact nY hcs,hK _ _ _ h⟩
  ·cases h
 ·obtain⟨h,e1⟩:=aS h;show oW s.er.lk _ (fun a=>KP a [] []) (s.er.ev _);rw[e1];exact aHs h fun v h=>hK _ _ _ h
 ·obtain⟨h,e1⟩:=aS h;obtain⟨h,e2⟩:=aS h;show aW7 _ (fun a=>KP a [] []) (s.er.ev _) (s.er.ev _);rw[e1,e2];exact bFa h fun v h=>hK _ _ _ h
 ·obtain⟨h,e1⟩:=aS h;obtain⟨h,e2⟩:=aS h;split at h
  ·rename_i xs ys hx hy;split at h
   ·rename_i q hq;refine⟨XV.fcL xs,XV.fcL ys,q,by rw[e1,hx];rfl,by rw[e2,hy];rfl,aP3 hq,?_⟩;have:=hK _ _ _ h;split at this<;>exact this
   ·cases h
  ·cases h
 ·obtain⟨h,e1⟩:=aS h;obtain⟨h,e2⟩:=aS h;split at h
  ·rename_i p q hx hy;refine⟨p,q,by rw[e1,hx];rfl,by rw[e2,hy];rfl,?_⟩;have:=hK _ _ _ h;split at this<;>exact this
  ·cases h
 ·obtain⟨h,e1⟩:=aS h;show aun _ (fun a=>KP a [] []) (s.er.ev _);rw[e1];exact bHl h fun v h=>hK _ _ _ h
 ·obtain⟨h,e1⟩:=aS h;split at h
  ·rename_i hl;show AV.live s.er.lk (s.er.ev _)=true/\_;rw[e1];exact⟨jG hl,aLh h (KP:=fun a=>KP a [] []) fun v h=>hK _ _ _ h⟩
  ·cases h
 ·obtain⟨h,e1⟩:=aS h;split at h
  ·rename_i cs hx;refine⟨XV.fcL cs,by rw[e1,hx];rfl,?_⟩;obtain⟨v,h1,h2⟩:=aA8 h;split
   ·exact⟨_,h2,hK _ _ _ h1⟩
   ·exact⟨h2.1,by rw[<-h2.2];exact hK _ _ _ h1⟩
  ·cases h
 ·obtain⟨h,e1⟩:=aS h;obtain⟨h,e2⟩:=aS h;split at h
  ·rename_i hl;split at h
   ·rename_i k j hj;obtain⟨h1,h2⟩:=aC3 h (KP:=fun a=>KP a [] []) fun v h=>hK _ _ _ h;show AV.live s.er.lk (s.er.ev _)=true/\_;rw[e1];exact⟨jG hl,k,j,by rw[e2,hj];rfl,h1,h2⟩
   ·cases h
  ·cases h
 ·obtain⟨h,e1⟩:=aS h;obtain⟨h,e2⟩:=aS h;split at h
  ·rename_i t k j hx hj;obtain⟨c,h0,hc,h⟩:=aQa h;exact⟨t,k,j,c,by rw[e1,hx];rfl,by rw[e2,hj];rfl,h0,hc,hK _ _ _ h⟩
  ·cases h
 ·obtain⟨h,e1⟩:=aS h;split at h
  ·rename_i t hx;refine⟨t,by rw[e1,hx];rfl,cV h fun hh h=>cV h fun l h=>?_⟩;obtain⟨h1,h⟩:=aX h;obtain⟨h2,h⟩:=aX h;exact⟨h1,h2,hK _ _ _ h⟩
  ·cases h
 ·obtain⟨h,e1⟩:=aS h;split at h
  ·rename_i hl;show AV.live s.er.lk (s.er.ev _)=true/\rE _ s.er.ev _ _ _ (fun a=>KP a [] []) (s.er.ev _);rw[e1];exact⟨jG hl,aDi h fun v h=>hK _ _ _ h⟩
  ·cases h
 ·obtain⟨h,e1⟩:=aS h;split at h
  ·rename_i vs hx;split at h
   ·rename_i a ha;exact⟨XV.erL vs,_,by rw[e1,hx];rfl,aZ8 ha,hK _ _ _ h⟩
   ·cases h
  ·cases h
 ·obtain⟨h,e1⟩:=aS h;obtain⟨vs,h,e2⟩:=aEk h;obtain⟨fn,caps,ks,z,rr,nbs,f1,fz,f2,f3⟩:=bBk hT h hK;exact⟨fn,caps,ks,z,rr,nbs,by rw[e1];exact f1,fz,by rw[e2];exact f2,by rw[e2];exact f3⟩
 ·obtain⟨h,e1⟩:=aS h;split at h
  ·rename_i hl;split at h
   ·rename_i m hm;show AV.live s.er.lk (s.er.ev _)=true/\∃m,(s.er.ev _).len? _=some m/\_;rw[e1];exact⟨jG hl,m,aNs hm,hK _ _ _ h⟩
   ·cases h
  ·cases h
 ·obtain⟨h,e1⟩:=aS h;obtain⟨h,e2⟩:=aS h;split at h
  ·rename_i k p k' q hx hy;rw[ζ]at h;obtain⟨rfl,h⟩:=h;refine⟨k,p,q,by rw[e1,hx];rfl,by rw[e2,hy];rfl,?_⟩;have:=hK _ _ _ h;split at this<;>exact this
  ·cases h
 ·obtain⟨vs,h,e⟩:=aEk h;show KP (.clo _ (_:List AV)) [] [];rw[e];exact hK _ _ _ h
 ·obtain⟨h,e1⟩:=aS h;split at h
  ·rename_i k j hx;exact⟨k,j,by rw[e1,hx];rfl,hK _ _ _ h⟩
  ·cases h
 ·obtain⟨h,e1⟩:=aS h;obtain⟨xs,h,h1,h2⟩:=aD5 h;refine⟨_,bI xs,by rw[e1];exact h1,?_,by rw[e1];exact h2,hK _ _ _ h⟩;exact aDw
 ·obtain⟨h,e1⟩:=aS h;split at h
  ·rename_i t hx;refine⟨t,by rw[e1,hx];rfl,?_⟩;have:=hK _ _ _ h;simp only[XV.er,jB,aG,fq]at this;exact this
  ·cases h
 ·obtain⟨h,e1⟩:=aS h;obtain⟨h,e2⟩:=aS h;split at h
  ·rename_i hl;split at h
   ·rename_i k j hj;obtain⟨h1,h2,h3⟩:=bE6 h (KP:=fun a=>KP a [] []) fun v h=>hK _ _ _ h;show AV.live s.er.lk (s.er.ev _)=true/\_;rw[e1];exact⟨jG hl,k,j,by rw[e2,hj];rfl,h1,h2,h3⟩
   ·cases h
  ·cases h
 ·obtain⟨h,e1⟩:=aS h;obtain⟨h,e2⟩:=aS h;split at h
  ·rename_i k j hj;obtain⟨cs,h1,h2,h3,h4⟩:=bCr h (KP:=fun a=>KP a [] []) fun v h=>hK _ _ _ h;exact⟨cs,k,j,by rw[e1,<-aM8,h1],by rw[e2,hj];rfl,h2,h3,h4⟩
  ·cases h
 ·obtain⟨h,e1⟩:=aS h;unfold bMs at h;split at h
  ·rename_i hd ix hx;split at h
   ·rename_i mt n kk y hl;split at h
    ·rename_i hb;have hb:=fg hb;refine⟨hd,ix,mt,y.l.map (arD kk),by rw[e1,hx];rfl,by rw[aT,hl];rfl,by rw[μ,y.len];exact hb,?_⟩;refine cV h fun hh h=>cV h fun l h=>?_;obtain⟨h1,h⟩:=aX h;obtain⟨h2,h⟩:=aX h;have:=hK _ _ _ h;rw[sQ,cz]at this;exact⟨h1,h2,this⟩
    ·cases h
   ·cases h
  ·rename_i hd off hx;split at h
   ·rename_i mt t x hl;split at h
    ·rename_i a ha;split at h
     ·rename_i hb;have hb:=ι hb;subst hb;obtain⟨c1,_⟩:=aFk (l:=0) (len:=a.n) ha (by omega);refine⟨hd,off,mt,sgD (t.ds x),by rw[e1,hx];rfl,by rw[aT,hl];rfl,c1,?_⟩;refine cV h fun hh h=>cV h fun l h=>?_;obtain⟨h1,h⟩:=aX h;obtain⟨h2,h⟩:=aX h;exact⟨h1,h2,hK _ _ _ h⟩
     ·cases h
    ·cases h
   ·cases h
  ·cases h
 ·split at h
  ·rename_i t;unfold bGv at h;split at h
   ·rename_i n k;split at h
    ·rename_i hz;refine⟨bg n (DV.I k 0),by rw[bGy hz];exact aBa _,?_⟩;have:=hK _ _ _ h;have e:(bg n (DV.I k 0)).map (fun d=>[d])=(Arr.zero n).l.map (arD k):=by show _=(bg n (0:Int)).map (arD k);rw[gn,gn];rfl
     rw[e];exact this
    ·cases h
   ·split at h
    ·rename_i hz;exact⟨_,by rw[aHn hz];exact aBa _,hK _ _ _ h⟩
    ·cases h
  ·cases h
 ·obtain⟨h,e1⟩:=aS h;unfold bGt at h;split at h
  ·rename_i n k y hx;refine⟨(y.l.map (DV.I k)).map .D,y.l.map (DV.I k),?_,aBa _,?_⟩
   ·rw[e1,hx];show(if AV.allOne (((Ty.ar n k).ds y).map AV.D)=true then some (((Ty.ar n k).ds y).map AV.D)else none)=some (((Ty.ar n k).ds y).map AV.D);rw[if_pos (sU _ _)]
   have:=hK _ _ _ h;have e:(y.l.map (DV.I k)).map (fun d=>[d])=y.l.map (arD k):=by rw[fq];rfl
   rw[e];exact this
  ·rename_i cs hx;split at h
   ·rename_i t _;split at h
    ·rename_i x hp;obtain⟨l1,e2,e3⟩:=sW hp;rw[χ]at e2;subst e2;refine⟨(t.ds x).map .D,t.ds x,?_,aBa _,hK _ _ _ h⟩;rw[e1,hx];show(if AV.allOne (XV.fcL cs)=true then some (XV.fcL cs)else none)=_;rw[e3,if_pos (sU _ _)]
    ·cases h
   ·cases h
  ·cases h
 ·obtain⟨h,e1⟩:=aS h;obtain⟨h,e2⟩:=aS h;obtain⟨xs,ys,p,q,h1,h2,h3,h4,h5,h6,h⟩:=bDa h;refine⟨xs,ys,p,q,by rw[e1,<-aM8,h1],by rw[e2,<-aM8,h2],h3,h4,h5,h6,?_⟩;have:=hK _ _ _ h;split at this<;>exact this
 ·obtain⟨h,e1⟩:=aS h;split at h
  ·rename_i hl;split at h
   ·rename_i m hm;show AV.live s.er.lk (s.er.ev _)=true/\∃m,(s.er.ev _).len? false=some m/\_;rw[e1];refine⟨jG hl,m,aNs hm,?_⟩;rcases aNv h with⟨h0,h⟩|⟨h0,h⟩
    ·rw[if_neg (by have:=of_decide_eq_true h0;omega)];exact hK _ _ _ h
    ·rw[if_pos (by have:=of_decide_eq_false h0;omega)];exact hK _ _ _ h
   ·cases h
  ·cases h
 ·obtain⟨h,e1⟩:=aS h;split at h
  ·rename_i hl;show AV.live s.er.lk (s.er.ev _)=true/\_;rw[e1];exact⟨jG hl,aQt h (KP:=fun a=>KP a [] []) fun v h=>hK _ _ _ h⟩
  ·cases h
 ·obtain⟨h,e1⟩:=aS h;split at h
  ·rename_i hl;show AV.live s.er.lk (s.er.ev _)=true/\_;rw[e1];exact⟨jG hl,bCl h (KP:=fun a=>KP a [] []) fun v h=>hK _ _ _ h⟩
  ·cases h
 ·obtain⟨h,e1⟩:=aS h;obtain⟨h,e2⟩:=aS h;split at h
  ·rename_i xs ys hx hy;split at h
   ·rename_i q hq;refine⟨XV.fcL xs,XV.fcL ys,q,by rw[e1,hx];rfl,by rw[e2,hy];rfl,aLw hq,?_⟩;have:=hK _ _ _ h;split at this<;>exact this
   ·cases h
  ·cases h
 ·exact hK _ _ _ h
 ·cases h
 ·cases h
 ·cases h
 ·cases h
 ·cases h
 ·obtain⟨h,e1⟩:=aS h;split at h
  ·rename_i t x off hx;show oW (fun _=>none) _ (fun a=>KP a [] []) (s.er.ev _);rw[e1,hx];exact aWa (aHs (s:=s) (a:=.rop t x off) h (KP:=fun a=>KP a [] []) fun v h=>hK _ _ _ h)
  ·cases h
 ·obtain⟨h,e1⟩:=aS h;show(match s.er.ev _ with
   |.D (.L es)=>rE _ s.er.ev _ _ _ (fun a=>KP a [] []) (.D (.L es))
   |.fl es=>rE _ s.er.ev _ _ _ (fun a=>KP a [] []) (.fl es)
   |_=>False)
  rw[e1];split at h
  ·rename_i t xs hx;rw[hx];exact aDi (v:=.d (.sl t) xs) h fun v h=>hK _ _ _ h
  ·rename_i t xs hx;rw[hx];exact aDi (v:=.fl t xs) h fun v h=>hK _ _ _ h
  ·cases h
 ·obtain⟨h,e1⟩:=aS h;obtain⟨h,e2⟩:=aS h;split at h
  ·rename_i k j t xs hj hx;obtain⟨h1,h2⟩:=aC3 h (KP:=fun a=>KP a [] []) fun v h=>hK _ _ _ h;exact⟨k,j,by rw[e2,hj];rfl,h1,by rw[e1,hx];exact h2⟩
  ·rename_i k j t xs hj hx;obtain⟨h1,h2⟩:=aC3 h (KP:=fun a=>KP a [] []) fun v h=>hK _ _ _ h;exact⟨k,j,by rw[e2,hj];rfl,h1,by rw[e1,hx];exact h2⟩
  ·cases h
 ·obtain⟨h,e1⟩:=aS h;obtain⟨h,e2⟩:=aS h;split at h
  ·rename_i t _;obtain⟨k1,k2,l,c,v,b,h1,h2,h3,h4,h5,h6,h7,h8,h9⟩:=bEp h;refine⟨k1,k2,l,c,by rw[e1,h1],by rw[e2,h2],h3,h4,h5,h6,?_⟩;have:=hK _ _ _ h7;rw[h8]at this;rw[<-h9];exact this
  ·cases h
 ·obtain⟨h,e1⟩:=aS h;split at h
  ·rename_i hd off len hv;split at h
   ·rename_i mt n k x hl;obtain⟨h1,h⟩:=aX h;obtain⟨h2,h⟩:=aX h;exact⟨hd,off,len,mt,x.l.map (arD k),by rw[e1,hv];rfl,by rw[aT,hl];rfl,h1,h2,hK _ _ _ h⟩
   ·cases h
  ·rename_i hd off l len hv;split at h
   ·rename_i mt t x hl;obtain⟨h1,h⟩:=aX h;obtain⟨h2,h⟩:=aX h;exact⟨hd,off+l,len,mt,sgD (t.ds x),by rw[e1,hv];rfl,by rw[aT,hl];rfl,h1,h2,hK _ _ _ h⟩
   ·cases h
  ·cases h
 ·obtain⟨h,e1⟩:=aS h;split at h
  ·rename_i t xs hv;refine⟨by rw[e1,hv];rfl,xs.length,.inr ⟨xs.map t.ds,by rw[e1,hv];rfl,(μ _).symm⟩,hK _ _ _ h⟩
  ·rename_i t hv;refine⟨by rw[e1,hv];rfl,0,.inr ⟨[],by rw[e1,hv];rfl,rfl⟩,hK _ _ _ h⟩
  ·cases h
 ·obtain⟨h,e1⟩:=aS h;obtain⟨h,e2⟩:=aS h;split at h
  ·rename_i t0 kd j t hv hw ht;split at h
   ·rename_i hb hz;have hb:=ι hb;obtain⟨h1,h⟩:=aX h;obtain⟨h2,h⟩:=aX h;have h1:(0:Int)<j:=h1;have hz:=nJ (aHn hz);have hq:=hK _ _ _ h;subst hb hz;have h1':(0:Int)<=j:=Int.le_of_lt h1;have h1'':0<0+Int.toNat j:=by omega
    refine⟨by rw[e1,hv];rfl,0,0,kd,j,[],.inr ⟨by rw[e1,hv];rfl,rfl,rfl,rfl⟩,by rw[e2,hw];rfl,h1',ω _,fun e he=>(by simp at he),h1'',h2,?_⟩;have e3:(XV.slw (.O s.own.length) t (Int.toNat j)).er=.sl (.O s.own.length) t.n 0 (0+Int.toNat j):=by show AV.sl _ t.n 0 _=_;rw[bf]
    have e4:([XB.row true t (bg (Int.toNat j) t.z)].map XB.er:List Blk)=[.row true t.n (([]:List (List DV)).take 0++bg (Int.toNat j) (t.ds t.z))]:=by show[Blk.row true t.n ((bg _ t.z).map t.ds)]=_;rw[gn];rfl
    rw[e3,e4]at hq;exact hq
   ·cases h
  ·cases h
 ·obtain⟨h,e1⟩:=aS h;split at h
  ·rename_i hv;exact⟨by rw[e1,hv];rfl,hK _ _ _ h⟩
  ·cases h
 ·obtain⟨h,e1⟩:=aS h;split at h
  ·rename_i hv;exact⟨_,by rw[e1,hv];rfl,hK _ _ _ h⟩
  ·rename_i hv;exact⟨_,by rw[e1,hv];rfl,hK _ _ _ h⟩
  ·cases h
 ·obtain⟨h,e1⟩:=aS h;split at h
  ·rename_i t' a hv;split at h
   ·rename_i ht ha;refine⟨?_,hK _ _ _ h⟩;rw[e1,hv,ι ht,Array.isEmpty_iff.1 ha];rfl
   ·cases h
  ·cases h
 ·cases h
end
section
variable{R:Type}
def bD2(s:XS)(sz:Nat)(v:XV)(K:XS->Option R)(h:Hd)(off:Nat):Option R:=match s.lk h with
 |some (.box cs)=>match sS v with
  |some ys=>match bb (szL ys) sz with
   |true=>match aMv cs off ys sz with
    |some cs'=>K (s.setBlk h (some (.box cs')))
    |none=>none
   |false=>none
  |none=>none
 |_=>none
def aYv(k:IntKind):XV->Option Int
 |.d t c=>t.cst (.i k) c
 |_=>none
theorem aOh[YL]{k:IntKind}{c:Int}(h:aYv k v=some c):v.er=.D (.I k c):=by
 unfold aYv at h;split at h
 ·obtain⟨e,rfl⟩:=Ty.cst_ok h;subst e;rfl
 ·cases h
theorem aLs{l:List α}{i:Nat}{v:α}(h:i<l.length):l.take i++[v]++l.drop (i+1)=l.set i v:=by rw[List.set_eq_take_append_cons_drop,if_pos h,υ];rfl
theorem aYe{l:List α}{j:Nat}{v:α}(h:off+n<=l.length)(hj:j<n):l.take off++((l.drop off).take n).set j v++l.drop (off+n)=l.set (off+j) v:=by
 apply List.ext_getElem?;intro i;rw[List.getElem?_set];have hl:(((l.drop off).take n).set j v).length=n:=by rw[List.length_set,bu,aq];omega
 have ht:(l.take off).length=off:=by rw[bu];omega
 rcases c6 i off with h1|h1
 ·rw[υ,bp (by omega),du h1,if_neg (by omega)]
 ·rcases c6 i (off+n)with h2|h2
  ·rw[bp (by rw[κ];omega),bz (by omega),ht,List.getElem?_set];by_cases e:off+j=i
   ·subst e;rw[if_pos (by omega),if_pos rfl,if_pos (by rw[bu,aq];omega),if_pos (by omega)]
   ·rw[if_neg (by omega),if_neg e,du (by omega),dv];congr 1;omega
  ·rw[bz (by rw[κ];omega),κ,ht,hl,dv,if_neg (by omega)];congr 1;omega
def aUe(cs:List XV)(off j:Nat)(a:ArL)(c:Int):Option (List XV):=aMv cs off [.d (.ar a.n a.k) (a.x.set j c)] a.n
theorem aIn[YL]{cs:List XV}{j:Nat}{a:ArL}{c:Int}(ha:aAs cs off=some a)(hj:j<a.n)(h:aUe cs off j a c=some l):off+j<(XV.fcL cs).length/\XV.fcL l=(XV.fcL cs).set (off+j) (.D (.I a.k c)):=by
 obtain⟨h1,h2⟩:=aBi ha;obtain⟨_,h3⟩:=uN h;refine⟨by omega,?_⟩;rw[h3];have e:XV.fcL [XV.d (.ar a.n a.k) (a.x.set j c)]=(((XV.fcL cs).drop off).take a.n).set j (.D (.I a.k c)):=by rw[h1];show(((a.x.set j c).l.map (DV.I a.k)).map AV.D)++[]=_;rw[χ,Arr.l_set,il,il]
 rw[e];exact aYe h2 hj
def aR9(s:XS)(sz:Nat)(v:XV)(K:XS->Option R):XV->Option R
 |.ptr h off=>bD2 s sz v K h off
 |.pa h off j=>match s.lk h with
  |some (.box cs)=>match aAs cs off,sz with
   |some a,1=>match aYv a.k v with
    |some c=>gd? (j<a.n) (match aUe cs off j a c with
     |some cs'=>K (s.setBlk h (some (.box cs')))
     |none=>none)
    |none=>none
   |none,sz=>bD2 s sz v K h (off+j)
   |_,_=>none
  |_=>none
 |.epa h t ix off j=>match s.lk h with
  |some (.row true t' xs)=>match t'.beq t,sz with
   |true,1=>gn? xs ix fun e=>match aAs (lvs t' e) off with
    |some a=>match aYv a.k v with
     |some c=>gd? (j<a.n) (match aUe (lvs t' e) off j a c with
      |some l=>match pkD t' l with
       |some (y,[])=>K (s.setBlk h (some (.row true t' (xs.set ix y))))
       |_=>none
      |none=>none)
     |none=>none
    |none=>none
   |_,_=>none
  |_=>none
 |.ept h t ix off=>match s.lk h with
  |some (.row true t' xs)=>match t'.beq t,sS v with
   |true,some ys=>match bb (szL ys) sz,(bb sz 1|| !(bb t'.n 1))with
    |true,true=>gn? xs ix fun e=>match aMv (lvs t' e) off ys sz with
     |some l=>match pkD t' l with
      |some (y,[])=>K (s.setBlk h (some (.row true t' (xs.set ix y))))
      |_=>none
     |none=>none
    |_,_=>none
   |_,_=>none
  |_=>none
 |.apt h ix=>match s.lk h with
  |some (.arr true n k x)=>match sz with
   |1=>match v with
    |.d t c=>match t.cst (.i k) c with
     |some c=>gd? (ix<n) (K (s.setBlk h (some (.arr true n k (x.set ix c)))))
     |none=>none
    |_=>none
   |sz=>match ix,v with
    |0,.d t y=>match t.cst (.ar n k) y,bb sz n with
     |some y,true=>K (s.setBlk h (some (.arr true n k y)))
     |_,_=>none
    |0,.agg [.d t y]=>match t.cst (.ar n k) y,bb sz n with
     |some y,true=>K (s.setBlk h (some (.arr true n k y)))
     |_,_=>none
    |ix,v=>match unA v with
     |.d t y=>match t.cst (.ar sz k) y with
      |some y=>gd? (ix+sz<=n) (K (s.setBlk h (some (.arr true n k (x.put ix y.l)))))
      |none=>none
     |_=>none
  |_=>none
 |.rpt h off=>match s.lk h with
  |some (.rb true t x)=>match sS v with
   |some ys=>match bb (szL ys) sz&&lg 1 sz with
    |true=>match aMv (lvs t x) off ys sz with
     |some l=>match pkD t l with
      |some (y,[])=>K (s.setBlk h (some (.rb true t y)))
      |_=>none
     |none=>none
    |false=>none
   |none=>none
  |_=>none
 |.rpa h off j=>match s.lk h with
  |some (.rb true t x)=>match aAs (lvs t x) off,sz with
   |some a,1=>match aYv a.k v with
    |some c=>gd? (j<a.n) (match aUe (lvs t x) off j a c with
     |some l=>match pkD t l with
      |some (y,[])=>K (s.setBlk h (some (.rb true t y)))
      |_=>none
     |none=>none)
    |none=>none
   |_,_=>none
  |_=>none
 |_=>none
theorem bLx[YL]{x y:t.T}{vs:List DV}{a:AV}(hl:s.lk hd=some (.rb true t x))(hc:a.cells?=some (vs.map .D))(hn:vs.length=sz)(hle:off+sz<=(t.ds x).length)
  (hlt:off<(t.ds x).length) (hds:t.ds y=(t.ds x).take off++vs++(t.ds x).drop (off+sz)) (hK:KP (s.setBlk hd (some (.rb true t y))).er):pH s.er sz a KP (.eptr hd 1 off 0):=by
 rw[cA hl]at hK;have hK:KP (s.er.setBlk hd (some (.row true 1 (sgD (t.ds y))))):=hK;rw[hds]at hK;by_cases h1:sz=1
 ·subst h1;obtain⟨d,rfl⟩:=List.length_eq_one_iff.1 hn;refine .inl ⟨.inr rfl,sgD (t.ds x),[(t.ds x)[off]],_,[d],by rw[aT,hl];rfl,aFq (ε hlt),hc,rfl,rfl,ω _,?_⟩;have e:(sgD (t.ds x)).set off ([(t.ds x)[off]].take 0++[d]++[(t.ds x)[off]].drop (0+1))=sgD ((t.ds x).take off++[d]++(t.ds x).drop (off+1)):=by rw[aLs hlt];unfold sgD;rw[il];rfl
  rw[e];exact hK
 ·refine .inr ⟨rfl,rfl,h1,sgD (t.ds x),_,vs,by rw[aT,hl];rfl,hc,xC _,hn,by rw[yF];exact hle,?_⟩;have e:(sgD (t.ds x)).take off++(vs.map fun d=>[d])++(sgD (t.ds x)).drop (off+sz)=sgD ((t.ds x).take off++vs++(t.ds x).drop (off+sz)):=by unfold sgD;rw[bn,bn,br,b6]
  rw[e];exact hK
theorem aAl{k:IntKind}{y:Arr n}:(AV.agg (((Ty.ar n k).ds y).map .D)).cells?=some (((Ty.ar n k).ds y).map .D):=by show(if AV.allOne (((Ty.ar n k).ds y).map .D)=true then some (((Ty.ar n k).ds y).map AV.D)else none)=_;rw[if_pos (sU _ _)]
theorem aF5[YL]{k:IntKind}{x y:Arr n}(hl:s.lk hd=some (.arr true n k x))(h1:sz≠1)(hb:sz=n)(hc:(s.er.ev xo).cells?=some (((Ty.ar n k).ds y).map .D))
  (hK:KP (s.setBlk hd (some (.arr true n k y))).er):pH s.er sz (s.er.ev xo) KP (.eptr hd 1 0 0):=by
 have e1:=x.len;have e2:=y.len;refine .inr ⟨rfl,rfl,h1,x.l.map (arD k),_,(Ty.ar n k).ds y,by rw[aT,hl];rfl,hc,xC _,by rw[Ty.ds_len];exact hb.symm,by rw[μ];omega,?_⟩;have e:(x.l.map (arD k)).take 0++(((Ty.ar n k).ds y).map fun d=>[d])++(x.l.map (arD k)).drop (0+sz)=y.l.map (arD k):=by rw[List.take_zero,cg,eg (by rw[μ];omega),χ];show((y.l.map (DV.I k)).map fun d=>[d])=_;rw[fq];rfl
 rw[e];rw[cA hl]at hK;exact hK
theorem aVl[YL]{K:XS->Option R}{r:R}(hv:s.er.ev xo=v.er)(h:bD2 s sz v K hd off=some r)(hK:∀s',K s'=some r->KP s'.er):pH s.er sz (s.er.ev xo) KP (.ptr hd off):=by
 unfold bD2 at h;split at h
 ·rename_i cs hl;split at h
  ·rename_i ys hy;split at h
   ·rename_i hb;split at h
    ·rename_i cs' hu;obtain⟨h1,h2⟩:=uN hu;have:=hK _ h;rw[cA hl]at this;refine⟨XV.fcL cs,XV.fcL ys,by rw[aT,hl];rfl,by rw[hv];exact nY hy,by rw[aDv];exact ι hb,h1,?_⟩;rw[<-h2];exact this
    ·cases h
   ·cases h
  ·cases h
 ·cases h
theorem aV8[YL]{K:XS->Option R}{r:R}(hv:s.er.ev xo=v.er)(h:aR9 s sz v K a=some r)(hK:∀s',K s'=some r->KP s'.er):pH s.er sz (s.er.ev xo) KP a.er:=by
 unfold aR9 at h;split at h
 ·exact aVl hv h hK
 ·rename_i hd off j;split at h
  ·rename_i cs hl;split at h
   ·rename_i a ha;split at h
    ·rename_i c hc;obtain⟨hj,h⟩:=aX h;split at h
     ·rename_i cs' hs;obtain⟨h1,h2⟩:=aIn ha hj hs;have:=hK _ h;rw[cA hl]at this;have e:s.er.ev xo=.D (.I a.k c):=by rw[hv];exact aOh hc
      refine⟨XV.fcL cs,[.D (.I a.k c)],by rw[aT,hl];rfl,by rw[e];rfl,rfl,by omega,?_⟩;rw[aLs h1,<-h2];exact this
     ·cases h
    ·cases h
   ·exact aVl hv h hK
   ·cases h
  ·cases h
 ·rename_i hd t ix off j;split at h
  ·rename_i t' xs hl;split at h
   ·rename_i hb;obtain rfl:=Ty.eq_of hb
    replace h:=aQy h
    obtain⟨e,he,h⟩:=h;split at h
    ·rename_i a ha;split at h
     ·rename_i c hc;obtain⟨hj,h⟩:=aX h;split at h
      ·rename_i l hs;split at h
       ·rename_i y hp;obtain⟨h1,h2⟩:=aIn ha hj hs;obtain⟨l1,e1,e2⟩:=sW hp;rw[χ]at e1;subst e1;rw[cX]at h1 h2;rw[μ]at h1;have hds:t'.ds y=(t'.ds e).set (off+j) (.I a.k c):=by
         have h3:(t'.ds y).map AV.D=((t'.ds e).set (off+j) (.I a.k c)).map AV.D:=by rw[<-e2,h2,il]
         exact nJ h3
        have ev:s.er.ev xo=.D (.I a.k c):=by rw[hv];exact aOh hc
        refine .inl ⟨.inr rfl,xs.map t'.ds,t'.ds e,[.D (.I a.k c)],[.I a.k c],by rw[aT,hl];rfl,by rw[az,he];rfl,by rw[ev];rfl,rfl,rfl,by omega,?_⟩;have:=hK _ h;rw[cA hl]at this;rw[aLs h1,<-hds];have e3:(xs.map t'.ds).set ix (t'.ds y)=(xs.set ix y).map t'.ds:=by rw[il]
        rw[e3];exact this
       ·cases h
      ·cases h
     ·cases h
    ·cases h
   ·cases h
  ·cases h
 ·rename_i hd t ix off;split at h
  ·rename_i t' xs hl;split at h
   ·rename_i ys hb hy;obtain rfl:=Ty.eq_of hb;split at h
    ·rename_i hb1 hb2
     replace h:=aQy h
     obtain⟨e,he,h⟩:=h;split at h
     ·rename_i l hu;split at h
      ·rename_i y hp;obtain⟨h1,h2⟩:=uN hu;obtain⟨l1,e1,e2⟩:=sW hp;rw[χ]at e1;subst e1;rw[cX]at h1 h2;rw[μ]at h1;have hsz:=ι hb1;have hlen:(XV.fcL ys).length=sz:=by rw[aDv];exact hsz
       have hys:XV.fcL ys=(((t'.ds y).drop off).take sz).map .D:=by
        have:(((XV.fcL l).drop off).take sz)=XV.fcL ys:=by rw[h2,υ,ee (by rw[bu,μ];omega),eg (by rw[bu,μ];omega),cg,e9 (by omega),bc (by omega)]
        rw[<-this,e2,br,b6]
       have hds:t'.ds y=(t'.ds e).take off++((t'.ds y).drop off).take sz++(t'.ds e).drop (off+sz):=by
        have h3:(t'.ds y).map AV.D=((t'.ds e).take off++((t'.ds y).drop off).take sz++(t'.ds e).drop (off+sz)).map AV.D:=by rw[bn,bn,<-hys,br,b6,<-h2,e2]
        have:=congrArg AV.data h3;rwa[xC,xC,Option.some.injEq]at this
       refine .inl ⟨?_,xs.map t'.ds,t'.ds e,XV.fcL ys,((t'.ds y).drop off).take sz,by rw[aT,hl];rfl,by rw[az,he];rfl,by rw[hv];exact nY hy,by rw[hys];exact xC _,?_,h1,?_⟩
       ·rw[fa]at hb2;rcases hb2 with hb2|hb2
        ·exact .inr (ι hb2)
        ·exact .inl fun e=>by rw[e]at hb2;cases hb2
       ·have:=congrArg List.length hys;rw[μ,hlen]at this;exact this.symm
       ·have:=hK _ h;rw[cA hl]at this;rw[<-hds];have e3:(xs.map t'.ds).set ix (t'.ds y)=(xs.set ix y).map t'.ds:=by rw[il]
        rw[e3];exact this
      ·cases h
     ·cases h
    ·cases h
   ·cases h
  ·cases h
 ·rename_i hd ix;split at h
  ·rename_i n k x hl;split at h
   ·split at h
    ·rename_i t c;split at h
     ·rename_i c' hc;obtain⟨e,rfl⟩:=Ty.cst_ok hc;subst e;obtain⟨h1,h⟩:=aX h;have e1:=x.len;refine .inl ⟨.inr rfl,x.l.map (arD k),arD k (x.l[ix]'(by omega)),[.D (.I k c)],[.I k c],by rw[aT,hl];rfl,by rw[az,ε (by omega)];rfl,by rw[hv];rfl,rfl,rfl,ω _,?_⟩;have:=hK _ h;rw[cA hl]at this;have e3:(x.l.map (arD k)).set ix ((arD k (x.l[ix]'(by omega))).take 0++[.I k c]++(arD k (x.l[ix]'(by omega))).drop (0+1))=(x.set ix c).l.map (arD k):=by rw[Arr.l_set,il];rfl
      rw[e3];exact this
     ·cases h
    ·cases h
   ·rename_i h1;split at h
    ·rename_i t y;split at h
     ·rename_i y' hy hb;obtain⟨e,rfl⟩:=Ty.cst_ok hy;subst e;exact aF5 hl h1 (ι hb) (by rw[hv];exact aAl) (hK _ h)
     ·cases h
    ·rename_i t y;split at h
     ·rename_i y' hy hb;obtain⟨e,rfl⟩:=Ty.cst_ok hy;subst e;exact aF5 hl h1 (ι hb) (by
       rw[hv];show(AV.agg (((Ty.ar n k).ds _).map AV.D++[])).cells?=_;rw[χ];exact aAl) (hK _ h)
     ·cases h
    ·split at h
     ·rename_i t y hu;split at h
      ·rename_i y' hy;obtain⟨e,rfl⟩:=Ty.cst_ok hy;subst e;obtain⟨h2,h⟩:=aX h;have e1:=x.len;refine .inr ⟨rfl,rfl,h1,x.l.map (arD k),_,(Ty.ar sz k).ds y,by rw[aT,hl];rfl,by rw[hv,<-aM8,hu];exact aAl,xC _,by rw[Ty.ds_len];rfl,by rw[μ,e1];exact h2,?_⟩;have:=hK _ h;rw[cA hl]at this;have e3:(x.l.map (arD k)).take ix++(((Ty.ar sz k).ds y).map fun d=>[d])++(x.l.map (arD k)).drop (ix+sz)=(x.put ix y.l).l.map (arD k):=by rw[Arr.l_put (by rw[y.len];exact h2),bn,bn,br,b6,y.len];congr 2;show((y.l.map (DV.I k)).map fun d=>[d])=_;rw[fq];rfl
       rw[e3];exact this
      ·cases h
     ·cases h
  ·cases h
 ·rename_i hd off;split at h
  ·rename_i t x hl;split at h
   ·rename_i ys hy;split at h
    ·rename_i hb;rw[ν]at hb;have hb0:=fg hb.2;split at h
     ·rename_i l hu;split at h
      ·rename_i y hp;obtain⟨h1,h2⟩:=uN hu;obtain⟨l1,e1,e2⟩:=sW hp;rw[χ]at e1;subst e1;rw[cX]at h1 h2;rw[μ]at h1;have hlen:(XV.fcL ys).length=sz:=by rw[aDv];exact ι hb.1
       have hys:XV.fcL ys=(((t.ds y).drop off).take sz).map .D:=by
        have:(((XV.fcL l).drop off).take sz)=XV.fcL ys:=by rw[h2,υ,ee (by rw[bu,μ];omega),eg (by rw[bu,μ];omega),cg,e9 (by omega),bc (by omega)]
        rw[<-this,e2,br,b6]
       have hds:t.ds y=(t.ds x).take off++((t.ds y).drop off).take sz++(t.ds x).drop (off+sz):=by
        have h3:(t.ds y).map AV.D=((t.ds x).take off++((t.ds y).drop off).take sz++(t.ds x).drop (off+sz)).map AV.D:=by rw[bn,bn,<-hys,br,b6,<-h2,e2]
        exact nJ h3
       have hn:(((t.ds y).drop off).take sz).length=sz:=by have:=congrArg List.length hys;rw[μ,hlen]at this;exact this.symm
       exact bLx hl (by rw[hv,<-hys];exact nY hy) hn h1 (by omega) hds (hK _ h)
      ·cases h
     ·cases h
    ·cases h
   ·cases h
  ·cases h
 ·rename_i hd off j;split at h
  ·rename_i t x hl;split at h
   ·rename_i a ha;split at h
    ·rename_i c hc;obtain⟨hj,h⟩:=aX h;split at h
     ·rename_i l hs;split at h
      ·rename_i y hp;obtain⟨h1,h2⟩:=aIn ha hj hs;obtain⟨l1,e1,e2⟩:=sW hp;rw[χ]at e1;subst e1;rw[cX]at h1 h2;rw[μ]at h1;have hds:t.ds y=(t.ds x).set (off+j) (.I a.k c):=by
        have h3:(t.ds y).map AV.D=((t.ds x).set (off+j) (.I a.k c)).map AV.D:=by rw[<-e2,h2,il]
        exact nJ h3
       have ev:s.er.ev xo=.D (.I a.k c):=by rw[hv];exact aOh hc
       exact bLx (vs:=[.I a.k c]) hl (by rw[ev];rfl) rfl h1 h1 (by rw[aLs h1];exact hds) (hK _ h)
      ·cases h
     ·cases h
    ·cases h
   ·cases h
  ·cases h
 ·cases h
def bH3:List XV->Bool
 |[]=>true
 |.d _ _::l=>bH3 l
 |.nl _::l=>bH3 l
 |_::_=>false
def bMa(v a:XV):Bool:=match a with
 |.ept _ _ _ _=>match sS v with
  |some ys=>!(bH3 ys)
  |none=>false
 |_=>false
def bNu(s s1:XS)(sz:Nat)(v:XV)(K:XS->Option R)(h:Hd)(t:Ty)(ix off:Nat):Option R:=match s1.lk h with
 |some (.row true t' xs)=>match t'.beq t,sS v with
  |true,some ys=>match bb (szL ys) sz,(bb sz 1|| !(bb t'.n 1))with
   |true,true=>gn? xs ix fun e=>match aMv (lvs t' e) off ys sz with
    |some l=>pkC s t' l fun y rest=>match rest with
     |[]=>K (s1.setBlk h (some (.row true t' (xs.set ix y))))
     |_::_=>none
    |none=>none
   |_,_=>none
  |_,_=>none
 |_=>none
def aNb(s:XS)(sz:Nat)(v:XV)(K:XS->Option R):XV->Option R
 |.ept h t ix off=>bNu s (s.put none .un [] (xfz s v.hr)) sz v K h t ix off
 |_=>none
theorem aSt{lk:bE}{φ:Hd->Option Hd}{a:AV}{cs:List AV}(h:a.cells?=some cs)(hc:AV.convL lk φ cs=ds.map .D)(ho:AV.allOne (ds.map .D)=true):(AV.conv lk φ a).cells?=some (ds.map .D):=by
 have key:∀a:AV,(∀l,a≠.agg l)->a.cells?=some cs->(AV.conv lk φ a).cells?=some (ds.map .D):=fun a hn h=>by
  have h1:cs=[a]:=by
   unfold AV.cells? at h;split at h
   ·exact absurd rfl (hn _)
   ·split at h
    ·cases h;rfl
    ·cases h
  subst h1;have hc:[AV.conv lk φ a]=ds.map .D:=hc;cases ds with
  |nil=>cases hc
  |cons d ds=>
   cases ds with
   |cons _ _=>exact absurd (congrArg List.length hc) (by simp)
   |nil=>
    have hc:AV.conv lk φ a=.D d:=(List.cons.inj hc).1;rw[hc];have ho:(AV.one (.D d)&&true)=true:=ho;rw[gq]at ho;show(if AV.one (.D d)=true then some [AV.D d]else none)=_;rw[if_pos ho];rfl
 cases a with
 |agg l=>
  have h:(if AV.allOne l=true then some l else none)=some cs:=h;split at h
  ·have e:l=cs:=Option.some.inj h;rw[<-e]at hc;show(if AV.allOne (AV.convL lk φ l)=true then some (AV.convL lk φ l)else none)=_;rw[hc,if_pos ho]
  ·cases h
 |_=>exact key _ (fun _=>AV.noConfusion) h
theorem aCk(lk:bE)(φ:Hd->Option Hd):∀l:List AV,(AV.convL lk φ l).length=l.length
 |[]=>rfl
 |x::l=>by show(AV.convL lk φ l).length+1=_;rw[aCk lk φ l];rfl
theorem aR4[YL]{K:XS->Option R}{r:R}(hv:s.er.ev xo=v.er)(h:aNb s sz v K a=some r)(hK:∀s',K s'=some r->KP s'.er):
  pH (s.er.put none AV.un [] (fzL s.er.lk (AV.rows (s.er.ev xo)))) sz (AV.conv s.er.lk (fun _=>none) (s.er.ev xo)) KP a.er:=by
 unfold aNb at h;split at h
 ·rename_i hd t ix off;have hs1:s.er.put none AV.un [] (fzL s.er.lk (AV.rows (s.er.ev xo)))=(s.put none .un [] (xfz s v.hr)).er:=by rw[cY,hv,aD0,qQ];rfl
  rw[hs1,hv];revert h;generalize s.put none .un [] (xfz s v.hr)=s1;intro h;unfold bNu at h;split at h
  ·rename_i t' xs hl;split at h
   ·rename_i ys hb hy;obtain rfl:=Ty.eq_of hb;split at h
    ·rename_i hb1 hb2
     replace h:=aQy h
     obtain⟨e,he,h⟩:=h;split at h
     ·rename_i l hu;obtain⟨y,l1,l2,rfl,h,ec⟩:=bB1 (φ:=fun _=>none) (fun _ _ _=>rfl) h;split at h
      ·obtain⟨h1,h2⟩:=uN hu;rw[χ]at h2;rw[cX]at h1 h2;rw[μ]at h1;have hsz:=ι hb1;have hlen:(XV.fcL ys).length=sz:=by rw[aDv];exact hsz
       have hC:((t'.ds e).take off).map AV.D++AV.convL s.er.lk (fun _=>none) (XV.fcL ys)++((t'.ds e).drop (off+sz)).map AV.D=(t'.ds y).map .D:=by rw[<-ec,h2,uD,uD,<-br,<-b6,aB3,aB3]
       have hcl:(AV.convL s.er.lk (fun _=>none) (XV.fcL ys)).length=sz:=by rw[aCk,hlen]
       have hys:AV.convL s.er.lk (fun _=>none) (XV.fcL ys)=(((t'.ds y).drop off).take sz).map .D:=by rw[br,b6,<-hC,υ,ee (by rw[μ,bu];omega),eg (by rw[μ,bu];omega),cg,e9 (by omega),bc (by omega)]
       have hds:t'.ds y=(t'.ds e).take off++((t'.ds y).drop off).take sz++(t'.ds e).drop (off+sz):=by
        have h3:(t'.ds y).map AV.D=((t'.ds e).take off++((t'.ds y).drop off).take sz++(t'.ds e).drop (off+sz)).map AV.D:=by rw[bn,bn,<-hys,hC]
        have:=congrArg AV.data h3;rwa[xC,xC,Option.some.injEq]at this
       have hone:AV.allOne ((((t'.ds y).drop off).take sz).map .D)=true:=by
        have h4:=sU t' y;have h6:(t'.ds y).map AV.D=((t'.ds e).take off).map AV.D++(((t'.ds y).drop off).take sz).map AV.D++((t'.ds e).drop (off+sz)).map AV.D:=by rw[<-bn,<-bn,<-hds]
        rw[h6,aA7,aA7,ν,ν]at h4;exact h4.1.2
       refine .inl ⟨?_,xs.map t'.ds,t'.ds e,(((t'.ds y).drop off).take sz).map .D,((t'.ds y).drop off).take sz,by rw[aT,hl];rfl,by rw[az,he];rfl,aSt (nY hy) hys hone,xC _,?_,h1,?_⟩
       ·rw[fa]at hb2;rcases hb2 with hb2|hb2
        ·exact .inr (ι hb2)
        ·exact .inl fun e=>by rw[e]at hb2;cases hb2
       ·have:=congrArg List.length hys;rw[μ,hcl]at this;exact this.symm
       ·have:=hK _ h;rw[cA hl]at this;rw[<-hds];have e3:(xs.map t'.ds).set ix (t'.ds y)=(xs.set ix y).map t'.ds:=by rw[il]
        rw[e3];exact this
      ·cases h
     ·cases h
    ·cases h
   ·cases h
  ·cases h
 ·cases h
end
section
variable{R:Type}
def qK(s:XS)(t:Ty)(v:XV)(K:List t.T->Option R):Option R:=match v with
 |.d .s b=>match(Ty.sl (.i .u8)).cst (.sl t) (aG b)with
  |some y=>K y
  |none=>none
 |v=>pK s (.sl t) v K
theorem lX[YL]{K:List t.T->Option R}{r:R}(h:qK s t v K=some r):∃xs:List t.T,K xs=some r/\AV.content s.er.lk v.er=some (xs.map t.ds):=by
 unfold qK at h;split at h
 ·rename_i b;split at h
  ·rename_i y hy;obtain⟨e,rfl⟩:=Ty.cst_ok hy;cases e;refine⟨_,h,?_⟩;show some (b.map fun c=>[DV.I .u8 c.toNat])=_;simp only[aG,fq];rfl
  ·cases h
 ·obtain⟨xs,h,h1,_⟩:=aD5 h;exact⟨xs,h,h1⟩
def bO4(s:XS)(t:Ty)(xs:List t.T)(k bytes:Nat)(y:XV)(K:XV->List XB->List Hd->Option R):Option R:=match bb t.n k with
 |true=>qK s t y fun ys=>match xs,ys with
  |[],ys=>gd? (ys.length*bytes<=140737488355328) (K (.slw (.O s.own.length) t ys.length) [.row true t ys] (xfz s y.hr))
  |xs,y0::yr=>gd? ((xs.length+(y0::yr).length)*bytes<=140737488355328) (K (.slw (.O s.own.length) t (xs++y0::yr).length) [.row true t (xs++y0::yr)] (xfz s y.hr))
  |_,_=>none
 |false=>none
def aNi(s:XS)(ty:Option Ty)(k bytes:Nat)(y:XV)(dst:Option Nat)(K:XS->Option R):XV->Option R
 |.slw h t len=>match s.lk h with
  |some (.row mt t' xs)=>match t'.beq t,bb t'.n k with
   |true,true=>gl? len xs (qK s t' y fun ys=>gd? ((xs.length+ys.length)*bytes<=140737488355328) (K ((s.setBlk h none).put dst (.slw (.O s.own.length) t' (xs++ys).length) [.row mt t' (xs++ys)] [])))
   |_,_=>none
  |_=>none
 |.fln _=>match elT ty,dst with
  |some t,some d=>match bb t.n k with
   |true=>qK s t y fun ys=>gd? (ys.length*bytes<=140737488355328) (K (s.put (some d) (.slw (.O s.own.length) t ys.length) [.row true t ys] (xfz s y.hr)))
   |false=>none
  |_,_=>none
 |.fl t xs=>match bb t.n k,dst with
  |true,some d=>qK s t y fun ys=>match ys with
   |[]=>none
   |y0::yr=>gd? ((xs.length+(y0::yr).length)*bytes<=140737488355328) (K (s.put (some d) (.slw (.O s.own.length) t (xs++y0::yr).length) [.row true t (xs++y0::yr)] (xfz s y.hr)))
  |_,_=>none
 |_=>none
theorem aTf[YL]{K:XS->Option R}{r:R}(hy:s.er.ev yo=y.er)(h:aNi s ty k bytes y dst K a=some r)(hK:∀s',K s'=some r->KP s'.er):rU s.er k bytes yo dst KP a.er:=by
 unfold aNi at h;split at h
 ·rename_i hd t len;split at h
  ·rename_i mt t' xs hl;split at h
   ·rename_i hb hb2;obtain rfl:=Ty.eq_of hb;have hk:=ι hb2
    replace h:=aXy h
    obtain⟨rfl,h⟩:=h;obtain⟨ys,h,hc⟩:=lX h;obtain⟨hsz,h⟩:=aX h;refine⟨hk,rfl,mt,xs.map t'.ds,ys.map t'.ds,by rw[aT,hl,<-hk];rfl,by rw[μ],by rw[hy];exact hc,hk▸uC t' xs,hk▸uC t' ys,aUi t' ys,by rw[μ];exact hsz,?_⟩;have:=hK _ h;rw[cY,cA hl]at this;have e:(XV.slw (.O s.own.length) t' (xs++ys).length).er=.sl (.O s.own.length) k 0 (xs.length+(ys.map t'.ds).length):=by show AV.sl (.O s.own.length) t'.n 0 (xs++ys).length=_;rw[hk,κ,μ]
    rw[e]at this;have e2:([XB.row mt t' (xs++ys)].map XB.er)=[Blk.row mt k (xs.map t'.ds++ys.map t'.ds)]:=by show[Blk.row mt t'.n ((xs++ys).map t'.ds)]=_;rw[hk,bn]
    rw[e2]at this;exact this
   ·cases h
  ·cases h
 ·split at h
  ·rename_i t d _;split at h
   ·rename_i hb;have hk:=ι hb;obtain⟨ys,h,hc⟩:=lX h;obtain⟨hsz,h⟩:=aX h;refine⟨rfl,ys.map t.ds,by rw[hy];exact hc,hk▸uC t ys,by rw[μ];exact hsz,?_⟩;have:=hK _ h;rw[cY]at this;have e:(XV.slw (.O s.own.length) t ys.length).er=.sl (.O s.own.length) k 0 (ys.map t.ds).length:=by show AV.sl (.O s.own.length) t.n 0 ys.length=_;rw[hk,μ]
    rw[e]at this;have e2:([XB.row true t ys].map XB.er)=[Blk.row true k (ys.map t.ds)]:=by show[Blk.row true t.n (ys.map t.ds)]=_;rw[hk]
    rw[e2]at this;rw[hy,aD0,qQ];exact this
   ·cases h
  ·cases h
 ·rename_i t xs;split at h
  ·rename_i d hb;have hk:=ι hb;obtain⟨ys,h,hc⟩:=lX h;split at h
   ·cases h
   ·rename_i y0 yr;obtain⟨hsz,h⟩:=aX h;have:=hK _ h;rw[cY]at this;have e2:([XB.row true t (xs++y0::yr)].map XB.er)=[Blk.row true k (xs.map t.ds++(y0::yr).map t.ds)]:=by show[Blk.row true t.n ((xs++y0::yr).map t.ds)]=_;rw[hk,bn]
    have e:(XV.slw (.O s.own.length) t (xs++y0::yr).length).er=.sl (.O s.own.length) k 0 (xs.length+(y0::yr).length):=by show AV.sl (.O s.own.length) t.n 0 (xs++y0::yr).length=_;rw[hk,κ]
    rw[e,e2,show s.own.length=s.er.nx from rfl]at this;cases xs with
    |nil=>
     refine⟨rfl,(y0::yr).map t.ds,by rw[hy];exact hc,hk▸uC t _,by rw[μ];simpa using hsz,?_⟩;rw[hy,aD0,qQ,μ];simpa using this
    |cons x0 xr=>
     refine⟨(y0::yr).map t.ds,by rw[hy];exact hc,hk▸uC t (x0::xr),hk▸uC t _,by simpa using hsz,?_⟩;rw[if_neg (by simp),hy,aD0,qQ];simpa using this
  ·cases h
 ·cases h
def bHz(s:XS)(ty:Option Ty)(k bytes:Nat)(y:XV)(K:XV->List XB->List Hd->Option R):XV->Option R
 |.fln _=>match elT ty with
  |some t=>match bb t.n k with
   |true=>qK s t y fun ys=>gd? (ys.length*bytes<=140737488355328) (K (.slw (.O s.own.length) t ys.length) [.row true t ys] (xfz s y.hr))
   |false=>none
  |none=>none
 |.fl t xs=>match bb t.n k with
  |true=>qK s t y fun ys=>match ys with
   |[]=>none
   |y0::yr=>gd? ((xs.length+(y0::yr).length)*bytes<=140737488355328) (K (.slw (.O s.own.length) t (xs++y0::yr).length) [.row true t (xs++y0::yr)] (xfz s y.hr))
  |false=>none
 |_=>none
theorem bC9[YL]{K:XV->List XB->List Hd->Option R}{r:R}(hy:s.er.ev yo=y.er)(h:bHz s ty k bytes y K a=some r){KP:AV->List Blk->List Hd->Prop}(hK:∀v nbs fz,K v nbs fz=some r->KP v.er (nbs.map XB.er) fz):
  ∃es,a.er=.fl es/\∃ys,AV.content s.er.lk (s.er.ev yo)=some ys/\Uni k es/\Uni k ys/\(es.length+ys.length)*bytes<=140737488355328/\
   (if ys=[]/\es≠[]then KP (.fl es) [] []else KP (.sl (.O s.er.nx) k 0 (es.length+ys.length)) [.row true k (es++ys)] (fzL s.er.lk (AV.rows (s.er.ev yo)))):=by
 unfold bHz at h;split at h
 ·split at h
  ·rename_i t _;split at h
   ·rename_i hb;have hk:=ι hb;obtain⟨ys,h,hc⟩:=lX h;obtain⟨hsz,h⟩:=aX h;refine⟨[],rfl,ys.map t.ds,by rw[hy];exact hc,fun _ h=>(by cases h),hk▸uC t ys,by rw[μ];simpa using hsz,?_⟩;rw[if_neg (fun h=>h.2 rfl),hy,aD0,qQ];have:=hK _ _ _ h;have e:(XV.slw (.O s.own.length) t ys.length).er=.sl (.O s.own.length) k 0 (([]:List (List DV)).length+(ys.map t.ds).length):=by show AV.sl (.O s.own.length) t.n 0 ys.length=_;rw[hk,μ,List.length_nil,bf]
    rw[e]at this;have e2:([XB.row true t ys].map XB.er)=[Blk.row true k ([]++ys.map t.ds)]:=by show[Blk.row true t.n (ys.map t.ds)]=_;rw[hk];rfl
    rw[e2]at this;exact this
   ·cases h
  ·cases h
 ·rename_i t xs;split at h
  ·rename_i hb;have hk:=ι hb;obtain⟨ys,h,hc⟩:=lX h;split at h
   ·cases h
   ·rename_i y0 yr;obtain⟨hsz,h⟩:=aX h;refine⟨xs.map t.ds,rfl,(y0::yr).map t.ds,by rw[hy];exact hc,hk▸uC t xs,hk▸uC t (y0::yr),by rw[μ,μ];exact hsz,?_⟩;rw[if_neg (fun h=>by cases h.1),hy,aD0,qQ];have:=hK _ _ _ h;have e:(XV.slw (.O s.own.length) t (xs++y0::yr).length).er=.sl (.O s.own.length) k 0 ((xs.map t.ds).length+((y0::yr).map t.ds).length):=by show AV.sl (.O s.own.length) t.n 0 (xs++y0::yr).length=_;rw[hk,μ,μ,κ]
    rw[e]at this;have e2:([XB.row true t (xs++y0::yr)].map XB.er)=[Blk.row true k (xs.map t.ds++(y0::yr).map t.ds)]:=by show[Blk.row true t.n ((xs++y0::yr).map t.ds)]=_;rw[hk,bn]
    rw[e2]at this;exact this
  ·cases h
 ·cases h
def bFk{α:Type}(xs:List α)(off len:Nat)(ys:List α):List α:=xs.take off++ys.take (min ys.length len)++xs.drop (off+min ys.length len)
def aLt(s:XS)(k:Nat)(vy:XV)(dst:Option Nat)(K:XS->Option R)(h:Hd)(t:Ty)(off len:Nat):Option R:=match s.lk h with
 |some (.row true t' xs)=>match t'.beq t,bb t'.n k with
  |true,true=>gd? (off+len<=xs.length) (qK s t' vy fun ys=>K ((s.setBlk h (some (.row true t' (bFk xs off len ys)))).put dst (.d (.i .i64) (min ys.length len:Nat)) [] []))
  |_,_=>none
 |_=>none
def aZf(s:XS)(k:Nat)(vy:XV)(dst:Option Nat)(K:XS->Option R):XV->Option R
 |.slw h t len=>aLt s k vy dst K h t 0 len
 |.sl h t off len=>aLt s k vy dst K h t off len
 |.asl h off len=>match s.lk h with
  |some (.arr true n kd x)=>match bb 1 k with
   |true=>gd? (off+len<=n) (qK s (.i kd) vy fun ys=>K ((s.setBlk h (some (.arr true n kd (x.put off (ys.take (min ys.length len)))))).put dst (.d (.i .i64) (min ys.length len:Nat)) [] []))
   |false=>none
  |_=>none
 |.rsl h off l len=>match s.lk h with
  |some (.rb true t x)=>match bb 1 k,aAs (lvs t x) off with
   |true,some a=>gd? (l+len<=a.n) (qK s (.i a.k) vy fun ys=>match aMv (lvs t x) off [.d (.ar a.n a.k) (a.x.put l (ys.take (min ys.length len)))] a.n with
    |some q=>match pkD t q with
     |some (y,[])=>K ((s.setBlk h (some (.rb true t y))).put dst (.d (.i .i64) (min ys.length len:Nat)) [] [])
     |_=>none
    |none=>none)
   |_,_=>none
  |_=>none
 |_=>none
theorem aYf{l p:List α}{i:Nat}(h:off+n<=l.length)(hi:i+p.length<=n):l.take off++(((l.drop off).take n).take i++p++((l.drop off).take n).drop (i+p.length))++l.drop (off+n)=l.take (off+i)++p++l.drop (off+i+p.length):=by
 have e1:l.take (off+i)=l.take off++(l.drop off).take i:=by rw[List.take_add]
 have e2:((l.drop off).take n).take i=(l.drop off).take i:=by rw[List.take_take,Nat.min_eq_left (by omega)]
 have e3:l.drop (off+i+p.length)=((l.drop off).take n).drop (i+p.length)++l.drop (off+n):=by
  have h1:l.drop (off+i+p.length)=(l.drop off).drop (i+p.length):=by rw[dh,fb]
  have h2:l.drop (off+n)=(l.drop off).drop n:=by rw[dh]
  rw[h1,h2];have h3:l.drop off=(l.drop off).take n++(l.drop off).drop n:=(List.take_append_drop _ _).symm;have h4:((l.drop off).take n).length=n:=by rw[bu,aq];omega
  conv=>lhs;rw[h3]
  rw[ee (by omega)]
 rw[e1,e2,e3];simp only[υ]
theorem aKz[YL]{K:XS->Option R}{r:R}{len:Nat}(hy:s.er.ev yo=vy.er)(h:aLt s k vy dst K hd t off len=some r)(hK:∀s',K s'=some r->KP s'.er):aKp s.er k yo dst KP (.sl hd t.n off len):=by
 unfold aLt at h;split at h
 ·rename_i t' xs hl;split at h
  ·rename_i hb hb2;obtain rfl:=Ty.eq_of hb;have hk:=ι hb2;obtain⟨h1,h⟩:=aX h;obtain⟨ys,h,hc⟩:=lX h;refine⟨hk,xs.map t'.ds,ys.map t'.ds,by rw[aT,hl,<-hk];rfl,by rw[μ];exact h1,by rw[hy];exact hc,hk▸uC t' ys,by rw[<-br];exact aUi t' _,?_⟩;have:=hK _ h;rw[cY,cA hl]at this;have e:(some (XB.row true t' (bFk xs off len ys))).map XB.er=some (.row true k ((xs.map t'.ds).take off++(ys.map t'.ds).take (min (ys.map t'.ds).length len)++(xs.map t'.ds).drop (off+min (ys.map t'.ds).length len))):=by show some (Blk.row true t'.n ((bFk xs off len ys).map t'.ds))=_;unfold bFk;rw[hk,bn,bn,br,br,b6,μ]
   rw[e]at this;have e2:(XV.d (.i .i64) ((min ys.length len:Nat):Int)).er=.D (.I .i64 (min (ys.map t'.ds).length len:Nat)):=by rw[μ];rfl
   rw[e2]at this;exact this
  ·cases h
 ·cases h
theorem aZ4[YL]{K:XS->Option R}{r:R}(hy:s.er.ev yo=vy.er)(h:aZf s k vy dst K a=some r)(hK:∀s',K s'=some r->KP s'.er):aKp s.er k yo dst KP a.er:=by
 unfold aZf at h;split at h
 ·exact aKz hy h hK
 ·exact aKz hy h hK
 ·rename_i hd off len;split at h
  ·rename_i n kd x hl;split at h
   ·rename_i hb;obtain rfl:=ι hb;obtain⟨h1,h⟩:=aX h;obtain⟨ys,h,hc⟩:=lX h;refine⟨rfl,x.l.map (arD kd),ys.map (Ty.i kd).ds,by rw[aT,hl];rfl,by rw[μ,x.len];exact h1,by rw[hy];exact hc,uC (.i kd) ys,by rw[<-br];exact aUi (.i kd) _,?_⟩;have:=hK _ h;rw[cY,cA hl]at this;have hm:(ys.take (min ys.length len)).length=min ys.length len:=by rw[bu];omega
    have e:(some (XB.arr true n kd (x.put off (ys.take (min ys.length len))))).map XB.er=some (.row true 1 ((x.l.map (arD kd)).take off++(ys.map (Ty.i kd).ds).take (min (ys.map (Ty.i kd).ds).length len)++(x.l.map (arD kd)).drop (off+min (ys.map (Ty.i kd).ds).length len))):=by show some (Blk.row true 1 ((x.put off (ys.take (min ys.length len))).l.map (arD kd)))=_;rw[Arr.l_put (by rw[hm];omega),bn,bn,hm,br,br,b6,μ];rfl
    rw[e]at this;have e2:(XV.d (.i .i64) ((min ys.length len:Nat):Int)).er=.D (.I .i64 (min (ys.map (Ty.i kd).ds).length len:Nat)):=by rw[μ];rfl
    rw[e2]at this;exact this
   ·cases h
  ·cases h
 ·rename_i hd off l len;split at h
  ·rename_i t x hl;split at h
   ·rename_i a hb ha;obtain rfl:=ι hb;obtain⟨h1,h⟩:=aX h;obtain⟨ys,h,hc⟩:=lX h;split at h
    ·rename_i q hu;split at h
     ·rename_i y hp;obtain⟨c1,c2⟩:=uN hu;obtain⟨d1,d2⟩:=aBi ha;obtain⟨l1,e1,e2⟩:=sW hp;rw[χ]at e1;subst e1;have hm:(ys.take (min ys.length len)).length=min ys.length len:=by rw[bu];omega
      have hp1:(((ys.take (min ys.length len)).map (DV.I a.k)).map AV.D).length=min ys.length len:=by rw[μ,μ,hm]
      have e3:XV.fcL [XV.d (.ar a.n a.k) (a.x.put l (ys.take (min ys.length len)))]=((((XV.fcL (lvs t x)).drop off).take a.n).take l++((ys.take (min ys.length len)).map (DV.I a.k)).map .D++(((XV.fcL (lvs t x)).drop off).take a.n).drop (l+(((ys.take (min ys.length len)).map (DV.I a.k)).map AV.D).length)):=by rw[d1,hp1];show(((a.x.put l (ys.take (min ys.length len))).l.map (DV.I a.k)).map AV.D)++[]=_;rw[χ,Arr.l_put (by rw[hm];omega),hm];simp only[bn,br,b6]
      have e4:=aYf (p:=((ys.take (min ys.length len)).map (DV.I a.k)).map AV.D) d2 (i:=l) (by rw[hp1];omega);rw[<-e3,<-c2,hp1,cX]at e4;have e5:t.ds y=(t.ds x).take (off+l)++(ys.take (min ys.length len)).map (DV.I a.k)++(t.ds x).drop (off+l+min ys.length len):=by refine nJ ?_;rw[<-e2,e4];simp only[bn,br,b6]
      rw[cX,μ]at d2;refine⟨rfl,sgD (t.ds x),ys.map (Ty.i a.k).ds,by rw[aT,hl];rfl,by rw[yF];omega,by rw[hy];exact hc,uC (.i a.k) ys,by rw[<-br];exact aUi (.i a.k) _,?_⟩;have:=hK _ h;rw[cY,cA hl]at this;have e:(some (XB.rb true t y)).map XB.er=some (.row true 1 ((sgD (t.ds x)).take (off+l)++(ys.map (Ty.i a.k).ds).take (min (ys.map (Ty.i a.k).ds).length len)++(sgD (t.ds x)).drop (off+l+min (ys.map (Ty.i a.k).ds).length len))):=by show some (Blk.row true 1 (sgD (t.ds y)))=_;rw[e5,μ];unfold sgD;simp only[bn,br,b6,fq];rfl
      rw[e]at this;have e6:(XV.d (.i .i64) ((min ys.length len:Nat):Int)).er=.D (.I .i64 (min (ys.map (Ty.i a.k).ds).length len:Nat)):=by rw[μ];rfl
      rw[e6]at this;exact this
     ·cases h
    ·cases h
   ·cases h
  ·cases h
 ·cases h
def aUh(s:XS)(k:Nat)(zs:List DV)(dst:Option Nat)(K:XS->Option R)(h:Hd)(t:Ty)(off len:Nat):Option R:=match s.lk h with
 |some (.row true t' xs)=>match t'.beq t,bb t'.n k,zeq (zs.map .D) ((t'.ds t'.z).map .D)with
  |true,true,true=>gd? (off+len<=xs.length) (K ((s.setBlk h (some (.row true t' (xs.take off++bg len t'.z++xs.drop (off+len))))).put dst .any [] []))
  |_,_,_=>none
 |_=>none
def bIu(s:XS)(k:Nat)(zs:List DV)(dst:Option Nat)(K:XS->Option R):XV->Option R
 |.slw h t len=>aUh s k zs dst K h t 0 len
 |.sl h t off len=>aUh s k zs dst K h t off len
 |_=>none
theorem aPs[YL]{zs:List DV}{K:XS->Option R}{r:R}{len:Nat}(h:aUh s k zs dst K hd t off len=some r)(hK:∀s',K s'=some r->KP s'.er):aDf s.er k zs dst KP (.sl hd t.n off len):=by
 unfold aUh at h;split at h
 ·rename_i t' xs hl;split at h
  ·rename_i hb hb2 hz;obtain rfl:=Ty.eq_of hb;have hk:=ι hb2;have hz:=nJ (aHn hz);obtain⟨h1,h⟩:=aX h;refine⟨hk,xs.map t'.ds,by rw[aT,hl,<-hk];rfl,by rw[μ];exact h1,?_⟩;have:=hK _ h;rw[cY,cA hl]at this;have e:(some (XB.row true t' (xs.take off++bg len t'.z++xs.drop (off+len)))).map XB.er=some (.row true k ((xs.map t'.ds).take off++bg len zs++(xs.map t'.ds).drop (off+len))):=by show some (Blk.row true t'.n ((xs.take off++bg len t'.z++xs.drop (off+len)).map t'.ds))=_;rw[hk,bn,bn,gn,br,b6,hz]
   rw[e]at this;exact this
  ·cases h
 ·cases h
theorem bC7[YL]{zs:List DV}{K:XS->Option R}{r:R}(h:bIu s k zs dst K a=some r)(hK:∀s',K s'=some r->KP s'.er):aDf s.er k zs dst KP a.er:=by
 unfold bIu at h;split at h
 ·exact aPs h hK
 ·exact aPs h hK
 ·cases h
def bHn{α:Type}[DecidableEq α]:List α->α->List α
 |[],_=>[]
 |x::l,y=>if x=y then bHn l y else x::bHn l y
def bLb(V:Ty):XV->Option V.T
 |.d t x=>t.cst V x
 |.agg cs=>match nW V with
  |true=>none
  |false=>match pkD V cs with
   |some (x,[])=>some x
   |_=>none
 |_=>none
def isO:Ty->Bool
 |.o _=>true
 |_=>false
def bKa{α:Type}[DecidableEq α](hole:Option α)(y:α)(K:Option R):Option R:=match hole with
 |none=>K
 |some z=>gd? (z=y) K
def bN4(s:XS)(wr:Bool)(V:Ty)(vz:XV)(K:V.T->Option Hd->Option R):Option R:=match V,K with
 |.o t,K=>match vz with
  |.slw hr t' len=>match s.lk hr with
   |some (.row mt t2 xs)=>match t2.beq t'&&(!wr||mt),(Ty.sl t2).cst (.sl t) xs with
    |true,some x=>gl? len xs (K x (some hr))
    |_,_=>none
   |_=>none
  |_=>none
 |V,K=>match bLb V vz with
  |some x=>K x none
  |none=>none
def bLf(s:XS)(h:Hd)(b:XB)(hr:Option Hd)(K:XS->Option R):Option R:=match hr with
 |none=>K (s.setBlk h (some b))
 |some a=>match a.eqb h with
  |true=>none
  |false=>K ((s.setBlk a none).setBlk h (some b))
def bHi(s:XS)(h:Hd)(wr:Bool)(K0 V:Ty)(es:List (K0.T×V.T))(hole:Option K0.T)(y:K0.T)(vz:XV)(K:XS->Option R):Option R:=
 bN4 s wr V vz fun x hr=>bKa hole y (bLf s h (.mp wr K0 V (bKu es y x) none none) hr K)
def bO3(s:XS)(kd:KD)(vy vz:XV)(K:XS->Option R):XV->Option R
 |.mref h=>match s.lk h with
  |some (.mp wr K0 V es hole i)=>match aDx K0&&kdB K0.kd kd&&bM3 wr i,aV2 K0 vy with
   |true,some y=>bHi s h wr K0 V es hole y vz K
   |_,_=>none
  |_=>none
 |_=>none
def bKd{α:Type}[DecidableEq α](y:α):Option (Hd×Option α×List α)->Option (Hd×Option α×List α)
 |none=>none
 |some (hi,_,rem)=>some (hi,none,bHn rem y)
def bOz(s:XS)(kd:KD)(vy:XV)(K:XS->Option R):XV->Option R
 |.mref h=>match s.lk h with
  |some (.mp false K0 V es none i)=>match aDx K0&&kdB K0.kd kd,aV2 K0 vy with
   |true,some y=>K (s.setBlk h (some (.mp false K0 V (bL8 es y) none (bKd y i))))
   |_,_=>none
  |_=>none
 |_=>none
def bO9(s:XS)(kd:KD)(dst:Option Nat)(K:XS->Option R):XV->Option R
 |.mref h=>match s.lk h with
  |some (.mp wr K0 V es hole i)=>match kdB K0.kd kd&&(!wr||(i.isNone&&hole.isNone))with
   |true=>K ((s.setBlk h (some (.mp wr K0 V es hole (some (.O s.own.length,none,es.map (·.1)))))).put dst (.itr h (.O s.own.length)) [.it] [])
   |false=>none
  |_=>none
 |_=>none
def bOa(s:XS)(kd:KD)(z:AV)(k:Nat)(ok:Bool)(vy:XV)(dst:Option Nat)(K:XS->Option R):XV->Option R
 |.mref h=>match ok,s.lk h with
  |false,some (.mp wr K0 (.o t) es none i)=>match aDx K0&&kdB K0.kd kd&&zeq [z] [.D (.L [])]&&bb t.n k&&bM3 wr i,aV2 K0 vy with
   |true,some y=>K ((s.setBlk h (some (.mp wr K0 (.o t) es (some y) i))).put dst (.slw (.O s.own.length) t ((aAy es y).getD []).length) [.row wr t ((aAy es y).getD [])] [])
   |_,_=>none
  |_,_=>none
 |_=>none
def bO2(s:XS)(dst:Option Nat)(K:XS->Option R):XV->Option R
 |.itr h hi=>match s.lk h,s.lk hi with
  |some (.mp true K0 (.o t) es none (some (hi',some cur,rem))),some _=>match aDx K0&&hi.eqb hi' with
   |true=>gd? (¬cur∈rem)<|bd? (aAy es cur) fun v=>K ((s.setBlk h (some (.mp true K0 (.o t) es none (some (hi,none,rem))))).put dst (.tup [aC8 K0 cur,.slw (.O s.own.length) t v.length]) [.row true t v] [])
   |false=>none
  |_,_=>none
 |_=>none
end
section
variable{R:Type}
def bIa(vr:Hd->Option Nat)(s:XS):Nat->List (Option XB)->List (Option Hd)->List (Option Hd)
 |_,[],l=>l
 |i,m::r,l=>bIa vr s (i+1) r (match bJx l i,m with
  |some h,some (.box ms)=>match s.lk h with
   |some (.box cs)=>bCi vr ms cs l
   |_=>l
  |_,_=>l)
def aZt:List (Option Hd)->Option (List Hd)
 |[]=>some []
 |some h::r=>match aZt r with
  |some l=>some (h::l)
  |none=>none
 |none::_=>none
def aNu:List Hd->Bool
 |[]=>true
 |h::r=>!(hin h r)&&aNu r
theorem aK1:∀{l:List Hd},aNu l=true->l.Nodup
 |[],_=>ju
 |h::r,e=>by unfold aNu at e;rw[ν,dc]at e;exact eu.2 ⟨fun q=>(by rw[uE.2 q]at e;cases e.1),aK1 e.2⟩
def aOj(s:XS):List Hd->List (Option XB)
 |[]=>[]
 |h::r=>s.lk h::aOj s r
theorem aT8[YL](s:XS):∀hs:List Hd,erB (aOj s hs)=hs.map s.er.lk
 |[]=>rfl
 |h::r=>by show(s.lk h).map XB.er::erB (aOj s r)=s.er.lk h::r.map s.er.lk;rw[aT,aT8 s r]
theorem aRb(s:XS):∀(hs:List Hd) (i:Nat),bG (aOj s hs) i=(hs[i]?).bind s.lk
 |[],_=>by simp[aOj,bG]
 |h::r,0=>rfl
 |h::r,i+1=>by show bG (aOj s r) i=_;rw[aRb s r i];simp
def okH(s:XS):List Hd->Bool
 |[]=>true
 |h::r=>(match s.lk h with
  |some .it=>false
  |some _=>true
  |none=>false)&&okH s r
theorem aY6[YL]{s:XS}:∀{hs:List Hd},okH s hs=true->∀h∈hs,∃b,s.lk h=some b/\b.er.isIt=false
 |[],_,_,h=>by cases h
 |x::r,e,h,hh=>by
  unfold okH at e;rw[ν]at e;rcases bw.1 hh with rfl|hh
  ·have e:=e.1;split at e
   ·cases e
   ·rename_i b hn hl;refine⟨b,hl,?_⟩;cases b with
    |it=>exact(hn rfl).elim
    |_=>rfl
   ·cases e
  ·exact aY6 e.2 h hh
def XB.hr:XB->List Hd
 |.box cs=>XV.hrL cs
 |_=>[]
theorem bI6[YL](b:XB):b.er.rows=b.hr:=by
 cases b with
 |box cs=>exact aNf cs
 |_=>rfl
def wF(s:XS):List Hd->List Hd
 |[]=>[]
 |h::r=>(match s.lk h with
  |some b=>b.hr
  |none=>[])++wF s r
theorem aD2[YL](s:XS):∀hs:List Hd,uY s.er.lk hs=wF s hs
 |[]=>rfl
 |h::r=>by
  unfold uY wF;rw[aD2 s r,aT];cases s.lk h with
  |none=>rfl
  |some b=>exact congrArg (· ++_) (bI6 b)
def aKu(hs:List Hd):List Hd->List Hd
 |[]=>[]
 |h::r=>match hin h hs with
  |true=>aKu hs r
  |false=>h::aKu hs r
theorem aF4(hs:List Hd):∀l:List Hd,l.filter (fun h=>decide (h∉hs))=aKu hs l
 |[]=>rfl
 |h::r=>by
  rw[List.filter_cons];unfold aKu;cases hq:hin h hs with
  |true=>rw[if_neg (by simp[uE.1 hq])];exact aF4 hs r
  |false=>rw[if_pos (by simp only[decide_eq_true_eq];exact fun q=>by rw[uE.2 q]at hq;cases hq),aF4 hs r]
def tU(ψ:Hd->Hd):List Hd->List (Option XB)->XS->XS
 |h::hs,b::bs,s=>tU ψ hs bs (s.setBlk h (match b with
  |some b=>some (b.ren ψ)
  |none=>none))
 |_,_,s=>s
def inR(s:XS):Hd->Prop
 |.B i=>i<s.bs.length
 |.O i=>i<s.own.length
theorem bIh{b:XB}(hl:s.lk h=some b):inR s h:=by
 cases h with
 |B i=>exact sA (l:=s.bs) hl
 |O i=>exact sA (l:=s.own) hl
theorem aR6[YL](hl:inR s h)(b:Option XB):(s.setBlk h b).er=s.er.setBlk h (b.map XB.er):=by
 cases h with
 |B i=>
  refine AState.ext' (fun _=>rfl) (fun j=>?_) (fun _=>rfl) rfl;show(bG (xL s.bs i b) j).map XB.er=if j=i then b.map XB.er else(bG s.bs j).map XB.er
  rw[qM _ _ _ _ hl];split<;>rfl
 |O i=>
  refine AState.ext' (fun _=>rfl) (fun _=>rfl) (fun j=>?_) (wH _ _ _);show(bG (xL s.own i b) j).map XB.er=if j=i then b.map XB.er else(bG s.own j).map XB.er
  rw[qM _ _ _ _ hl];split<;>rfl
theorem bCt{h':Hd}(hl:inR s h')(b:Option XB):inR (s.setBlk h b) h':=by
 cases h with
 |B i=>cases h' with
  |B j=>show j<(xL s.bs i b).length;rw[wH];exact hl
  |O j=>exact hl
 |O i=>cases h' with
  |B j=>exact hl
  |O j=>show j<(xL s.own i b).length;rw[wH];exact hl
theorem aEm[YL](ψ:Hd->Hd):∀(hs:List Hd) (bs:List (Option XB)) (s:XS),(∀h∈hs,inR s h)->(tU ψ hs bs s).er=bS s.er ψ hs (erB bs)
 |[],bs,s,_=>by unfold tU bS;rfl
 |h::hs,[],s,_=>by unfold tU bS;rfl
 |h::hs,b::bs,s,hr=>by
  have h1:=hr h gz;show(tU ψ hs bs (s.setBlk h _)).er=bS (s.er.setBlk h ((b.map XB.er).map (Blk.ren ψ))) ψ hs (erB bs);rw[aEm ψ hs bs _ (fun x hx=>bCt (hr x (jd _ hx)) _),aR6 h1];cases b with
  |none=>rfl
  |some b=>
   show bS (s.er.setBlk h (some (b.ren ψ).er)) ψ hs (erB bs)=_;rw[aN7];rfl
def aGc(s:XS)(hs:List Hd)(vs:List XV)(dst:Option Nat)(o:XS)(bl:List XB):XS:=
 (tU (bF hs s.own.length) hs o.bs (s.put none .un [] (aKu hs (xfz s (XV.hrL vs++wF s hs))))).put dst ((XV.val o.env).ren (bF hs s.own.length)) (bl.map (XB.ren (bF hs s.own.length))) []
theorem bC5(hl:inR s h)(fz:List Hd):inR (s.put none .un [] fz) h:=by
 cases h with
 |B i=>
  show i<(match fz with|[]=>s.bs|fz=>yK .B fz 0 s.bs).length;cases fz with
  |nil=>exact hl
  |cons x r=>show i<(yK .B (x::r) 0 s.bs).length;rw[wY];exact hl
 |O i=>
  show i<((match fz with|[]=>s.own|fz=>yK .O fz 0 s.own)++([]:List XB).map some).length;rw[κ];cases fz with
  |nil=>exact dw hl (gy _ _)
  |cons x r=>
   show i<(yK .O (x::r) 0 s.own).length+_;rw[wY];exact dw hl (gy _ _)
theorem aWy[YL](hr:∀h∈hs,inR s h)(vs:List XV)(dst:Option Nat)(o:XS)(bl:List XB):(aGc s hs vs dst o bl).er=eX s.er hs (XV.erL vs) dst (XV.val o.env).er (erB o.bs) (bl.map XB.er):=by
 have e:fzE s.er.lk hs (XV.erL vs)=aKu hs (xfz s (XV.hrL vs++wF s hs)):=by unfold fzE;rw[aF4,zT,aD2,qQ]
 unfold aGc eX;rw[cY,aEm _ _ _ _ (fun h hh=>bC5 (hr h hh) _),cY,aM5,bGb,e];rfl
def aVd(s:XS)(hs:List Hd)(vs:List XV)(dst:Option Nat)(K:XS->Option R)(o:XS):Option R:=match bb o.bs.length hs.length,aPv o.own,o.pv with
 |true,some bl,none=>K (aGc s hs vs dst o bl)
 |_,_,_=>none
def aFw(s:XS)(g:Sig)(vs:List XV)(dst:Option Nat)(K:XS->Option R)(hs:List Hd):Option R:=match aNu hs&&aJt s.own.length hs&&okH s hs&&zJ 0 g.ent.env vs,g.ent.own with
 |true,[]=>rdK s (yP hs) g.ent (tV vs) (aOj s hs) [] fun v=>bd? (apF g.ent.tys g.F v) fun r=>bE5 g.out r (aVd s hs vs dst K)
 |_,_=>none
def aSl(T:List Sig)(s:XS)(vs:List XV)(dst:Option Nat)(K:XS->Option R):XV->Option R
 |.clo fn caps=>match aWm T fn (vs++caps)with
  |some g=>match aZt (bIa vrB s 0 g.ent.bs (aYk vrB (tV (vs++caps)) g.ent.env (aQv g.ent.bs)))with
   |some hs=>aFw s g (vs++caps) dst K hs
   |none=>none
  |none=>none
 |_=>none
theorem aXi:∀h h' b,yP hs h=some h'->s.lk h=some b->match h' with|.B i=>bG (aOj s hs) i=some b|.O i=>bG [] i=some b:=fun h h' b e hl=>by have e:(aDm h hs 0).map Hd.B=some h':=e;rw[θ]at e;obtain⟨i,hi,rfl⟩:=e;obtain⟨_,h2⟩:=xU hi;show bG (aOj s hs) i=some b;rw[aRb,show hs[i]?=some h from h2];exact hl
theorem aHk[YL]{g:Sig}{K:XS->Option R}{r:R}{hds:List Hd}(h:aFw s g vs dst K hds=some r):
  ∃v rr bl,apF g.ent.tys g.F v=some rr/\(bl.map XB.er).map some=erB (dA g.out rr).own/\(dA g.out rr).pv=none/\(g.ent.fill v).env.map (fun p=>p.2.er)=AV.convL s.er.lk (yP hds) (XV.erL vs)/\sH s.er.lk hds=erB (g.ent.fill v).bs/\
   hds.Nodup/\aJt s.er.nx hds=true/\(∀h∈hds,(s.er.lk h).isSome=true)/\(∀h∈hds,(s.er.lk h).any Blk.isIt=false)/\(erB (dA g.out rr).bs).length=hds.length/\
   K (aGc s hds vs dst (dA g.out rr) bl)=some r/\(aGc s hds vs dst (dA g.out rr) bl).er=eX s.er hds (XV.erL vs) dst (XV.val (dA g.out rr).env).er (erB (dA g.out rr).bs) (bl.map XB.er):=by
 unfold aFw at h;split at h
 case h_2=>cases h
 rename_i hb ho;rw[ν,ν,ν]at hb;obtain⟨⟨⟨b1,b2⟩,b3⟩,b4⟩:=hb;obtain⟨v,h,e1,e2,_⟩:=aZx aXi h;obtain⟨rr,hr,h⟩:=bJr h;have h:=aMk h;unfold aVd at h;split at h
 case h_2=>cases h
 rename_i bl hlen hbl hpv;have hlen:=ι hlen;have hargs:(g.ent.fill v).env.map (fun p=>p.2.er)=AV.convL s.er.lk (yP hds) (XV.erL vs):=by have:=congrArg (fun l=>l.map (fun p:Nat×AV=>p.2)) e1;simp only[fq]at this;rw[aI9,<-aCz (f:=fun v=>AV.conv s.er.lk (yP hds) v.er) b4 (ev:=tV vs) fun i _=>by rw[bf]];exact this
 have hh:sH s.er.lk hds=erB (g.ent.fill v).bs:=by rw[e2,aT8,fq];rfl
 have hlive:=aY6 b3;refine⟨v,rr,bl,hr,aF1 hbl,hpv,hargs,hh,aK1 b1,b2,fun x hx=>?_,fun x hx=>?_,?_,h,?_⟩
 ·obtain⟨b,q,_⟩:=hlive x hx;rw[aT,q];rfl
 ·obtain⟨b,q,q2⟩:=hlive x hx;rw[aT,q];exact q2
 ·show(List.map _ _).length=_;rw[μ];exact hlen
 ·rw[aWy (fun x hx=>by obtain⟨b,q,_⟩:=hlive x hx;exact bIh q)]
theorem aW6[YL]{T:List Sig}(hT:jD P T){K:XS->Option R}{r:R}(h:aSl T s vs dst K vf=some r)(hK:∀s',K s'=some r->KP s'.er):aH9 P s.er dst KP (XV.erL vs) vf.er:=by
 unfold aSl at h;split at h
 case h_2=>cases h
 rename_i fn caps;split at h
 case h_2=>cases h
 rename_i g hg;obtain⟨hs,hfn⟩:=aFo hT hg;split at h
 case h_2=>cases h
 rename_i hds _;obtain⟨v,rr,bl,hr,hbl,hpv,hargs,hh,c1,c2,c3,c4,c5,hk,he⟩:=aHk h;have hcall:=hs v rr hr (bl.map XB.er) hbl;unfold aCm at hcall;rw[hpv]at hcall;rw[hargs,hfn,<-hh,pS]at hcall;refine⟨hds,_,_,_,c1,c2,c3,c4,c5,hcall,?_⟩;have:=hK _ hk;rw[he,pS]at this;exact this
structure XRO where
 ro:RO
 ty:Option Ty
def aHf(T:List Sig)(s:XS)(o:XRO)(K:XS->Option R):Option R:=
 match o.ro.op with
 |.store sz a x=>w1 s a fun va=>w1 s x fun vx=>match bMa vx va with
  |true=>aNb s sz vx K va
  |false=>aR9 s sz vx K va
 |.appE k bytes x y=>w1 s x fun vx=>w1 s y fun vy=>aNi s o.ty k bytes vy o.ro.dst K vx
 |.app k bytes x y=>w1 s x fun vx=>w1 s y fun vy=>bHz s o.ty k bytes vy (fun v nbs fz=>K (s.put o.ro.dst v nbs fz)) vx
 |.callE f args=>w1 s f fun vf=>wL s args fun vs=>aSl T s vs o.ro.dst K vf
 |.clr k zs x=>w1 s x (bIu s k zs o.ro.dst K)
 |.cpy k x y=>w1 s x fun vx=>w1 s y fun vy=>aZf s k vy o.ro.dst K vx
 |.mtake kd z k ok x y=>none
 |.mput kd x y z=>none
 |.mdel kd x y=>none
 |.rng kd x=>none
 |.entT x=>none
 |op=>xp T s o.ty op fun v nbs fz=>K (s.put o.ro.dst v nbs fz)
theorem aDc[YL]{T:List Sig}(hT:jD P T){o:XRO}{K:XS->Option R}{r:R}(h:aHf T s o K=some r)(hK:∀s',K s'=some r->KP s'.er):pP P s.er o.ro KP:=by
 have hput:∀v nbs fz,K (s.put o.ro.dst v nbs fz)=some r->KP (s.er.put o.ro.dst v.er (nbs.map XB.er) fz):=fun v nbs fz h=>by rw[<-cY];exact hK _ h
 unfold aHf at h;unfold pP;split at h
 ·rename_i sz a x e;obtain⟨h,e1⟩:=aS h;obtain⟨h,e2⟩:=aS h;rw[e];show pH s.er sz (s.er.ev x) KP (s.er.ev a)\/pH (s.er.put none .un [] (fzL s.er.lk (AV.rows (s.er.ev x)))) sz (AV.conv s.er.lk (fun _=>none) (s.er.ev x)) KP (s.er.ev a);split at h
  ·right;rw[e1];exact aR4 e2 h hK
  ·left;rw[e1];exact aV8 e2 h hK
 ·rename_i k bytes x y e;obtain⟨h,e1⟩:=aS h;obtain⟨h,e2⟩:=aS h;rw[e];show rU s.er k bytes y o.ro.dst KP (s.er.ev x);rw[e1];exact aTf e2 h hK
 ·rename_i k bytes x y e;obtain⟨h,e1⟩:=aS h;obtain⟨h,e2⟩:=aS h;rw[e];show∃es,s.er.ev x=.fl es/\_;rw[e1];exact bC9 e2 h (KP:=fun a nbs fz=>KP (s.er.put o.ro.dst a nbs fz)) hput
 ·rename_i f args e;obtain⟨h,e1⟩:=aS h;obtain⟨vs,h,e2⟩:=aEk h;rw[e];show aH9 P s.er o.ro.dst KP (args.map s.er.ev) (s.er.ev f);rw[e1,e2];exact aW6 hT h hK
 ·rename_i k zs x e;obtain⟨h,e1⟩:=aS h;rw[e];show aDf s.er k zs o.ro.dst KP (s.er.ev x);rw[e1];exact bC7 h hK
 ·rename_i k x y e;obtain⟨h,e1⟩:=aS h;obtain⟨h,e2⟩:=aS h;rw[e];show aKp s.er k y o.ro.dst KP (s.er.ev x);rw[e1];exact aZ4 e2 h hK
 ·cases h
 ·cases h
 ·cases h
 ·cases h
 ·cases h
 ·rename_i n1 n2 n3 n4 n5 n6 n7 n8 n9 n10 n11;have:=bLl hT h (KP:=fun a nbs fz=>KP (s.er.put o.ro.dst a nbs fz)) hput;split
  ·rename_i e;exact absurd e (n1 _ _ _)
  ·rename_i e;exact absurd e (n2 _ _ _ _)
  ·rename_i e;exact absurd e (n4 _ _)
  ·rename_i e;exact absurd e (n5 _ _ _)
  ·rename_i e;exact absurd e (n6 _ _ _)
  ·rename_i e;exact absurd e (n7 _ _ _ _ _ _)
  ·rename_i e;exact absurd e (n8 _ _ _ _)
  ·rename_i e;exact absurd e (n9 _ _ _)
  ·rename_i e;exact absurd e (n10 _ _)
  ·rename_i e;exact absurd e (n11 _)
  ·exact this
def pF(s:XS)(t:Nat)(q:Bool):XS:={s with env:=(t,.d .b q)::s.env}
theorem jS[YL]{t:Nat}{c:Bool}(h:cP s.env t=.d .b c)(e:c=q):(pF s t q).er=s.er:=by
 subst e;refine AState.ext' (fun i=>?_) (fun _=>rfl) (fun _=>rfl) rfl;show(if bb i t=true then XV.d .b c else cP s.env i).er=(cP s.env i).er;by_cases hi:i=t
 ·rw[if_pos (by rw[gm];exact hi),hi,h]
 ·rw[if_neg (by rw[gm];exact hi)]
def aBt(T:List Sig):List XRO->XS->(XS->Option R)->Option R
 |[],s,K=>K s
 |o::r,s,K=>match o.ro.guard with
  |none=>aHf T s o fun s'=>aBt T r s' K
  |some (t,want)=>match cP s.env t with
   |.d .b c=>match want with
    |true=>if? c (aHf T (pF s t true) o fun s'=>aBt T r s' K) (aBt T r ((pF s t false).put o.ro.dst .un [] []) K)
    |false=>if? c (aBt T r ((pF s t true).put o.ro.dst .un [] []) K) (aHf T (pF s t false) o fun s'=>aBt T r s' K)
   |.un=>aBt T r (s.put o.ro.dst .un [] []) K
   |_=>none
theorem lD[YL]{P:Program}{T:List Sig}(hT:jD P T){r:R}:∀{os:List XRO} {s:XS} {K:XS->Option R},aBt T os s K=some r->∀{KP:AState->Prop},(∀s',K s'=some r->KP s'.er)->kJ P (os.map XRO.ro) s.er KP
 |[],s,K,h,KP,hK=>hK _ h
 |o::os,s,K,h,KP,hK=>by
  unfold aBt at h;show kJ P (o.ro::os.map XRO.ro) s.er KP;unfold kJ;split at h
  ·rename_i hg;rw[hg];exact aDc hT h fun s' h=>lD hT h hK
  ·rename_i t want hg;rw[hg];split at h
   ·rename_i c hc;have ht:s.er.env t=.D (.B c):=by show(cP s.env t).er=_;rw[hc];rfl
    show match s.er.env t with
     |.D (.B c)=>(c=want->_)/\(¬c=want->_)
     |.D (.C (.tuple _))=>_
     |_=>False
    rw[ht];split at h
    ·rcases aNv h with⟨e,h⟩|⟨e,h⟩
     ·have:=aDc hT h (KP:=fun s'=>kJ P (os.map XRO.ro) s' KP) fun s' h=>lD hT h hK;rw[jS hc e]at this;exact⟨fun _=>this,fun h=>absurd e h⟩
     ·have:=lD hT h hK;rw[cY,jS hc e]at this;exact⟨fun h=>ct (e.symm.trans h),fun _=>this⟩
    ·rcases aNv h with⟨e,h⟩|⟨e,h⟩
     ·have:=lD hT h hK;rw[cY,jS hc e]at this;exact⟨fun h=>ct (e.symm.trans h),fun _=>this⟩
     ·have:=aDc hT h (KP:=fun s'=>kJ P (os.map XRO.ro) s' KP) fun s' h=>lD hT h hK;rw[jS hc e]at this;exact⟨fun _=>this,fun h=>absurd e h⟩
   ·rename_i hc;have ht:s.er.env t=.D (.C undef):=by show(cP s.env t).er=_;rw[hc];rfl
    have:=lD hT h hK;rw[cY]at this;show match s.er.env t with
     |.D (.B c)=>(c=want->_)/\(¬c=want->_)
     |.D (.C (.tuple _))=>_
     |_=>False
    rw[ht];exact this
   ·cases h
def bD1:Option XB->Option XB->Bool
 |some (.arr _ n _ _),some (.arr _ m _ _)=>bb n m
 |some (.rb _ t _),some (.rb _ t' _)=>t.beq t'
 |_,_=>false
theorem bC2[YL]{c:Option XB}(h:bD1 b c=true):keepB false (b.map XB.er) (c.map XB.er):=by
 unfold bD1 at h;split at h
 ·rename_i mt n k x mt' m k' y;have h:=ι h;subst h;show shp (some (Blk.row mt' 1 (y.l.map (arD k'))))=shp (some (Blk.row mt 1 (x.l.map (arD k))));unfold shp;simp only[μ,x.len,y.len]
 ·rename_i mt t x mt' t' y;obtain rfl:=Ty.eq_of h;show shp (some (Blk.row mt' 1 (sgD (t.ds y))))=shp (some (Blk.row mt 1 (sgD (t.ds x))));unfold shp;simp only[yF,Ty.ds_len]
 ·cases h
def aU3(s s':XS):List Hd->Bool
 |[]=>true
 |h::r=>bD1 (s.lk h) (s'.lk h)&&aU3 s s' r
theorem aP0[YL]{s s':XS}:∀{hs:List Hd},aU3 s s' hs=true->aLn false hs s.er s'.er
 |[],_=>fun _ h=>by cases h
 |h::r,e=>by
  have e:(bD1 (s.lk h) (s'.lk h)&&aU3 s s' r)=true:=e;rw[ν]at e;intro x hx;rcases bw.1 hx with rfl|hx
  ·rw[aT,aT];exact bC2 e.1
  ·exact aP0 e.2 x hx
def xhd:XV->Option Hd
 |.apt h _=>some h
 |.asl h _ _=>some h
 |.rpt h _=>some h
 |.rpa h _ _=>some h
 |.rsl h _ _ _=>some h
 |.ptr h _=>some h
 |.pa h _ _=>some h
 |.ept h _ _ _=>some h
 |.epa h _ _ _ _=>some h
 |.slw h _ _=>some h
 |.sl h _ _ _=>some h
 |_=>none
theorem aIa[YL](e:xhd v=some h):v.er.hd?=some h:=by unfold xhd at e;split at e<;>first|exact e|cases e
def ldX(hs:List Hd)(s:XS)(op:ROp):Bool:=match op.sArg with
 |none=>true
 |some x=>match xhd (s.ev x)with
  |some h=>hin h hs
  |none=>noG x
theorem bBb[YL](e:xhd v=none):v.er.hd?=none:=by
 cases v<;>first|rfl|(cases e;done)|skip
 rename_i t x;cases t<;>rfl
theorem aS5[YL]{op:ROp}(h:ldX hs s op=true):aY7 hs op s.er.ev:=by
 unfold ldX at h;unfold aY7;split at h
 ·rename_i e;rw[e];trivial
 ·rename_i x e;rw[e];split at h
  ·rename_i hd hx;intro h' e';rw[aDz s rfl,aIa hx]at e';cases e';exact uE.1 h
  ·rename_i hx;intro h' e';rw[aDz s rfl,bBb hx]at e';cases e'
def aMu(s:XS)(x:Operand)(K:List Hd):List Hd:=match xhd (s.ev x)with
 |some h=>match hin h K with
  |true=>K
  |false=>h::K
 |none=>K
def aTo:List XV->Nat->Option XV
 |[],_=>none
 |v::_,0=>some v
 |.d t _::r,off+1=>match lg t.n (off+1)with
  |true=>aTo r (off+1-t.n)
  |false=>none
 |_::r,off+1=>aTo r off
def ldP(s:XS)(ag:Option Nat)(dst:Option Nat)(x:Operand):XS:=match ag,s.ev x with
 |none,.ptr h off=>match s.lk h with
  |some (.box cs)=>match aTo cs off with
   |some v=>s.put dst v [] []
   |none=>s
  |_=>s
 |_,_=>s
def wE(s:XS):List XRO->List Hd
 |[]=>[]
 |o::r=>match o.ro.op with
  |.mv x=>wE (s.put o.ro.dst (s.ev x) [] []) r
  |.nilcS x=>aMu s x (wE (s.put o.ro.dst (s.ev x) [] []) r)
  |.loadS ag x=>aMu s x (wE (ldP s ag o.ro.dst x) r)
  |.faddrS _ x=>aMu s x (wE (s.put o.ro.dst (s.ev x) [] []) r)
  |.iaddr _ x _=>wE (s.put o.ro.dst (s.ev x) [] []) r
  |.faddr _ x=>wE (s.put o.ro.dst (s.ev x) [] []) r
  |.iaddrA _ _ x _=>wE (s.put o.ro.dst (s.ev x) [] []) r
  |op=>match op.sArg with
   |some x=>aMu s x (wE s r)
   |none=>wE s r
def bEw(v w:XV)(K:Option R):Option R:=match v,w with
 |.d t x,.d t' y=>match t'.cst t y with
  |some y=>gd? (x=y) K
  |none=>none
 |.slw h t n,.slw h' t' n'=>match h.eqb h',t.beq t' with
  |true,true=>gd? (n=n') K
  |_,_=>none
 |.ptr h o,.ptr h' o'=>match h.eqb h',bb o o' with
  |true,true=>K
  |_,_=>none
 |.apt h o,.apt h' o'=>match h.eqb h',bb o o' with
  |true,true=>K
  |_,_=>none
 |.rpt h o,.rpt h' o'=>match h.eqb h',bb o o' with
  |true,true=>K
  |_,_=>none
 |.mref h,.mref h'=>match h.eqb h' with
  |true=>K
  |false=>none
 |.fln _,.fln _=>K
 |.nl _,.nl _=>K
 |.sc,.sc=>K
 |.c x,.c y=>match cEq x y with
  |true=>K
  |false=>none
 |_,_=>none
theorem aTz[YL]{w:XV}{K:Option R}{r:R}(h:bEw v w K=some r):(v.fc=w.fc/\v.er=w.er)/\K=some r:=by
 unfold bEw at h;split at h
 ·split at h
  ·rename_i y hy;obtain⟨e,rfl⟩:=Ty.cst_ok hy;subst e;obtain⟨rfl,h⟩:=aX h;exact⟨⟨rfl,rfl⟩,by assumption⟩
  ·cases h
 ·split at h
  ·rename_i h1 h2;obtain rfl:=Hd.eqb_iff.1 h1;obtain rfl:=Ty.eq_of h2
   replace h:=aX h
   obtain⟨e,h⟩:=h;subst e;exact⟨⟨rfl,rfl⟩,h⟩
  ·cases h
 ·split at h
  ·rename_i h1 h2;obtain rfl:=Hd.eqb_iff.1 h1;obtain rfl:=ι h2;exact⟨⟨rfl,rfl⟩,h⟩
  ·cases h
 ·split at h
  ·rename_i h1 h2;obtain rfl:=Hd.eqb_iff.1 h1;obtain rfl:=ι h2;exact⟨⟨rfl,rfl⟩,h⟩
  ·cases h
 ·split at h
  ·rename_i h1 h2;obtain rfl:=Hd.eqb_iff.1 h1;obtain rfl:=ι h2;exact⟨⟨rfl,rfl⟩,h⟩
  ·cases h
 ·split at h
  ·rename_i h1;obtain rfl:=Hd.eqb_iff.1 h1;exact⟨⟨rfl,rfl⟩,h⟩
  ·cases h
 ·exact⟨⟨rfl,rfl⟩,h⟩
 ·exact⟨⟨rfl,rfl⟩,h⟩
 ·exact⟨⟨rfl,rfl⟩,h⟩
 ·split at h
  ·rename_i h1;obtain rfl:=aZ5 h1;exact⟨⟨rfl,rfl⟩,h⟩
  ·cases h
 ·cases h
def aVn:List XV->List XV->Option R->Option R
 |[],[],K=>K
 |v::vs,w::ws,K=>bEw v w (aVn vs ws K)
 |_,_,_=>none
theorem aO9[YL]{r:R}:∀{vs ws:List XV} {K:Option R},aVn vs ws K=some r->XV.erL vs=XV.erL ws/\K=some r
 |[],[],_,h=>⟨rfl,h⟩
 |v::vs,w::ws,K,h=>by
  obtain⟨⟨_,e⟩,h⟩:=aTz (K:=aVn vs ws K) h;obtain⟨e2,h⟩:=aO9 h;exact⟨by show v.er::XV.erL vs=w.er::XV.erL ws;rw[e,e2],h⟩
 |[],_::_,_,h=>by cases h
 |_::_,[],_,h=>by cases h
def eqX(v w:XV)(K:Option R):Option R:=match v,w with
 |.clo f vs,.clo f' ws=>match bb f f' with
  |true=>aVn vs ws K
  |false=>none
 |v,w=>bEw v w K
theorem bKj[YL]{w:XV}{K:Option R}{r:R}(h:eqX v w K=some r):v.fc=w.fc/\K=some r:=by
 unfold eqX at h;split at h
 ·split at h
  ·rename_i hf;obtain rfl:=ι hf;obtain⟨e,h⟩:=aO9 h;exact⟨by show[AV.clo _ (XV.erL _)]=[AV.clo _ (XV.erL _)];rw[e],h⟩
  ·cases h
 ·obtain⟨⟨e,_⟩,h⟩:=aTz h;exact⟨e,h⟩
def bD6:List XV->List XV->Option R->Option R
 |[],[],K=>K
 |v::vs,w::ws,K=>eqX v w (bD6 vs ws K)
 |_,_,_=>none
theorem aUu[YL]{r:R}:∀{vs ws:List XV} {K:Option R},bD6 vs ws K=some r->XV.fcL vs=XV.fcL ws/\K=some r
 |[],[],_,h=>⟨rfl,h⟩
 |v::vs,w::ws,K,h=>by
  obtain⟨e,h⟩:=bKj (K:=bD6 vs ws K) h;obtain⟨e2,h⟩:=aUu h;exact⟨by show v.fc++XV.fcL vs=w.fc++XV.fcL ws;rw[e,e2],h⟩
 |[],_::_,_,h=>by cases h
 |_::_,[],_,h=>by cases h
def bJi(b c:Option XB)(K:Option R):Option R:=match b,c with
 |some (.box vs),some (.box ws)=>bD6 vs ws K
 |some (.row mt t xs),some (.row mt' t' ys)=>match mt==mt',(Ty.sl t').cst (.sl t) ys with
  |true,some ys=>gd? (xs=ys) K
  |_,_=>none
 |some (.arr mt n k x),some (.arr mt' n' k' y)=>match mt==mt',(Ty.ar n' k').cst (.ar n k) y with
  |true,some y=>gd? (x=y) K
  |_,_=>none
 |some (.rb mt t x),some (.rb mt' t' y)=>match mt==mt',t'.cst t y with
  |true,some y=>gd? (x=y) K
  |_,_=>none
 |_,_=>none
theorem bDu[YL]{c:Option XB}{K:Option R}{r:R}(h:bJi b c K=some r):b.map XB.er=c.map XB.er/\K=some r:=by
 unfold bJi at h;split at h
 ·obtain⟨e,h⟩:=aUu h;exact⟨congrArg (fun l=>some (Blk.box l)) e,h⟩
 ·split at h
  ·rename_i ys h1 hy;obtain⟨e,hy⟩:=Ty.cst_ok hy;cases e;cases hy
   replace h:=aX h
   obtain⟨e,h⟩:=h;cases e;exact⟨by rw[eq_of_beq h1],h⟩
  ·cases h
 ·split at h
  ·rename_i y h1 hy;obtain⟨e,hy⟩:=Ty.cst_ok hy;cases e;cases hy
   replace h:=aX h
   obtain⟨e,h⟩:=h;cases e;exact⟨by rw[eq_of_beq h1],h⟩
  ·cases h
 ·split at h
  ·rename_i y h1 hy;obtain⟨e,hy⟩:=Ty.cst_ok hy;subst e;cases hy
   replace h:=aX h
   obtain⟨e,h⟩:=h;cases e;exact⟨by rw[eq_of_beq h1],h⟩
  ·cases h
 ·cases h
def aMo(s s':XS):List Hd->Option R->Option R
 |[],K=>K
 |h::r,K=>bJi (s.lk h) (s'.lk h) (aMo s s' r K)
theorem aKh[YL]{s s':XS}{r:R}:∀{hs:List Hd} {K:Option R},aMo s s' hs K=some r->aLn true hs s.er s'.er/\K=some r
 |[],_,h=>⟨fun _ h=>(by cases h),h⟩
 |x::hs,K,h=>by
  obtain⟨e,h⟩:=bDu (K:=aMo s s' hs K) h;obtain⟨e2,h⟩:=aKh h;refine⟨fun y hy=>?_,h⟩;rcases bw.1 hy with rfl|hy
  ·show s'.er.lk y=s.er.lk y;rw[aT,aT,e]
  ·exact e2 y hy
def bBy(ld:Bool)(s s':XS)(hs:List Hd)(K:Option R):Option R:=match ld with
 |true=>aMo s s' hs K
 |false=>match aU3 s s' hs with
  |true=>K
  |false=>none
theorem aX8[YL]{ld:Bool}{K:Option R}{r:R}(h:bBy ld s s' hs K=some r):aLn ld hs s.er s'.er/\K=some r:=by
 unfold bBy at h;split at h
 ·exact aKh h
 ·split at h
  ·rename_i e;exact⟨aP0 e,h⟩
  ·cases h
def aBf(s:XS)(o:XRO)(K:XS->Option R):Option R:=match o.ro.op with
 |.loadS ag x=>w1 s x fun v=>match xhd v with
  |some _=>aVb s ag (fun a=>K (s.put o.ro.dst a [] [])) v
  |none=>none
 |.faddrS off x=>w1 s x fun v=>match xhd v,vN s v with
  |some _,true=>aLv off (fun a=>K (s.put o.ro.dst a [] [])) v
  |_,_=>none
 |.lenS str x=>w1 s x fun v=>match xhd v,vN s v,aZi str v with
  |some _,true,some m=>K (s.put o.ro.dst (.d (.i .i64) (m:Int)) [] [])
  |_,_,_=>none
 |.nilcS x=>w1 s x fun v=>match xhd v,vN s v with
  |some _,true=>aU5 (fun a=>K (s.put o.ro.dst a [] [])) v
  |_,_=>none
 |_=>none
theorem aFs(s:XS)(dst:Option Nat)(v:XV)(h:Hd):(s.put dst v [] []).lk h=s.lk h:=by
 cases h with
 |B i=>rfl
 |O i=>show bG (s.own++[]) i=bG s.own i;rw[χ]
theorem aAm[YL]{o:XRO}{K:XS->Option R}{r:R}(h:aBf s o K=some r)(hK:∀s',(∀h,s'.lk h=s.lk h)->K s'=some r->KP s'.er):pP P s.er o.ro KP:=by
 have hput:∀v,K (s.put o.ro.dst v [] [])=some r->KP (s.er.put o.ro.dst v.er [] []):=fun v h=>by have:=hK _ (aFs s _ v) h;rw[cY]at this;exact this
 unfold aBf at h;split at h
 ·rename_i ag x e;obtain⟨h,e1⟩:=aS h;split at h
  ·rename_i hd hh;unfold pP;rw[e];show(s.er.ev x).hd?.isSome=true/\oW s.er.lk ag _ (s.er.ev x);rw[e1,aIa hh];exact⟨rfl,aHs h fun v h=>hput v h⟩
  ·cases h
 ·rename_i off x e;obtain⟨h,e1⟩:=aS h;split at h
  ·rename_i hd hh hl;unfold pP;rw[e];show(s.er.ev x).hd?.isSome=true/\AV.live s.er.lk (s.er.ev x)=true/\_;rw[e1,aIa hh];exact⟨rfl,jG hl,aLh h (KP:=fun a=>KP (s.er.put o.ro.dst a [] [])) fun v h=>hput v h⟩
  ·cases h
 ·rename_i str x e;obtain⟨h,e1⟩:=aS h;split at h
  ·rename_i hd m hh hl hm;unfold pP;rw[e];show(s.er.ev x).hd?.isSome=true/\AV.live s.er.lk (s.er.ev x)=true/\_;rw[e1,aIa hh];exact⟨rfl,jG hl,m,aNs hm,hput _ h⟩
  ·cases h
 ·rename_i x e;obtain⟨h,e1⟩:=aS h;split at h
  ·rename_i hd hh hl;unfold pP;rw[e];show(s.er.ev x).hd?.isSome=true/\AV.live s.er.lk (s.er.ev x)=true/\_;rw[e1,aIa hh];exact⟨rfl,jG hl,aQt h (KP:=fun a=>KP (s.er.put o.ro.dst a [] [])) fun v h=>hput v h⟩
  ·cases h
 ·cases h
def aR5(s:XS)(o:XRO)(K:XS->Option R):Option R:=match o.ro.guard with
 |none=>aBf s o K
 |some (t,want)=>match cP s.env t with
  |.d .b c=>match want with
   |true=>if? c (aBf (pF s t true) o K) (K ((pF s t false).put o.ro.dst .un [] []))
   |false=>if? c (K ((pF s t true).put o.ro.dst .un [] [])) (aBf (pF s t false) o K)
  |.un=>K (s.put o.ro.dst .un [] [])
  |_=>none
theorem aWc[YL]{o:XRO}{K:XS->Option R}{r:R}(h:aR5 s o K=some r)(hK:∀s',(∀h,s'.lk h=s.lk h)->K s'=some r->KP s'.er):kJ P [o.ro] s.er KP:=by
 unfold aR5 at h;unfold kJ;split at h
 ·rename_i hg;rw[hg];exact aAm h hK
 ·rename_i t want hg;rw[hg];split at h
  ·rename_i c hc;have ht:s.er.env t=.D (.B c):=by show(cP s.env t).er=_;rw[hc];rfl
   show match s.er.env t with
    |.D (.B c)=>(c=want->_)/\(¬c=want->_)
    |.D (.C (.tuple _))=>_
    |_=>False
   rw[ht];split at h
   ·rcases aNv h with⟨e,h⟩|⟨e,h⟩
    ·have:=aAm (P:=P) h fun s' e=>hK s' e;rw[jS hc e]at this;exact⟨fun _=>this,fun h=>absurd e h⟩
    ·have:=hK _ (fun x=>aFs (pF s t false) _ _ x) h;rw[cY,jS hc e]at this;exact⟨fun h=>ct (e.symm.trans h),fun _=>this⟩
   ·rcases aNv h with⟨e,h⟩|⟨e,h⟩
    ·have:=hK _ (fun x=>aFs (pF s t true) _ _ x) h;rw[cY,jS hc e]at this;exact⟨fun h=>ct (e.symm.trans h),fun _=>this⟩
    ·have:=aAm (P:=P) h fun s' e=>hK s' e;rw[jS hc e]at this;exact⟨fun _=>this,fun h=>absurd e h⟩
  ·rename_i hc;have ht:s.er.env t=.D (.C undef):=by show(cP s.env t).er=_;rw[hc];rfl
   show match s.er.env t with
    |.D (.B c)=>(c=want->_)/\(¬c=want->_)
    |.D (.C (.tuple _))=>_
    |_=>False
   rw[ht];have:=hK _ (fun x=>aFs s _ _ x) h;rw[cY]at this;exact this
  ·cases h
def bMf:ROp->Bool
 |.loadS _ _=>true
 |.faddrS _ _=>true
 |.nilcS _=>true
 |.lenS _ _=>true
 |_=>false
def aUg:Bool->List XRO->Bool
 |true,[]=>true
 |_,_=>false
theorem bAv{l:Bool}{os:List XRO}(h:aUg l os=true):¬(l=false\/os.map XRO.ro≠[]):=by
 unfold aUg at h;split at h
 ·simp
 ·cases h
def aK5(T:List Sig)(ld:Bool)(hs:List Hd)(lst:Bool):List XRO->XS->(XS->Option R)->Option R
 |[],s,K=>K s
 |o::r,s,K=>match ldX hs s o.ro.op with
  |true=>match bMf o.ro.op with
   |true=>aR5 s o fun s'=>aK5 T ld hs lst r s' K
   |false=>match o.ro.op.ht,aUg lst r with
    |true,false=>aBt T [o] s fun s'=>bBy ld s s' hs (aK5 T ld hs lst r s' K)
    |_,_=>aBt T [o] s fun s'=>aK5 T ld hs lst r s' K
  |false=>none
theorem aCc[YL]{P:Program}{T:List Sig}(hT:jD P T){ld:Bool}{hs:List Hd}{lst:Bool}{r:R}:∀{os:List XRO} {s:XS} {K:XS->Option R},aK5 T ld hs lst os s K=some r->∀{KP:AState->Prop},(∀s',K s'=some r->KP s'.er)->aVe P ld hs lst (os.map XRO.ro) s.er KP
 |[],s,K,h,KP,hK=>hK _ h
 |o::os,s,K,h,KP,hK=>by
  unfold aK5 at h;split at h
  ·rename_i e;split at h
   ·refine⟨aS5 e,aWc h fun s' e2 h=>⟨fun _ _ x hx=>?_,aCc hT h hK⟩⟩;rw[aT,aT,e2];exact keepB.refl _ _
   ·split at h
    ·refine⟨aS5 e,lD (os:=[o]) hT h fun s' h=>?_⟩;obtain⟨e2,h⟩:=aX8 h;exact⟨fun _ _=>e2,aCc hT h hK⟩
    ·rename_i hn;refine⟨aS5 e,lD (os:=[o]) hT h fun s' h=>⟨fun e1 e2=>?_,aCc hT h hK⟩⟩;cases e3:aUg lst os with
     |true=>exact absurd e2 (bAv e3)
     |false=>exact absurd e3 (hn e1)
  ·cases h
theorem AV.flat_renE{ψ:Hd->Hd}:∀(a:AV),AV.flat (AV.ren ψ a)=AV.flat a:=by
 intro a;apply AV.rec (motive_1:=fun a=>AV.flat (AV.ren ψ a)=AV.flat a) (motive_2:=fun as=>AV.flatL (AV.renL ψ as)=AV.flatL as)
 all_goals intros
 all_goals simp_all[AV.flat,AV.ren,AV.flatL,AV.renL]
def aGh(T:List Sig)(dr:Bool):List XRO->XS->(XS->Option R)->(Value->XS->Option R)->Option R
 |[],s,K,_=>K s
 |o::r,s,K,Kp=>match o.ro.op with
  |.callP f args=>match o.ro.guard with
   |none=>w1 s f fun vf=>wL s args fun vs=>aSd T s vs (fun v nbs fz=>match dr,flX v,nbs with
    |false,_,_=>aGh T dr r (s.put o.ro.dst v nbs fz) K Kp
    |true,true,[]=>aGh T dr r (s.put o.ro.dst v nbs fz) K Kp
    |true,_,_=>none) (fun pv=>Kp pv (s.put none .any [] [])) vf
   |some _=>none
  |.pan x=>match o.ro.guard with
   |none=>w1 s x fun v=>match v with
    |.c (.iface t u)=>Kp (.iface t u) s
    |_=>none
   |some _=>none
  |_=>aBt T [o] s fun s'=>aGh T dr r s' K Kp
theorem wC[YL]{P:Program}{T:List Sig}(hT:jD P T){dr:Bool}{r:R}{Pn:Value->AState->Prop}:∀{os:List XRO} {s:XS} {K:XS->Option R} {Kp:Value->XS->Option R},aGh T dr os s K Kp=some r->∀{KP:AState->Prop},(∀s',K s'=some r->KP s'.er)->(∀pv s',Kp pv s'=some r->Pn pv s'.er)->qY P dr (os.map XRO.ro) s.er KP Pn
 |[],s,K,_,h,KP,hK,_=>hK _ h
 |o::os,s,K,Kp,h,KP,hK,hP=>by
  unfold aGh at h;show qY P dr (o.ro::os.map XRO.ro) s.er KP Pn;unfold qY;split at h
  ·rename_i f args e;rw[e];split at h
   ·rename_i hg;refine⟨hg,?_⟩;obtain⟨h,e1⟩:=aS h;obtain⟨vs,h,e2⟩:=aEk h;obtain⟨fn,caps,h1,h2⟩:=aWq hT h (KP:=fun a nbs fz=>(dr=true->AV.flat a=true/\nbs=[])/\qY P dr (os.map XRO.ro) (s.er.put o.ro.dst a nbs fz) KP Pn) fun v nbs fz h=>by
     rw[<-cY];split at h
     ·exact⟨fun h=>ct h,wC hT h hK hP⟩
     ·exact⟨fun _=>⟨(aRw v).trans (by assumption),rfl⟩,wC hT h hK hP⟩
     ·cases h
    refine⟨fn,caps,e1.trans h1,?_⟩;rw[e2];rcases h2 with⟨rr,nbs,h2,h3,h4⟩|⟨pv,h2,h3⟩
    ·exact .inl ⟨rr,nbs,fun hd=>by
      obtain⟨a1,a2⟩:=h3 hd;rw[AV.flat_renE]at a1;exact⟨a1,kf.1 a2⟩,h2,h4⟩
    ·refine .inr ⟨pv,h2,?_⟩;have:=hP _ _ h3;rw[cY]at this;exact this
   ·cases h
  ·rename_i x e;rw[e];split at h
   ·rename_i hg;refine⟨hg,?_⟩;obtain⟨h,e1⟩:=aS h;split at h
    ·rename_i t u hv;rw[hv]at e1;exact⟨t,u,e1,hP _ _ h⟩
    ·cases h
   ·cases h
  ·rename_i n1 n2;split
   ·rename_i f args e;exact absurd e (n1 f args)
   ·rename_i x e;exact absurd e (n2 x)
   ·exact lD (os:=[o]) hT h fun s' h=>wC hT h hK hP
def aVf:List XRO->XS->XS
 |[],s=>s
 |o::os,s=>aVf os (s.put o.ro.dst .any [] [])
theorem aPn[YL]:∀(os:List XRO) (s:XS),(aVf os s).er=zB (os.map XRO.ro) s.er
 |[],_=>rfl
 |o::os,s=>by show(aVf os _).er=zB (os.map XRO.ro) (s.er.put o.ro.dst .any [] []);rw[aPn os,cY];rfl
end
section
variable{R:Type}
end
section
variable{R:Type}
instance rtyDeq:(ts:List Ty)->DecidableEq (rty ts)
 |[]=>inferInstanceAs (DecidableEq Unit)
 |[t]=>t.deq
 |t::t2::ts=>@instDecidableEqProd _ _ t.deq (rtyDeq (t2::ts))
instance rtDeq:(l:List XS)->DecidableEq (RT l)
 |[]=>inferInstanceAs (DecidableEq Unit)
 |[m]=>rtyDeq m.tys
 |m::m2::l=>@instDecidableEqSum _ _ (rtyDeq m.tys) (rtDeq (m2::l))
inductive XC where
 |skip
 |reg (dr:Bool) (os:List XRO)
 |regS (lst:Bool) (os:List XRO)
 |regP (os:List XRO)
 |regDP (os:List XRO)
 |regN (os:List XRO)
 |regM (os:List XRO) (x:MA)
 |seq (a b:XC)
 |join (pure:Bool) (m:XS) (a b:XC)
 |cond (c:Operand) (a b:XC)
 |block (id:Nat) (b:XC)
 |loop (m:XS) (b:XC)
 |exit (id:Nat)
 |scope (b:XC)
 |ret
 |regY (os:List XRO)
 |rangeF (N0:Nat) (g:Operand) (ps:Array Tmp) (ca cb:Code) (f N2:Nat) (a b it:XC)
 |bad (rc:RCode)
def XC.rc:XC->RCode
 |.skip=>.skip
 |.reg dr os=>.reg dr (os.map XRO.ro)
 |.regS lst os=>.regS lst (os.map XRO.ro)
 |.regP os=>.regP (os.map XRO.ro)
 |.regDP os=>.regDP (os.map XRO.ro)
 |.regN os=>.regN (os.map XRO.ro)
 |.regM os x=>.regM (os.map XRO.ro) x
 |.seq a b=>.seq a.rc (.wkr b.rc)
 |.join _ _ a b=>.seq a.rc (.wkr b.rc)
 |.cond c a b=>.cond c a.rc b.rc
 |.block id b=>.block id b.rc
 |.loop _ b=>.loop b.rc
 |.exit id=>.exit id
 |.scope b=>.scope b.rc
 |.ret=>.ret
 |.regY os=>.regY (os.map XRO.ro)
 |.rangeF N0 g ps ca cb _ _ _ _ _=>.sem N0 (.rangeFunc g ps ca cb)
 |.bad rc=>rc
def XC.Wf(P:Program):XC->Prop
 |.seq a b=>a.Wf P/\b.Wf P
 |.join _ _ a b=>a.Wf P/\b.Wf P
 |.cond _ a b=>a.Wf P/\b.Wf P
 |.block _ b=>b.Wf P
 |.loop _ b=>b.Wf P
 |.scope b=>b.Wf P
 | .rangeF N0 g _ ca cb f N2 a b it => (∃ fl flB fn c2, P.funcs[f]? = some fn /\ fn.body = some c2 /\ (fn.name == "runtime.NumGoroutine") = false /\ P.follows .mixedOrders = true /\ aJ P fl N2 c2 = some it.rc /\ aJ P flB N0 ca = some a.rc /\ aJ P flB N0 cb = some b.rc /\
   fn.results=#[]/\g.inN N0=true/\fn.ntmps=N2)/\a.Wf P/\b.Wf P/\it.Wf P
 |_=>True
def aXf(f:XS->Option R)(K:Exit->XS->Option R):Exit->XS->Option R
 |.normal,s=>f s
 |e,s=>K e s
def aRt(id:Nat)(K:Exit->XS->Option R):Exit->XS->Option R
 |.exit i,s=>match bb i id with
  |true=>K .normal s
  |false=>K (.exit i) s
 |e,s=>K e s
def aYs(K:Exit->XS->Option R):Exit->XS->Option R
 |.goto _,_=>none
 |e,s=>K e s
def lN{α β:Type}(a:Option β):Option (β⊕α):=match a with
 |some r=>some (.inl r)
 |none=>none
def jn?{α β:Type}(a:Option (β⊕α))(f:α->Option β):Option β:=match a with
 |some (.inl r)=>some r
 |some (.inr x)=>f x
 |none=>none
theorem bHa{β:Type}{a:Option β}{r:β⊕α}(h:lN a=some r):∃x,a=some x/\r=.inl x:=by
 unfold lN at h;split at h
 ·cases h;exact⟨_,rfl,rfl⟩
 ·cases h
theorem bNy{β:Type}{a:Option (β⊕α)}{f:α->Option β}{r:β}(h:jn? a f=some r):a=some (.inl r)\/∃x,a=some (.inr x)/\f x=some r:=by
 unfold jn? at h;split at h
 ·cases h;exact .inl rfl
 ·exact .inr ⟨_,rfl,h⟩
 ·cases h
def bGe(m:XS)(K:Exit->XS->Option R):Exit->XS->Option (R⊕rty m.tys)
 |.normal,s=>rd m s fun v=>some (.inr (toR m.tys v))
 |e,s=>lN (K e s)
def aZo(m:XS):Exit->XS->Option (rty m.tys)
 |.normal,s=>rd m s fun v=>some (toR m.tys v)
 |_,_=>none
def bJq(s:XS)(c:Operand)(q:Bool):XS:=match c with
 |.tmp t=>pF s t q
 |_=>s
def aU(ts:List Ty)(f:fty ts R->fty ts R):Nat->fty ts R
 |0=>cuN ts
 |n+1=>f (aU ts f n)
where cuN (ts:List Ty):fty ts R:=cuF ts fun _=>none
theorem bKh(ts:List Ty)(v:tup ts):apF ts (aU.cuN (R:=R) ts) v=none:=by show apF ts (cuF ts _) v=none;rw[cU]
structure YX where
 plain:Bool
 f:{R:Type}->[DecidableEq R]->List XV->XS->(Bool->XS->Option R)->Option R
def noX:YX:=⟨true,fun _ _ _=>none⟩
def rV:YX:=⟨false,fun _ _ _=>none⟩
def aYo(s:XS)(o:XRO):Option (List XV):=match o.ro.op with
 |.callE f args=>match s.ev f with
  |.yld=>some (args.map s.ev)
  |_=>none
 |_=>none
def vP[DecidableEq R](T:List Sig)(Y:YX):List XRO->XS->(XS->Option R)->Option R
 |[],s,K=>K s
 |o::r,s,K=>match aYo s o with
  |none=>aBt T [o] s fun s'=>vP T Y r s' K
  |some args=>match o.ro.guard with
   |none=>Y.f args s fun c s'=>vP T Y r (s'.put o.ro.dst (.d .b c) [] []) K
   |some (t,want)=>match cP s.env t with
    |.d .b x=>match want with
     |true=>if? x (Y.f args s fun c s'=>vP T Y r (s'.put o.ro.dst (.d .b c) [] []) K) (vP T Y r (s.put o.ro.dst .un [] []) K)
     |false=>if? x (vP T Y r (s.put o.ro.dst .un [] []) K) (Y.f args s fun c s'=>vP T Y r (s'.put o.ro.dst (.d .b c) [] []) K)
    |.un=>vP T Y r (s.put o.ro.dst .un [] []) K
    |_=>none
mutual
def XV.cln:XV->Bool
 |.yld=>false
 |.agg cs=>XV.clnL cs
 |.tup cs=>XV.clnL cs
 |.clo _ cs=>XV.clnL cs
 |_=>true
def XV.clnL:List XV->Bool
 |[]=>true
 |v::r=>v.cln&&XV.clnL r
end
def XB.cln:XB->Bool
 |.box cs=>XV.clnL cs
 |_=>true
def bLs:List (Nat×XV)->Bool
 |[]=>true
 |(_,v)::r=>v.cln&&bLs r
def bFd:List (Option XB)->Bool
 |[]=>true
 |none::r=>bFd r
 |some b::r=>b.cln&&bFd r
def XS.cln(s:XS):Bool:=bLs s.env&&bFd s.bs&&bFd s.own
def bJs(n:Nat):List (Nat×XV)->List (Nat×XV)
 |[]=>[]
 |(k,v)::r=>match lg n k with
  |true=>(k-n,v)::bJs n r
  |false=>bJs n r
def ltE(n:Nat):List (Nat×XV)->List (Nat×XV)
 |[]=>[]
 |(k,v)::r=>match Nat.blt k n with
  |true=>(k,v)::ltE n r
  |false=>ltE n r
def noE(n:Nat):List (Nat×XV)->List (Nat×XV)
 |[]=>[]
 |(k,v)::r=>match bb k n with
  |true=>noE n r
  |false=>(k,v)::noE n r
def aOu(N0 N2:Nat)(s:XS):XS:={s with env:=noE N0 (bJs (N2+1) s.env)}
def bPa(N0 N2:Nat)(K:Exit->XS->Option R)(s:XS):Option R:=match(aOu N0 N2 s).cln,cP s.env N2 with
 |true,.gst .go=>K .normal (aOu N0 N2 s)
 |true,.gst (.exit id)=>K (.exit id) (aOu N0 N2 s)
 |true,.gst .ret=>K .ret (aOu N0 N2 s)
 |_,_=>none
def eR(N:Nat)(T:List Sig):XC->YX->{R:Type}->[DecidableEq R]->XS->(Exit->XS->Option R)->Option R
 |.skip,_,_,_,s,K=>K .normal s
 |.reg _ os,_,_,_,s,K=>aBt T os s (K .normal)
 |.regP os,_,_,_,s,K=>aGh T false os s (K .normal) fun v s'=>K (.panic [{v:=v,recovered:=false}]) s'
 |.regDP os,_,_,_,s,K=>aGh T true os s (K .normal) fun v s'=>K (.panic [{v:=v,recovered:=false}]) (aVf os s')
 |.regS lst os,_,_,_,s,K=>aK5 T (aZs (os.map XRO.ro)) (wE s os) lst os s (K .normal)
 |.regN _,_,_,_,_,_=>none
 |.regM _ _,_,_,_,_,_=>none
 |.regY os,Y,_,_,s,K=>vP T Y os s (K .normal)
 |.rangeF ..,_,_,_,_,_=>none
 |.seq a b,Y,_,_,s,K=>eR N T a Y s (aXf (fun s'=>eR N T b Y s' K) K)
 |.join true m a b,Y,_,_,s,K=>bd? (eR N T a Y (R:=rty m.tys) s (aZo m)) fun v=>eR N T b Y (m.fill (ofR m.tys v)) K
 |.join false m a b,Y,R,_,s,K=>jn? (eR N T a Y (R:=R⊕rty m.tys) s (bGe m K)) fun v=>eR N T b Y (m.fill (ofR m.tys v)) K
 |.cond c a b,Y,_,_,s,K=>w1 s c fun v=>match v with
  |.d .b x=>if? x (eR N T a Y (bJq s c true) K) (eR N T b Y (bJq s c false) K)
  |.ab=>ab? (eR N T a Y s K) (eR N T b Y s K)
  |_=>none
 |.block id b,Y,_,_,s,K=>eR N T b Y s (aRt id K)
 |.loop m b,Y,_,_,s,K=>rd m s fun v=>apF m.tys (aU m.tys (fun rec=>cuF m.tys fun v=>eR N T b Y (m.fill v) (aXf (fun s'=>rd m s' (apF m.tys rec)) K)) N) v
 |.exit id,_,_,_,s,K=>K (.exit id) s
 |.scope b,Y,_,_,s,K=>eR N T b Y s (aYs K)
 |.ret,_,_,_,s,K=>K .ret s
 |.bad _,_,_,_,_,_=>none
theorem aVr[YL]{c:Operand}{x:Bool}(h:s.ev c=.d .b x)(e:x=q):(bJq s c q).er=s.er:=by
 cases c with
 |tmp t=>exact jS h e
 |_=>rfl
theorem bJc[YL]{l:Nat}(h:v.er=.yld l):v=.yld:=by
 cases v with
 |yld=>rfl
 |d t x=>exfalso;cases t<;>cases h
 |_=>exfalso;cases h
theorem bI9[YL]{o:XRO}{args:List XV}(h:aYo s o=some args):yst s.er o.ro=some (YL.l,XV.erL args):=by
 unfold aYo at h;unfold yst;split at h
 ·rename_i f as e;rw[e];show(match s.er.ev f with|.yld l=>some (l,as.map s.er.ev)|_=>none)=_;split at h
  ·rename_i e2;cases h;have:s.er.ev f=.yld YL.l:=by rw[aDz s rfl,e2];rfl
   rw[this];show some (YL.l,as.map s.er.ev)=_;congr 2
   induction as with
   |nil=>rfl
   |cons a as ih=>
    show s.er.ev a::as.map s.er.ev=(s.ev a).er::XV.erL (as.map s.ev);rw[aDz s rfl];congr 1;clear e ih this
    induction as with
    |nil=>rfl
    |cons b as ih=>
     show s.er.ev b::as.map s.er.ev=(s.ev b).er::XV.erL (as.map s.ev);rw[aDz s rfl,ih]
  ·cases h
 ·cases h
theorem bIl[YL]{o:XRO}(h:aYo s o=none):yst s.er o.ro=none:=by
 unfold aYo at h;unfold yst;split
 ·rename_i f as e;rw[e]at h;simp only at h;split
  ·rename_i l e2;rw[aDz s rfl]at e2;rw[bJc e2]at h;cases h
  ·rfl
 ·rfl
def YRel[YL](Yx:YX)(Y:Yh):Prop:=(Yx.plain=true->Y.plain=true)/\∀{R:Type} [DecidableEq R] {r:R} {args:List XV} {s:XS} {K:Bool->XS->Option R},Yx.f args s K=some r->∀{KP:Bool->AState->Prop},(∀c s',K c s'=some r->KP c s'.er)->Y.f YL.l (XV.erL args) s.er KP
theorem YRel.no[YL]:YRel noX noY:=⟨fun h=>h,fun h=>by cases h⟩
theorem YRel.body[YL]:YRel rV kN:=⟨fun h=>h,fun h=>by cases h⟩
theorem aBk[YL]{P:Program}{T:List Sig}(hT:jD P T){Yx:YX}{Y:Yh}(hY:YRel Yx Y)[DecidableEq R]{r:R}:∀{os:List XRO} {s:XS} {K:XS->Option R},vP T Yx os s K=some r->∀{KP:AState->Prop},(∀s',K s'=some r->KP s'.er)->rC P Y (os.map XRO.ro) s.er KP
 |[],s,K,h,KP,hK=>hK _ h
 |o::os,s,K,h,KP,hK=>by
  unfold vP at h;show rC P Y (o.ro::os.map XRO.ro) s.er KP;unfold rC;split at h
  ·rename_i e;rw[bIl e];exact lD (os:=[o]) hT h fun s' h=>aBk hT hY h hK
  ·rename_i args e;rw[bI9 e];have go:∀{h0:Unit},(Yx.f args s fun c s'=>vP T Yx os (s'.put o.ro.dst (.d .b c) [] []) K)=some r->Y.f YL.l (XV.erL args) s.er fun c s'=>rC P Y (os.map XRO.ro) (s'.put o.ro.dst (.D (.B c)) [] []) KP:=fun h=>hY.2 h fun c s' h=>by have:=aBk hT hY h hK;rw[cY]at this;exact this
   have un:∀{h0:Unit},vP T Yx os (s.put o.ro.dst .un [] []) K=some r->rC P Y (os.map XRO.ro) (s.er.put o.ro.dst .un [] []) KP:=fun h=>by have:=aBk hT hY h hK;rw[cY]at this;exact this
   simp only;split at h
   ·rename_i hg;rw[hg];exact go (h0:=()) h
   ·rename_i t want hg;rw[hg];simp only;split at h
    ·rename_i x hx;have ht:s.er.env t=.D (.B x):=by show(cP s.env t).er=_;rw[hx];rfl
     rw[ht];split at h
     ·rcases aNv h with⟨e,h⟩|⟨e,h⟩
      ·exact⟨fun _=>go (h0:=()) h,fun h=>absurd e h⟩
      ·exact⟨fun h=>ct (e.symm.trans h),fun _=>un (h0:=()) h⟩
     ·rcases aNv h with⟨e,h⟩|⟨e,h⟩
      ·exact⟨fun h=>ct (e.symm.trans h),fun _=>un (h0:=()) h⟩
      ·exact⟨fun _=>go (h0:=()) h,fun h=>absurd e h⟩
    ·rename_i hx;have ht:s.er.env t=.D (.C (.tuple #[])):=by show(cP s.env t).er=_;rw[hx];rfl
     rw[ht];exact un (h0:=()) h
    ·cases h
def bI1(P:Program)(N:Nat)(T:List Sig)(c:XC):Prop:=∀(y:YL) (Yx:YX) (Y:Yh),YRel Yx Y->∀{R:Type} [DecidableEq R] {r:R} {s:XS} {K:Exit->XS->Option R},eR N T c Yx s K=some r->∀{Q:Exit->AState->Prop},(∀e s',K e s'=some r->Q e s'.er)->eM P Y c.rc Q s.er
theorem cC{P:Program}{N:Nat}{T:List Sig}(hT:jD P T):∀{c:XC},c.Wf P->bI1 P N T c
 |.skip,hw,y,Yx,Y,hY,R,_,r,s,K,h,Q,hK=>hK _ _ h
 |.reg _ os,hw,y,Yx,Y,hY,R,_,r,s,K,h,Q,hK=>lD hT h (KP:=Q .normal) fun s' h=>hK _ _ h
 |.regP os,hw,y,Yx,Y,hY,R,_,r,s,K,h,Q,hK=>wC hT h (KP:=Q .normal) (fun s' h=>hK _ _ h) fun v s' h=>hK _ _ h
 | .regDP os,hw,y,Yx,Y,hY,R,_,r,s,K,h,Q,hK=>wC hT h (KP:=Q .normal) (fun s' h=>hK _ _ h) fun v s' h=>by
   have:=hK _ _ h;rw[aPn]at this;exact this
 |.regN os,hw,y,Yx,Y,hY,R,_,r,s,K,h,Q,hK=>by cases h
 |.regM os x,hw,y,Yx,Y,hY,R,_,r,s,K,h,Q,hK=>by cases h
 |.regS _ os,hw,y,Yx,Y,hY,R,_,r,s,K,h,Q,hK=>⟨wE s os,aCc hT h (KP:=Q .normal) fun s' h=>hK _ _ h⟩
 |.regY os,hw,y,Yx,Y,hY,R,_,r,s,K,h,Q,hK=>aBk hT hY h (KP:=Q .normal) fun s' h=>hK _ _ h
 |.rangeF ..,hw,y,Yx,Y,hY,R,_,r,s,K,h,Q,hK=>by cases h
 |.seq a b,hw,y,Yx,Y,hY,R,_,r,s,K,h,Q,hK=>by
  refine cC hT (c:=a) hw.1 y Yx Y hY h (Q:=xG (eM P Y (.wkr b.rc) Q) Q) fun e s' h=>?_;cases e with
  |normal=>exact⟨s'.er,Wk.refl _,cC hT (c:=b) hw.2 y Yx Y hY h hK⟩
  |_=>exact hK _ _ h
 |.join true m a b,hw,y,Yx,Y,hY,R,_,r,s,K,h,Q,hK=>by
  obtain⟨x,h1,h2⟩:=bJr (show bd? (eR N T a Yx (R:=rty m.tys) s (aZo m)) (fun v=>eR N T b Yx (m.fill (ofR m.tys v)) K)=some r from h);refine cC hT (c:=a) hw.1 y Yx Y hY h1 (Q:=xG (eM P Y (.wkr b.rc) Q) Q) fun e s' h=>?_;cases e with
  |normal=>
   obtain⟨v,hv,hw'⟩:=aRn (show rd m s' _=some x from h);cases hv;rw[uW]at h2;exact⟨_,hw',cC hT (c:=b) hw.2 y Yx Y hY h2 hK⟩
  |_=>cases h
 |.join false m a b,hw,y,Yx,Y,hY,R,_,r,s,K,h,Q,hK=>by
  rcases bNy (show jn? (eR N T a Yx (R:=R⊕rty m.tys) s (bGe m K)) (fun v=>eR N T b Yx (m.fill (ofR m.tys v)) K)=some r from h)with h1|⟨x,h1,h2⟩
  ·refine cC hT (c:=a) hw.1 y Yx Y hY h1 (Q:=xG (eM P Y (.wkr b.rc) Q) Q) fun e s' h=>?_;cases e with
   |normal=>
    obtain⟨v,hv,_⟩:=aRn (show rd m s' _=_ from h);cases hv
   |_=>
    obtain⟨y,hy,e⟩:=bHa (show lN _=_ from h);cases e;exact hK _ _ hy
  ·refine cC hT (c:=a) hw.1 y Yx Y hY h1 (Q:=xG (eM P Y (.wkr b.rc) Q) Q) fun e s' h=>?_;cases e with
   |normal=>
    obtain⟨v,hv,hw'⟩:=aRn (show rd m s' _=_ from h);cases hv;rw[uW]at h2;exact⟨_,hw',cC hT (c:=b) hw.2 y Yx Y hY h2 hK⟩
   |_=>
    obtain⟨y,hy,e⟩:=bHa (show lN _=_ from h);cases e
 |.cond c a b,hw,y,Yx,Y,hY,R,_,r,s,K,h,Q,hK=>by
  obtain⟨h,e1⟩:=aS (show w1 s c _=some r from h);show aVo (eM P Y a.rc Q s.er) (eM P Y b.rc Q s.er) (s.er.ev c);rw[e1];split at h
  ·rename_i x hx;rw[hx];rcases aNv h with⟨e,h⟩|⟨e,h⟩
   ·have:=cC hT (c:=a) hw.1 y Yx Y hY h hK;rw[aVr hx e]at this;exact⟨fun _=>this,fun h=>ct (e.symm.trans h)⟩
   ·have:=cC hT (c:=b) hw.2 y Yx Y hY h hK;rw[aVr hx e]at this;exact⟨fun h=>ct (e.symm.trans h),fun _=>this⟩
  ·rename_i hx;rw[hx];obtain⟨h1,h2⟩:=bNw h;exact⟨cC hT (c:=a) hw.1 y Yx Y hY h1 hK,cC hT (c:=b) hw.2 y Yx Y hY h2 hK⟩
  ·cases h
 |.block id b,hw,y,Yx,Y,hY,R,_,r,s,K,h,Q,hK=>by
  refine cC hT (c:=b) hw y Yx Y hY (show eR N T b Yx s (aRt id K)=some r from h) (Q:=aL1 id Q) fun e s' h=>?_;cases e with
  |exit i=>
   unfold aRt at h;simp only at h;show if i=id then Q .normal s'.er else Q (.exit i) s'.er
   split at h
   ·rename_i hb;rw[if_pos (ι hb)];exact hK _ _ h
   ·rename_i hb;rw[if_neg (fun e=>by rw[e]at hb;simp at hb)];exact hK _ _ h
  |_=>exact hK _ _ h
 |.loop m b,hw,y,Yx,Y,hY,R,_,r,s,K,h,Q,hK=>by
  obtain⟨v0,h,hw'⟩:=aRn (show rd m s _=some r from h);refine .inl ⟨fun n s1=>∃v,apF m.tys (aU m.tys (fun rec=>cuF m.tys fun v=>eR N T b Yx (m.fill v) (aXf (fun s'=>rd m s' (apF m.tys rec)) K)) n) v=some r/\s1=(m.fill v).er,N,_,hw',⟨v0,h,rfl⟩,?_⟩;rintro n s1 ⟨v,hv,rfl⟩;cases n with
  |zero=>rw[show aU m.tys _ 0=aU.cuN m.tys from rfl,bKh]at hv;cases hv
  |succ n=>
   rw[show aU m.tys _ (n+1)=cuF m.tys _ from rfl,cU]at hv;refine cC hT (c:=b) hw y Yx Y hY hv (Q:=xG _ Q) fun e s' h=>?_;cases e with
   |normal=>
    obtain⟨v',h,hw'⟩:=aRn (show rd m s' _=some r from h);exact⟨n,_,Nat.lt_succ_self n,hw',v',h,rfl⟩
   |_=>exact hK _ _ h
 |.exit id,hw,y,Yx,Y,hY,R,_,r,s,K,h,Q,hK=>hK _ _ h
 |.scope b,hw,y,Yx,Y,hY,R,_,r,s,K,h,Q,hK=>by
  refine cC hT (c:=b) hw y Yx Y hY (show eR N T b Yx s (aYs K)=some r from h) (Q:=aUm Q) fun e s' h=>?_;cases e with
  |goto _=>cases h
  |_=>exact hK _ _ h
 |.ret,hw,y,Yx,Y,hY,R,_,r,s,K,h,Q,hK=>hK _ _ h
 |.bad _,hw,y,Yx,Y,hY,R,_,r,s,K,h,Q,hK=>by cases h
def vV:List RO->List (Option Ty)->List XRO
 |[],_=>[]
 |ro::r,[]=>⟨ro,none⟩::vV r []
 |ro::r,t::ts=>⟨ro,t⟩::vV r ts
theorem oN:∀(r:List RO) (ts:List (Option Ty)),(vV r ts).map XRO.ro=r
 |[],_=>rfl
 |ro::r,[]=>congrArg (ro::·) (oN r [])
 |ro::r,_::ts=>congrArg (ro::·) (oN r ts)
def pTy:List Ty->Ty
 |[]=>.u
 |[t]=>t
 |t::r=>.p t (pTy r)
def bL5(f:TypeId->Option Ty):List TypeId->Option (List Ty)
 |[]=>some []
 |t::r=>match f t,bL5 f r with
  |some a,some l=>some (a::l)
  |_,_=>none
def aPd(P:Program):Nat->TypeId->Option Ty
 |0,_=>none
 |n+1,t=>match P.underlying t with
  |some (.int k)=>some (.i k)
  |some .bool=>some .b
  |some .string=>some .s
  |some (.slice e)=>(aPd P n e).map .sl
  |some (.array len e)=>match aPd P n e with
   |some (.i k)=>some (.ar len k)
   |some (.ar m k)=>some (.ar (len*m) k)
   |some t=>some (.w (pTy (bg len t)))
   |none=>none
  |some (.struct fs)=>(bL5 (aPd P n) (fs.toList.map (·.type))).map fun l=>.w (pTy l)
  |_=>none
def xF(P:Program)(o:Oper):Option Ty:=match o.op with
 |.alloc T=>aPd P 20 T
 |.box T _=>aPd P 20 T
 |.makeMap T _=>match P.underlying T with
  |some (.map k e)=>match aPd P 20 k,aPd P 20 e with
   |some k,some (.sl t)=>some (.p k (.o t))
   |some k,some t=>some (.p k t)
   |_,_=>none
  |_=>none
 |_=>aPd P 20 o.type
structure Ann where
 at_:Nat
 pure:Bool
 m:XS
def aQ4:List Ann->Nat->Option Ann
 |[],_=>none
 |a::r,n=>match bb a.at_ n with
  |true=>some a
  |false=>aQ4 r n
def XC.cnt:XC->Nat
 |.seq a b=>a.cnt+b.cnt+1
 |.join _ _ a b=>a.cnt+b.cnt+1
 |.cond _ a b=>a.cnt+b.cnt
 |.block _ b=>b.cnt
 |.loop _ b=>b.cnt+1
 |.scope b=>b.cnt
 |.bad _=>1
 |_=>0
def xs0:XS:=⟨[],[],[]⟩
def bIs(P:Program)(d:Nat):List Oper->Option Ty
 |[]=>none
 |o::r=>match o.dst with
  |some d'=>match bb d' d with
   |true=>xF P o
   |false=>bIs P d r
  |none=>bIs P d r
def bLq(P:Program)(ops:List Oper):List RO->List (Option Ty)
 |[]=>[]
 |ro::r=>(match ro.dst with
  |some d=>bIs P d ops
  |none=>none)::bLq P ops r
def lY(P:Program):Code->RCode->XC
 |.skip,.skip=>.skip
 |.region _ ops _,.reg dr ros=>.reg dr (vV ros (ops.toList.map (xF P)))
 |.region _ ops _,.regP ros=>.regP (vV ros (ops.toList.map (xF P)))
 |.region _ ops _,.regDP ros=>.regDP (vV ros (bLq P ops.toList ros))
 |.region _ ops _,.regS lst ros=>.regS lst (vV ros (ops.toList.map (xF P)))
 |.region _ ops _,.regN ros=>.regN (vV ros (ops.toList.map (xF P)))
 |.region _ ops _,.regY ros=>.regY (vV ros (ops.toList.map (xF P)))
 |.region _ ops _,.regM ros x=>.regM (vV ros (ops.toList.map (xF P))) x
 |.seq a b,.seq x (.wkr y)=>.seq (lY P a x) (lY P b y)
 |.cond _ a b,.cond c x y=>.cond c (lY P a x) (lY P b y)
 |.block _ b,.block id x=>.block id (lY P b x)
 |.loop b,.loop x=>.loop xs0 (lY P b x)
 |.exit _,.exit id=>.exit id
 |.scope b,.scope x=>.scope (lY P b x)
 |.ret,.ret=>.ret
 |_,.skip=>.skip
 |_,rc=>.bad rc
theorem aFy(P:Program):∀(c:Code) (rc:RCode),(lY P c rc).rc=rc:=by
 intro c
 induction c with
 |seq a b ih1 ih2=>
  intro rc;unfold lY;split<;>first
   |rfl
   |(rename_i e;cases e;show RCode.seq (lY P _ _).rc (.wkr (lY P _ _).rc)=_;rw[ih1,ih2];done)
   |(rename_i e;cases e;done)
   |(rename_i e _;cases e;done)
 |cond c0 a b ih1 ih2=>
  intro rc;unfold lY;split<;>first
   |rfl
   |(rename_i e;cases e;show RCode.cond _ (lY P _ _).rc (lY P _ _).rc=_;rw[ih1,ih2];done)
   |(rename_i e;cases e;done)
   |(rename_i e _;cases e;done)
 |block id b ih=>
  intro rc;unfold lY;split<;>first
   |rfl
   |(rename_i e;cases e;show RCode.block _ (lY P _ _).rc=_;rw[ih];done)
   |(rename_i e;cases e;done)
   |(rename_i e _;cases e;done)
 |loop b ih=>
  intro rc;unfold lY;split<;>first
   |rfl
   |(rename_i e;cases e;show RCode.loop (lY P _ _).rc=_;rw[ih];done)
   |(rename_i e;cases e;done)
   |(rename_i e _;cases e;done)
 |scope b ih=>
  intro rc;unfold lY;split<;>first
   |rfl
   |(rename_i e;cases e;show RCode.scope (lY P _ _).rc=_;rw[ih];done)
   |(rename_i e;cases e;done)
   |(rename_i e _;cases e;done)
 |region id ops dr=>
  intro rc;cases rc<;>first|rfl|(show RCode.reg _ ((vV _ _).map XRO.ro)=_;rw[oN];done)|(show RCode.regP ((vV _ _).map XRO.ro)=_;rw[oN];done)|(show RCode.regDP ((vV _ _).map XRO.ro)=_;rw[oN];done)|(show RCode.regS _ ((vV _ _).map XRO.ro)=_;rw[oN];done)|(show RCode.regN ((vV _ _).map XRO.ro)=_;rw[oN];done)|(show RCode.regY ((vV _ _).map XRO.ro)=_;rw[oN];done)|(show RCode.regM ((vV _ _).map XRO.ro) _=_;rw[oN];done)
 |_=>intro rc;cases rc<;>rfl
def nD(A:List Ann):Nat->XC->XC
 |n,.seq a b=>match aQ4 A n with
  |some x=>.join x.pure x.m (nD A (n+1) a) (nD A (n+1+a.cnt) b)
  |none=>.seq (nD A (n+1) a) (nD A (n+1+a.cnt) b)
 |n,.cond c a b=>.cond c (nD A n a) (nD A (n+a.cnt) b)
 |n,.block id b=>.block id (nD A n b)
 |n,.loop m b=>match aQ4 A n with
  |some x=>.loop x.m (nD A (n+1) b)
  |none=>.loop m (nD A (n+1) b)
 |n,.scope b=>.scope (nD A n b)
 |_,c=>c
theorem jJ(A:List Ann):∀(c:XC) (n:Nat),(nD A n c).rc=c.rc
 |.seq a b,n=>by
  unfold nD;split
  ·show RCode.seq (nD A _ a).rc (.wkr (nD A _ b).rc)=_;rw[jJ A a,jJ A b];rfl
  ·show RCode.seq (nD A _ a).rc (.wkr (nD A _ b).rc)=_;rw[jJ A a,jJ A b];rfl
 |.cond c a b,n=>by show RCode.cond c (nD A _ a).rc (nD A _ b).rc=_;rw[jJ A a,jJ A b];rfl
 |.block id b,n=>by show RCode.block id (nD A _ b).rc=_;rw[jJ A b];rfl
 |.loop m b,n=>by
  unfold nD;split
  ·show RCode.loop (nD A _ b).rc=_;rw[jJ A b];rfl
  ·show RCode.loop (nD A _ b).rc=_;rw[jJ A b];rfl
 |.scope b,n=>by show RCode.scope (nD A _ b).rc=_;rw[jJ A b];rfl
 |.join _ _ _ _,_=>rfl
 |.skip,_=>rfl
 |.reg _ _,_=>rfl
 |.regS _ _,_=>rfl
 |.regP _,_=>rfl
 |.regDP _,_=>rfl
 |.regN _,_=>rfl
 |.regY _,_=>rfl
 |.regM _ _,_=>rfl
 |.rangeF ..,_=>rfl
 |.exit _,_=>rfl
 |.ret,_=>rfl
 |.bad _,_=>rfl
theorem aAx(P:Program):∀(c:Code) (rc:RCode),(lY P c rc).Wf P:=by
 intro c
 induction c with
 |seq a b ih1 ih2=>
  intro rc;unfold lY;split<;>first
   |trivial
   |(rename_i e;cases e;exact⟨ih1 _,ih2 _⟩)
   |(rename_i e;cases e;done)
   |(rename_i e _;cases e;done)
 |cond c0 a b ih1 ih2=>
  intro rc;unfold lY;split<;>first
   |trivial
   |(rename_i e;cases e;exact⟨ih1 _,ih2 _⟩)
   |(rename_i e;cases e;done)
   |(rename_i e _;cases e;done)
 |block id b ih=>
  intro rc;unfold lY;split<;>first
   |trivial
   |(rename_i e;cases e;exact ih _)
   |(rename_i e;cases e;done)
   |(rename_i e _;cases e;done)
 |loop b ih=>
  intro rc;unfold lY;split<;>first
   |trivial
   |(rename_i e;cases e;exact ih _)
   |(rename_i e;cases e;done)
   |(rename_i e _;cases e;done)
 |scope b ih=>
  intro rc;unfold lY;split<;>first
   |trivial
   |(rename_i e;cases e;exact ih _)
   |(rename_i e;cases e;done)
   |(rename_i e _;cases e;done)
 |_=>intro rc;cases rc<;>trivial
theorem jH(P:Program)(A:List Ann):∀(c:XC) (n:Nat),c.Wf P->(nD A n c).Wf P
 |.seq a b,n,h=>by
  unfold nD;split
  ·exact⟨jH P A a _ h.1,jH P A b _ h.2⟩
  ·exact⟨jH P A a _ h.1,jH P A b _ h.2⟩
 |.cond c a b,n,h=>⟨jH P A a _ h.1,jH P A b _ h.2⟩
 |.block id b,n,h=>jH P A b n h
 |.loop m b,n,h=>by
  unfold nD;split
  ·exact jH P A b (n+1) h
  ·exact jH P A b (n+1) h
 |.scope b,n,h=>jH P A b n h
 |.join _ _ _ _,_,h=>h
 |.skip,_,h=>h
 |.reg _ _,_,h=>h
 |.regS _ _,_,h=>h
 |.regP _,_,h=>h
 |.regDP _,_,h=>h
 |.regN _,_,h=>h
 |.regY _,_,h=>h
 |.regM _ _,_,h=>h
 |.rangeF ..,_,h=>h
 |.exit _,_,h=>h
 |.ret,_,h=>h
 |.bad _,_,h=>h
def bLo:List (Nat×Nat×List Nat)->Nat->Option (Nat×List Nat)
 |[],_=>none
 |(p,f)::r,n=>match bb p n with
  |true=>some f
  |false=>bLo r n
def bM8(P:Program)(fn:Func)(g:Operand)(N0:Nat):Bool:= !(fn.name== "runtime.NumGoroutine")&&P.follows .mixedOrders&&bb fn.results.size 0&&g.inN N0
def bFt(P:Program)(fl:List Nat)(A:List Ann)(n N0:Nat)(g:Operand)(ps:Array Tmp)(ca cb:Code)(f:Nat)(fl2:List Nat)(rc:RCode):XC:=match P.funcs[f]?with
 |some fn=>match fn.body with
  |some c2=>match aJ P fl2 fn.ntmps c2,aJ P fl N0 ca,aJ P fl N0 cb,bM8 P fn g N0 with
   |some it,some a,some b,true=>.rangeF N0 g ps ca cb f fn.ntmps (nD A (100000*(n+1)+30000) (lY P ca a)) (nD A (100000*(n+1)+60000) (lY P cb b)) (nD A (100000*(n+1)) (lY P c2 it))
   |_,_,_,_=>.bad rc
  |none=>.bad rc
 |none=>.bad rc
def bEi(P:Program)(fl:List Nat)(A:List Ann)(n:Nat)(q:Option (Nat×List Nat))(rc:RCode):XC:=match rc,q with
 |.sem N0 (.rangeFunc g ps ca cb),some (f,fl2)=>bFt P fl A n N0 g ps ca cb f fl2 rc
 |rc,_=>.bad rc
theorem bD4(P:Program)(fl:List Nat)(A:List Ann)(n:Nat)(q:Option (Nat×List Nat))(rc:RCode):(bEi P fl A n q rc).rc=rc/\(bEi P fl A n q rc).Wf P:=by
 unfold bEi;split
 case h_2=>exact⟨rfl,trivial⟩
 unfold bFt;split
 case h_2=>exact⟨rfl,trivial⟩
 rename_i fn hf;split
 case h_2=>exact⟨rfl,trivial⟩
 rename_i c2 hc;split
 case h_2=>exact⟨rfl,trivial⟩
 rename_i it a b h1 h2 h3 h4;refine⟨rfl,⟨_,fl,fn,c2,hf,hc,?_,?_,by rw[jJ,aFy];exact h1,by rw[jJ,aFy];exact h2,by rw[jJ,aFy];exact h3,?_,?_,rfl⟩,jH P A _ _ (aAx P _ _),jH P A _ _ (aAx P _ _),jH P A _ _ (aAx P _ _)⟩<;>unfold bM8 at h4<;>simp only[ν,dc]at h4
 ·exact h4.1.1.1
 ·exact h4.1.1.2
 ·exact Array.eq_empty_of_size_eq_zero (ι h4.1.2)
 ·exact h4.2
def aAt(P:Program)(fl:List Nat)(F:List (Nat×Nat×List Nat))(A:List Ann):Nat->XC->XC
 |n,.seq a b=>match aQ4 A n with
  |some x=>.join x.pure x.m (aAt P fl F A (n+1) a) (aAt P fl F A (n+1+a.cnt) b)
  |none=>.seq (aAt P fl F A (n+1) a) (aAt P fl F A (n+1+a.cnt) b)
 |n,.cond c a b=>.cond c (aAt P fl F A n a) (aAt P fl F A (n+a.cnt) b)
 |n,.block id b=>.block id (aAt P fl F A n b)
 |n,.loop m b=>match aQ4 A n with
  |some x=>.loop x.m (aAt P fl F A (n+1) b)
  |none=>.loop m (aAt P fl F A (n+1) b)
 |n,.scope b=>.scope (aAt P fl F A n b)
 |n,.bad rc=>bEi P fl A n (bLo F n) rc
 |_,c=>c
theorem qC(P:Program)(fl:List Nat)(F:List (Nat×Nat×List Nat))(A:List Ann):∀(c:XC) (n:Nat),c.Wf P->(aAt P fl F A n c).rc=c.rc/\(aAt P fl F A n c).Wf P
 |.seq a b,n,h=>by
  have h1:=qC P fl F A a (n+1) h.1;have h2:=qC P fl F A b (n+1+a.cnt) h.2;unfold aAt;split
  ·exact⟨by show RCode.seq _ (.wkr _)=_;rw[h1.1,h2.1];rfl,h1.2,h2.2⟩
  ·exact⟨by show RCode.seq _ (.wkr _)=_;rw[h1.1,h2.1];rfl,h1.2,h2.2⟩
 |.cond c a b,n,h=>by
  have h1:=qC P fl F A a n h.1;have h2:=qC P fl F A b (n+a.cnt) h.2;exact⟨by show RCode.cond c _ _=_;rw[h1.1,h2.1];rfl,h1.2,h2.2⟩
 |.block id b,n,h=>by
  have h1:=qC P fl F A b n h;exact⟨by show RCode.block id _=_;rw[h1.1];rfl,h1.2⟩
 |.loop m b,n,h=>by
  have h1:=qC P fl F A b (n+1) h;unfold aAt;split
  ·exact⟨by show RCode.loop _=_;rw[h1.1];rfl,h1.2⟩
  ·exact⟨by show RCode.loop _=_;rw[h1.1];rfl,h1.2⟩
 |.scope b,n,h=>by
  have h1:=qC P fl F A b n h;exact⟨by show RCode.scope _=_;rw[h1.1];rfl,h1.2⟩
 |.bad rc,n,_=>bD4 P fl A n _ rc
 |.join _ _ _ _,_,h=>⟨rfl,h⟩
 |.skip,_,h=>⟨rfl,h⟩
 |.reg _ _,_,h=>⟨rfl,h⟩
 |.regS _ _,_,h=>⟨rfl,h⟩
 |.regP _,_,h=>⟨rfl,h⟩
 |.regDP _,_,h=>⟨rfl,h⟩
 |.regN _,_,h=>⟨rfl,h⟩
 |.regY _,_,h=>⟨rfl,h⟩
 |.regM _ _,_,h=>⟨rfl,h⟩
 |.rangeF ..,_,h=>⟨rfl,h⟩
 |.exit _,_,h=>⟨rfl,h⟩
 |.ret,_,h=>⟨rfl,h⟩
def mkX(P:Program)(fl:List Nat)(F:List (Nat×Nat×List Nat))(A:List Ann)(c:Code)(rc:RCode):XC:=aAt P fl F A 0 (lY P c rc)
theorem zP(P:Program)(fl:List Nat)(F:List (Nat×Nat×List Nat))(A:List Ann)(c:Code)(rc:RCode):(mkX P fl F A c rc).rc=rc:=by unfold mkX;rw[(qC P fl F A _ 0 (aAx P c rc)).1,aFy]
theorem zR(P:Program)(fl:List Nat)(F:List (Nat×Nat×List Nat))(A:List Ann)(c:Code)(rc:RCode):(mkX P fl F A c rc).Wf P:=(qC P fl F A _ 0 (aAx P c rc)).2
end
section
variable{R:Type}
theorem Wk.any{s s':AState}(hb:∀i,s'.bs i=s.bs i)(ho:∀i,s'.own i=s.own i)(hn:s'.nx=s.nx)(he:∀t,s'.env t=s.env t\/s'.env t=.any):Wk s s':=fun E a w ⟨G,m,h⟩=>by
 have hlk:s'.lk=s.lk:=by funext x;cases x with|B i=>exact hb i|O i=>exact ho i
 refine⟨G,m,hlk▸h.sim,fun t=>?_,h.size,h.defers,?_,fun i hi=>h.fresh i (hn▸hi),h.frame,h.base,h.own,h.noO,fun i hi=>(ho i).trans (h.nxOk i (hn▸hi))⟩
 ·rcases he t with e|e
  ·rw[e];exact h.env t
  ·rw[e];unfold AV.Rep;trivial
 ·rcases he E.N with e|e
  ·rw[e];exact h.jok
  ·rw[e];exact E.Jany _ _ h.jok
def zM:Nat->List XV->List (Nat×XV)
 |_,[]=>[]
 |n,v::vs=>(n,v)::zM (n+1) vs
theorem wK:∀(vs:List XV) (n t:Nat),cP (zM n vs) t=if n<=t then tV vs (t-n)else .any
 |[],n,t=>by
  show XV.any=_;split
  ·cases t-n<;>rfl
  ·rfl
 |v::vs,n,t=>by
  show(if bb t n=true then v else cP (zM (n+1) vs) t)=_;rw[wK vs (n+1) t];by_cases h:t=n
  ·rw[if_pos (by rw[gm];exact h),if_pos (by omega),show t-n=0 by omega];rfl
  ·rw[if_neg (by rw[gm];exact h)];by_cases h2:n+1<=t
   ·rw[if_pos h2,if_pos (by omega),show t-n=(t-(n+1))+1 by omega];rfl
   ·rw[if_neg h2,if_neg (by omega)]
def aAp:Nat->Nat->List Nat
 |_,0=>[]
 |n,k+1=>n::aAp (n+1) k
theorem aRj:∀(k n i:Nat),(aAp n k)[i]?=if i<k then some (n+i)else none
 |0,n,i=>by simp[aAp]
 |k+1,n,0=>by simp[aAp]
 |k+1,n,i+1=>by
  show(aAp (n+1) k)[i]?=_;rw[aRj k (n+1) i];by_cases h:i<k
  ·rw[if_pos h,if_pos (by omega),show n+1+i=n+(i+1) by omega]
  ·rw[if_neg h,if_neg (by omega)]
theorem aAv{j:Nat}:j∈aAp n k↔n<=j/\j<n+k:=by
 induction k generalizing n with
 |zero=>simp[aAp]
 |succ k ih=>
  show j∈n::aAp (n+1) k↔_;rw[bw,ih];omega
theorem aH0:∀(k n:Nat),(aAp n k).Nodup
 |0,_=>ju
 |k+1,n=>eu.2 ⟨fun h=>by have:=(aAv.1 h).1;omega,aH0 k (n+1)⟩
theorem aQj:∀(k n:Nat),(aAp n k).length=k
 |0,_=>rfl
 |k+1,n=>congrArg (· +1) (aQj k (n+1))
def aLd(ψ:Hd->Hd):List XV->List XV
 |[]=>[]
 |v::vs=>v.ren ψ::aLd ψ vs
def aCl(ψ:Hd->Hd):List (Option XB)->List (Option XB)
 |[]=>[]
 |none::r=>none::aCl ψ r
 |some b::r=>some (b.ren ψ)::aCl ψ r
theorem xV[YL](ψ:Hd->Hd):∀(l:List (Option XB)) (i:Nat),(bG (aCl ψ l) i).map XB.er=((bG l i).map XB.er).map (Blk.ren ψ)
 |[],_=>rfl
 |none::_,0=>rfl
 |some b::_,0=>congrArg some (aN7 ψ b)
 |none::r,i+1=>xV ψ r i
 |some _::r,i+1=>xV ψ r i
def aIk:Nat->List (Option XB)->List (Option XB)
 |_,[]=>[]
 |0,_::r=>none::aIk 0 r
 |d+1,b::r=>b::aIk d r
def aBj:Nat->List (Option XB)->List (Option XB)
 |0,l=>l
 |_+1,[]=>[]
 |d+1,_::r=>aBj d r
theorem aC5:∀(d:Nat) (l:List (Option XB)) (i:Nat),bG (aIk d l) i=if i<d then bG l i else none
 |0,[],_=>rfl
 |d+1,[],i=>by show none=if i<d+1 then none else none;split<;>rfl
 |0,_::r,0=>rfl
 |0,_::r,i+1=>by
  show bG (aIk 0 r) i=_;rw[aC5 0 r i];simp
 |d+1,b::r,0=>rfl
 |d+1,b::r,i+1=>by
  show bG (aIk d r) i=_;rw[aC5 d r i];by_cases h:i<d
  ·rw[if_pos h,if_pos (by omega)];rfl
  ·rw[if_neg h,if_neg (by omega)]
theorem aK9:∀(d:Nat) (l:List (Option XB)) (i:Nat),bG (aBj d l) i=bG l (d+i)
 |0,l,i=>by rw[bf];rfl
 |d+1,[],i=>by
  show none=bG [] _;cases d+1+i<;>rfl
 |d+1,b::r,i=>by show bG (aBj d r) i=_;rw[aK9 d r i,show d+1+i=(d+i)+1 by omega];rfl
theorem aK4:∀(d:Nat) (l:List (Option XB)),(aBj d l).length=l.length-d
 |0,l=>rfl
 |d+1,[]=>by simp[aBj]
 |d+1,b::r=>by show(aBj d r).length=_;rw[aK4 d r];simp
def stS(d:Nat)(s:XS):XS:=
 let ψ:=sZ (aAp d (s.bs.length-d))
 {env:=zM 0 (aLd ψ (uQ s.env)),bs:=aCl ψ (aIk d s.bs),own:=aCl ψ (aBj d s.bs)}
theorem aPw[YL](ψ:Hd->Hd):∀(vs:List XV) (i:Nat),i<vs.length->(tV (aLd ψ vs) i).er=AV.ren ψ (tV vs i).er
 |[],_,h=>by simp at h
 |v::_,0,_=>aM5 ψ v
 |_::vs,i+1,h=>aPw ψ vs i (by simpa using h)
theorem aKc(ψ:Hd->Hd):∀vs:List XV,(aLd ψ vs).length=vs.length
 |[]=>rfl
 |_::vs=>congrArg (· +1) (aKc ψ vs)
theorem aUc:∀(vs:List XV) (i:Nat),vs.length<=i->tV vs i=.any
 |[],i,_=>by cases i<;>rfl
 |_::_,0,h=>by simp at h
 |_::vs,i+1,h=>aUc vs i (by simpa using h)
theorem aRo{α:Type}(f:XV->α):∀l:List (Nat×XV),(uQ l).map f=l.map fun p=>f p.2
 |[]=>rfl
 |p::l=>congrArg (f p.2::·) (aRo f l)
theorem aDr(ψ:Hd->Hd):∀l:List (Option XB),(aCl ψ l).length=l.length
 |[]=>rfl
 |none::l=>congrArg (· +1) (aDr ψ l)
 |some _::l=>congrArg (· +1) (aDr ψ l)
theorem bAc[YL](d:Nat)(s:XS):Wk (entry (s.env.map fun p=>p.2.er) (erB s.bs)) (stS d s).er:=by
 have h1:=aXo (s.env.map fun p=>p.2.er) (erB s.bs) (aAp d (s.bs.length-d)) (aH0 _ _);refine h1.trans (Wk.any (fun i=>?_) (fun i=>?_) ?_ fun t=>?_)
 ·show(bG (aCl _ (aIk d s.bs)) i).map XB.er=if i∈aAp d (s.bs.length-d)then none else(((erB s.bs)[i]?).join).map _
  rw[xV,aC5,oI];by_cases hd:i<d
  ·rw[if_pos hd,if_neg (fun h=>by have:=(aAv.1 h).1;omega)]
  ·rw[if_neg hd];by_cases h2:i<s.bs.length
   ·rw[if_pos (aAv.2 ⟨by omega,by omega⟩)];rfl
   ·rw[if_neg (fun h=>by have:=(aAv.1 h).2;omega),aFv _ _ (by omega)]
 ·show(bG (aCl _ (aBj d s.bs)) i).map XB.er=((aAp d (s.bs.length-d))[i]?).bind fun j=>(((erB s.bs)[j]?).join).map _;rw[xV,aK9,aRj];by_cases h:i<s.bs.length-d
  ·rw[if_pos h];show _=(((erB s.bs)[d+i]?).join).map _;rw[oI]
  ·rw[if_neg h,aFv _ _ (by omega)];rfl
 ·show(aCl _ (aBj d s.bs)).length=(aAp d (s.bs.length-d)).length;rw[aDr,aK4,aQj]
 ·show(cP (zM 0 (aLd _ (uQ s.env))) t).er=(AV.renL _ (s.env.map fun p=>p.2.er)).getD t .un\/(cP (zM 0 (aLd _ (uQ s.env))) t).er=.any;rw[wK,if_pos (di _),Nat.sub_zero];by_cases h:t<(uQ s.env).length
  ·left;rw[aPw _ _ _ h,aB9,<-aRo XV.er];congr 1;have:∀(l:List XV) (i:Nat),i<l.length->(tV l i).er=(l.map XV.er).getD i .un:=fun l=>by
    induction l with
    |nil=>intro i h;simp at h
    |cons v l ih=>
     intro i h;cases i with
     |zero=>rfl
     |succ i=>
      have:=ih i (by simpa using h);show(tV l i).er=(v.er::l.map XV.er).getD (i+1) .un;rw[this,kg]
   exact this _ _ h
  ·right;rw[aUc _ _ (by rw[aKc];omega)];rfl
def aL6(s:XS):RRes->Option XV
 |.tmp t=>some (cP s.env t)
 |.cell ag t=>match cP s.env t with
  |.ptr h off=>match s.lk h with
   |some (.box cs)=>aRu ag cs off some
   |_=>none
  |.apt h 0=>match s.lk h,ag with
   |some (.arr _ n k x),some m=>match bb m n with
    |true=>some (.d (.ar n k) x)
    |false=>none
   |_,_=>none
  |.rpt h off=>match s.lk h,ag with
   |some (.rb _ t x),some m=>aRu (some m) (lvs t x) off some
   |_,_=>none
  |_=>none
def tS(s:XS):List RRes->Option (List XV)
 |[]=>some []
 |r::rs=>match aL6 s r,tS s rs with
  |some v,some vs=>some (v::vs)
  |_,_=>none
theorem aS9[YL]{r:RRes}(h:aL6 s r=some v):rZ s.er r=some v.er:=by
 unfold aL6 at h;split at h
 ·cases h;rfl
 ·rename_i ag t;split at h
  ·rename_i hd off ht;split at h
   ·rename_i cs hl;obtain⟨v',h1,h2⟩:=aA8 h;cases h1;have e1:s.er.env t=.ptr hd off:=by show(cP s.env t).er=_;rw[ht];rfl
    have e2:s.er.lk hd=some (.box (XV.fcL cs)):=by rw[aT,hl];rfl
    simp only[rZ,e1,e2];cases ag with
    |none=>exact h2
    |some n=>
     obtain⟨h3,h4⟩:=h2;simp only;rw[if_pos h3,h4]
   ·cases h
  ·rename_i hd ht;split at h
   ·rename_i mt n k x m hl;split at h
    ·rename_i hb;obtain rfl:=ι hb;cases h;have e1:s.er.env t=.eptr hd 1 0 0:=by show(cP s.env t).er=_;rw[ht];rfl
     have e2:s.er.lk hd=some (.row mt 1 (x.l.map (arD k))):=by rw[aT,hl];rfl
     simp only[rZ,e1,e2];have hx:=x.len;rw[if_pos ⟨trivial,trivial,trivial,by rw[μ];omega⟩,cc,bc (by rw[μ];omega),aCi];rfl
    ·cases h
   ·cases h
  ·rename_i hd off ht;split at h
   ·rename_i mt t2 x m hl;obtain⟨v',h1,h2,h3⟩:=aA8 h;cases h1;have e1:s.er.env t=.eptr hd 1 off 0:=by show(cP s.env t).er=_;rw[ht];rfl
    have e2:s.er.lk hd=some (.row mt 1 (sgD (t2.ds x))):=by rw[aT,hl];rfl
    rw[cX]at h2 h3;rw[μ]at h2;simp only[rZ,e1,e2];rw[if_pos ⟨trivial,trivial,trivial,by rw[yF];exact h2⟩,aM6,aGs,h3,br,b6]
   ·cases h
  ·cases h
theorem aEe[YL]{s:XS}:∀{rs:List RRes} {vs:List XV},tS s rs=some vs->mU s.er rs=some (XV.erL vs)
 |[],vs,h=>by cases h;rfl
 |r::rs,vs,h=>by
  unfold tS at h;split at h
  ·rename_i v vs' h1 h2;cases h;show(match rZ s.er r,mU s.er rs with|some a,some as=>some (a::as)|_,_=>none)=_;rw[aS9 h1,aEe h2];rfl
  ·cases h
def nzR:List (Nat×XV)->List RRes->XS->XS
 |(_,m)::ms,r::rs,s=>match m,r with
  |.slw _ t _,.tmp n=>match cP s.env n with
   |.fln _=>nzR ms rs (s.put (some n) (.slw (.O s.own.length) t 0) [.row true t []] [])
   |.sl h t 0 len=>nzR ms rs (aMq s n h t len)
   |_=>nzR ms rs s
  |_,_=>nzR ms rs s
 |_,_,s=>s
theorem aGn[YL]:∀(ms:List (Nat×XV)) (rs:List RRes) (s:XS),Wk s.er (nzR ms rs s).er
 |[],_,s=>by unfold nzR;exact Wk.refl _
 |_::_,[],s=>by unfold nzR;exact Wk.refl _
 |(_,m)::ms,r::rs,s=>by
  unfold nzR;split
  ·split
   ·rename_i h;refine Wk.trans ?_ (aGn ms rs _);rw[cY];exact AState.own0_ok s.er _ _ (by show(cP s.env _).er=_;rw[h];rfl)
   ·rename_i h;exact(aK8 h).trans (aGn ms rs _)
   ·exact aGn ms rs s
  ·exact aGn ms rs s
def aT2(rs:List RRes)(s:XS)(n:Nat):XV:=match tS s rs with
 |some vs=>tV vs n
 |none=>.any
def bGl(rs:List RRes)(m:XS)(n:Nat)(s:XS):Bool:=match tS s rs with
 |some vs=>zJ 0 m.env vs&&bb s.bs.length n
 |none=>false
def bMl(rs:List RRes)(m s:XS):NZ:=⟨s,aYk vrO (aT2 rs s) m.env (aQv m.own)⟩
def nzF(rs:List RRes)(m s:XS):NZ:=bFc vrO 0 m.own (bDd vrO 0 m.bs (bMl rs m (nzR m.env rs s)))
def aZ6(rs:List RRes)(m:XS)(n:Nat)(K:tup m.tys->Option R)(st:NZ):Option R:=match bGl rs m n st.s with
 |true=>rd1 m (aT2 rs) st K
 |false=>none
def bBx:Hd->Hd->Bool
 |.B i,.B j=>bb i j
 |.O _,.O _=>true
 |_,_=>false
def bMc:List XV->List XV->Bool
 |[],_=>true
 |_::_,[]=>false
 |m::ms,v::vs=>(match m,v with
  |.ptr h _,.ptr h' _=>bBx h h'
  |.apt h _,.apt h' _=>bBx h h'
  |.rpt h _,.rpt h' _=>bBx h h'
  |_,_=>true)&&bMc ms vs
def bN6(rs:List RRes)(m s:XS):Bool:=match tS s rs with
 |some vs=>bAf (uQ m.env) vs&&bMc (uQ m.env) vs
 |none=>false
def yQ(rs:List RRes)(n:Nat):(l:List XS)->XS->(RT l->Option R)->Option R
 |[],_,_=>none
 |[m],s,K=>aZ6 rs m n (fun v=>K (toR m.tys v)) (nzF rs m s)
 |m::m2::l,s,K=>match bN6 rs m s with
  |true=>aZ6 rs m n (fun v=>K (.inl (toR m.tys v))) (nzF rs m s)
  |false=>yQ rs n (m2::l) s fun r=>K (.inr r)
def bBl:Value->Value->Bool
 |.iface t (.agg a),.iface t' (.agg c)=>bb t t'&&(a.isEmpty&&c.isEmpty)
 |_,_=>false
theorem aMf{v:Value}(h:bBl v w=true):v=w:=by
 unfold bBl at h;split at h
 ·rename_i t a t' c;rw[ν,ν]at h;obtain⟨h1,h2,h3⟩:=h;rw[ι h1,Array.isEmpty_iff.1 h2,Array.isEmpty_iff.1 h3]
 ·cases h
def aXu(pv:Value):(l:List XS)->(RT l->Option R)->Option R
 |[],_=>none
 |[m],K=>match m.pv,m.own,aDy m.tys []with
  |some w,[],some v=>match bBl w pv with
   |true=>K (toR m.tys v)
   |false=>none
  |_,_,_=>none
 |m::m2::l,K=>match m.pv,m.own,aDy m.tys []with
  |some w,[],some v=>match bBl w pv with
   |true=>K (.inl (toR m.tys v))
   |false=>aXu pv (m2::l) fun r=>K (.inr r)
  |_,_,_=>aXu pv (m2::l) fun r=>K (.inr r)
def bIt(rs:List RRes)(n:Nat)(out:List XS):Exit->XS->Option (RT out)
 |.normal,s=>yQ rs n out s some
 |.ret,s=>yQ rs n out s some
 |_,_=>none
def aZy(rs:List RRes)(out:List XS):Exit->XS->Option (RT out)
 |.normal,s=>yQ rs 0 out s some
 |.ret,s=>yQ rs 0 out s some
 |.panic [⟨v,false,false⟩],_=>aXu v out some
 |_,_=>none
def aIf:List XS->Bool
 |[]=>false
 |o::l=>o.pv.isSome||aIf l
def bOb[YL]:List XV->AV
 |[v]=>v.er
 |vs=>.tup (XV.erL vs)
theorem bDm[YL](h:mU s.er rs=some (XV.erL vs)):bAk s.er rs=some (bOb vs):=by
 unfold bAk;rw[h]
 match vs with
 |[]=>rfl
 |[_]=>rfl
 |_::_::_=>rfl
theorem bCp(h:zJ 0 m.env vs=true)(v:tup m.tys):(m.fill v).pv=none:=by
 unfold XS.pv;split
 ·rename_i k u he;have he:(aAh _ m.env _).1=[(k,.c u)]:=he;generalize m.env=l at h he;cases l with
  |nil=>cases he
  |cons p l=>
   obtain⟨k0,v0⟩:=p;cases vs with
   |nil=>cases h
   |cons a vs=>
    have h:(bb k0 0&&zJ 1 l vs)=true:=h;rw[ν]at h;have h1:=ι h.1;have h2:=congrArg (fun l=>l.map Prod.fst) he;have h2:k0::_=[k]:=h2;have:k0=k:=(List.cons.inj h2).1;rw[<-this,h1]
 ·rfl
theorem aVs[YL]{K:tup m.tys->Option R}{r:R}(h:aZ6 rs m n K (nzF rs m s)=some r):∃v,K v=some r/\(m.fill v).pv=none/\∀(e:Exit),(e=.normal\/e=.ret)->∀nbs:List Blk,nbs.map some=erB (m.fill v).own->
  pQ n rs (XV.val (m.fill v).env).er (erB (m.fill v).bs) nbs e s.er:=by
 unfold aZ6 at h;split at h
 case h_2=>cases h
 rename_i hok;obtain⟨v,sl,h,hr⟩:=bB8 h;have hw:Wk s.er (nzF rs m s).s.er:=(aGn m.env rs s).trans ((aMc vrO m.bs 0 (bMl rs m (nzR m.env rs s))).trans (aOi vrO _ _ _));generalize(nzF rs m s)=st at hok hr hw;unfold bGl at hok;split at hok
 case h_2=>cases hok
 rename_i vs hvs;rw[ν]at hok;obtain⟨hk,hb⟩:=hok;refine⟨v,h,bCp hk v,fun e he nbs hn=>⟨st.s.er,hw,he,sl,?_⟩⟩;have hb:=ι hb;have hres:aT2 rs st.s=tV vs:=by funext i;unfold aT2;rw[hvs]
 have henv:(m.fill v).env.map (fun p=>p.2.er)=vs.map fun v=>AV.conv st.s.er.lk (phi sl) v.er:=by have:=congrArg (fun l=>l.map (fun p:Nat×AV=>p.2)) hr.env;simp only[fq]at this;rw[hres]at this;rw[<-aCz (f:=fun v=>AV.conv st.s.er.lk (phi sl) v.er) hk (ev:=tV vs) fun i _=>by rw[bf]];exact this
 refine⟨_,hr.nd,bDm (aEe hvs),?_,?_,?_⟩
 ·generalize hf:(m.fill v).env=fe at henv;have hl:∀l:List (Nat×XV),XV.erL (l.map (·.2))=l.map fun p=>p.2.er:=fun l=>by
   induction l with
   |nil=>rfl
   |cons p l ih=>show p.2.er::XV.erL (l.map (·.2))=_;rw[ih];rfl
  cases vs with
  |nil=>cases fe with
   |nil=>rfl
   |cons p fe=>cases henv
  |cons a vs=>cases fe with
   |nil=>cases henv
   |cons p fe=>cases vs with
    |nil=>cases fe with
     |nil=>exact(List.head_eq_of_cons_eq henv).symm
     |cons p2 fe=>exact absurd (congrArg List.length henv) (by simp)
    |cons a2 vs=>cases fe with
     |nil=>exact absurd (congrArg List.length henv) (by simp)
     |cons p2 fe=>
      show AV.tup (AV.convL _ _ (XV.erL (a::a2::vs)))=AV.tup (XV.erL ((p::p2::fe).map (·.2)));rw[aI9,<-henv,hl]
 ·rw[hr.bs];apply List.ext_getElem?;intro i;rw[az,az];by_cases hi:i<n
  ·rw[List.getElem?_range hi];have h2:=oI st.s.bs i;have hl:i<(erB st.s.bs).length:=by show i<(List.map _ _).length;rw[μ];omega
   rw[ε hl]at h2|-;have h2:(erB st.s.bs)[i]=(bG st.s.bs i).map XB.er:=h2;rw[h2];rfl
  ·rw[db (by rw[List.length_range];omega),db (by show(List.map _ _).length<=i;rw[μ];omega)];rfl
 ·rw[hn,hr.own];have:∀l:List Nat,(erB (rH st.s l)).map (fun b=>b.map (Blk.conv st.s.er.lk (phi sl)))=l.map fun j=>(st.s.er.own j).map (Blk.conv st.s.er.lk (phi sl)):=fun l=>by
   induction l with
   |nil=>rfl
   |cons j l ih=>show _::List.map _ (erB (rH st.s l))=_::_;rw[ih];rfl
  exact(this sl).symm
theorem mJ[YL]{rs:List RRes}{n:Nat}:∀{l:List XS} {s:XS} {K:RT l->Option R} {r:R},yQ rs n l s K=some r->∃x,K x=some r/\(dA l x).pv=none/\∀(e:Exit),(e=.normal\/e=.ret)->∀nbs:List Blk,nbs.map some=erB (dA l x).own->
  pQ n rs (XV.val (dA l x).env).er (erB (dA l x).bs) nbs e s.er
 |[],_,_,_,h=>by cases h
 |[m],s,K,r,h=>by
  obtain⟨v,h,hp,hv⟩:=aVs (show aZ6 rs m n (fun v=>K (toR m.tys v)) (nzF rs m s)=some r from h);refine⟨toR m.tys v,h,?_⟩;have e:dA [m] (toR m.tys v)=m.fill v:=by show m.fill (ofR m.tys (toR m.tys v))=_;rw[uW]
  rw[e];exact⟨hp,hv⟩
 |m::m2::l,s,K,r,h=>by
  unfold yQ at h;split at h
  ·obtain⟨v,h,hp,hv⟩:=aVs h;refine⟨.inl (toR m.tys v),h,?_⟩;have e:dA (m::m2::l) (.inl (toR m.tys v))=m.fill v:=by show m.fill (ofR m.tys (toR m.tys v))=_;rw[uW]
   rw[e];exact⟨hp,hv⟩
  ·obtain⟨x,h,hx⟩:=mJ (l:=m2::l) h;exact⟨.inr x,h,hx⟩
def bEn(N:Nat)(P:Program)(T:List Sig)(fl:List Nat)(F:List (Nat×Nat×List Nat))(A:List Ann)(d:Nat)(fn:Func)(c:Code)(ent:XS)(out:List XS):fty ent.tys (RT out):=
 match aJ P fl fn.ntmps c,cG P fn.ntmps fn.results.toList with
 |some rc,some rs=>match aIf out,ent.bs with
  |false,_=>cuF ent.tys fun v=>eR N T (mkX P fl F A c rc) noX (stS d (ent.fill v)) (bIt rs ent.bs.length out)
  |true,[]=>cuF ent.tys fun v=>eR N T (mkX P fl F A c rc) rV (stS d (ent.fill v)) (aZy rs out)
  |_,_=>cuF ent.tys fun _=>none
 |_,_=>cuF ent.tys fun _=>none
theorem xK(len:Hd->Nat):∀(l:List (Nat×XV)) (q:List DS),(aAh len l q).1.length=l.length
 |[],_=>rfl
 |(_,_)::l,q=>congrArg (· +1) (xK len l _)
theorem qH(len:Hd->Nat):∀(l:List (Option XB)) (q:List DS),(pN len l q).1.length=l.length
 |[],_=>rfl
 |none::l,q=>congrArg (· +1) (qH len l _)
 |some _::l,q=>congrArg (· +1) (qH len l _)
theorem aVj(h:m.pv=some w)(v:tup m.tys):(m.fill v).pv=some w:=by
 unfold XS.pv at h;split at h
 ·rename_i k u he;split at h
  ·rename_i hk;cases h;have:(m.fill v).env=[(k,.c w)]:=by show(aAh _ m.env _).1=_;rw[he];rfl
   unfold XS.pv;rw[this];show(match bb k 1000000 with|true=>some w|false=>none)=some w;rw[hk]
  ·cases h
 ·cases h
theorem aCb(h:m.own=[])(v:tup m.tys):(m.fill v).own=[]:=by show(pN _ m.own _).1=[];rw[h];rfl
theorem aMn{pv:Value}:∀{l:List XS} {K:RT l->Option R} {r:R},aXu pv l K=some r->∃x,K x=some r/\(dA l x).pv=some pv/\(dA l x).own=[]
 |[],_,_,h=>by cases h
 |[m],K,r,h=>by
  unfold aXu at h;split at h
  case h_2=>cases h
  rename_i w v hw ho ht;split at h
  case h_2=>cases h
  rename_i he;refine⟨_,h,?_⟩;have e:dA [m] (toR m.tys v)=m.fill v:=by show m.fill (ofR m.tys (toR m.tys v))=_;rw[uW]
  rw[e,<-aMf he];exact⟨aVj hw v,aCb ho v⟩
 |m::m2::l,K,r,h=>by
  unfold aXu at h;split at h
  ·rename_i w v hw ho ht;split at h
   ·rename_i he;refine⟨_,h,?_⟩;have e:dA (m::m2::l) (.inl (toR m.tys v))=m.fill v:=by show m.fill (ofR m.tys (toR m.tys v))=_;rw[uW]
    rw[e,<-aMf he];exact⟨aVj hw v,aCb ho v⟩
   ·obtain⟨x,h,hx⟩:=aMn (l:=m2::l) h;exact⟨.inr x,h,hx⟩
  ·obtain⟨x,h,hx⟩:=aMn (l:=m2::l) h;exact⟨.inr x,h,hx⟩
abbrev pan(v:Value):Exit:=.panic [{v:=v,recovered:=false}]
theorem bMu{len:Hd->Nat}{u:Value}:∀{v:XV} {l:List DS},(XV.fil len v l).1=.c u->v=.c u:=by
 intro v l h;cases v with
 |d t x=>
  cases l with
  |nil=>cases h
  |cons p l=>
   obtain⟨t',x'⟩:=p;have h:aC8 t' x'=.c u:=h;unfold aC8 at h;split at h<;>cases h
 |c w=>exact h
 |sl hd t o n=>match l,h with
  |[],h=>cases h
  |[_],h=>cases h
  |_::_::_,h=>cases h
 |_=>cases h
theorem aI0{v:tup m.tys}(h:(m.fill v).pv=some w):m.pv=some w:=by
 unfold XS.pv at h;split at h
 case h_2=>cases h
 rename_i k u he;have he:(aAh _ m.env _).1=[(k,.c u)]:=he;revert he;cases hm:m.env with
 |nil=>intro he;cases he
 |cons p l=>
  obtain⟨k0,v0⟩:=p;cases l with
  |nil=>
   intro he;have he:[(k0,_)]=[(k,XV.c u)]:=he;have h1:=(Prod.mk.inj (List.cons.inj he).1);have h2:=bMu h1.2;have h3:=h1.1;subst h2 h3;unfold XS.pv;rw[hm];exact h
  |cons q l=>
   obtain⟨k1,v1⟩:=q;intro he;exact absurd (congrArg List.length he) (by simp[aAh])
theorem bAr:∀{l:List XS} {r:RT l},aIf l=false->(dA l r).pv=none
 |[],_,_=>rfl
 |[m],r,h=>by
  have h:(m.pv.isSome||false)=false:=h;rw[Bool.or_false]at h;show(m.fill _).pv=none;cases hp:(m.fill (ofR m.tys r)).pv with
  |none=>rfl
  |some w=>rw[aI0 hp]at h;cases h
 |m::m2::l,.inl r,h=>by
  have h:(m.pv.isSome||aIf (m2::l))=false:=h;rw[im]at h;show(m.fill _).pv=none;cases hp:(m.fill (ofR m.tys r)).pv with
  |none=>rfl
  |some w=>rw[aI0 hp]at h;cases h.1
 |m::m2::l,.inr r,h=>by have h:(m.pv.isSome||aIf (m2::l))=false:=h;rw[im]at h;exact bAr (l:=m2::l) h.2
def aNr[YL](rs:List RRes)(o:XS)(nbs:List Blk):Exit->AState->Prop:=fun e s=>match o.pv with
 |some pv=>e=pan pv
 |none=>pQ 0 rs (XV.val o.env).er (erB o.bs) nbs e s
theorem bA2[YL]{r:RT out}{e:Exit}(h:aZy rs out e s=some r)(hnbs:nbs.map some=erB (dA out r).own):aNr rs (dA out r) nbs e s.er:=by
 unfold aZy at h;split at h
 ·obtain⟨x,hx,hp,hq⟩:=mJ h;cases hx;unfold aNr;rw[hp];exact hq _ (.inl rfl) nbs hnbs
 ·obtain⟨x,hx,hp,hq⟩:=mJ h;cases hx;unfold aNr;rw[hp];exact hq _ (.inr rfl) nbs hnbs
 ·obtain⟨x,hx,hp,_⟩:=aMn h;cases hx;unfold aNr;rw[hp]
 ·cases h
theorem AOut.of_bodyX(fl:List Nat){rc:RCode}{pv:Value}{o:Option (AV×List Blk)}(s0:AState)
  (hf:P.funcs[f]?=some fn) (hb:fn.body=some c) (hname:(fn.name== "runtime.NumGoroutine")=false) (hm:P.follows .mixedOrders=true) (hrc:aJ P fl fn.ntmps c=some rc) (hrs:cG P fn.ntmps fn.results.toList=some rs)
  (hn:args.length<=fn.ntmps) (hw0:Wk (entry args []) s0) (h:eM P kN rc (fun e s=>match o with
   |some p=>pQ 0 rs p.1 bs' p.2 e s
   |none=>e=pan pv) s0):match o with
   |some p=>ACall P f args [] p.1 bs' p.2
   |none=>aPo P f args pv:=by
 have hrs0:=aBp hrs;cases o with
 |some p=>
  refine fun w G m vs hS hO hA=>.inl ⟨⟨fn,hf,by rw[hb];rfl,hname⟩,aBn (r:=none) (n:=0) (callsIn_of_wp hf hb (oV none f) ?_)⟩;have hent:=sX true hn hS hO hA;have hsim0:=hw0 _ _ _ ⟨G,m,hent⟩;refine wpIn_mono (bB hm hrc none kN _ _ _ _ _ YOk.body rfl h hsim0) fun e a' w' ⟨s00,⟨s,hw,hq⟩,hA0⟩=>?_;obtain⟨G1,m1,hA'⟩:=hw _ _ _ hA0;obtain⟨v,hv,hp⟩:=aAa (bs:=[]) hrs0 rfl rfl rfl rfl hS hA' hq;have hd:a'.defers=[]:=(lL.1 hA'.defers).2.2 rfl;rcases hq.1 with rfl|rfl<;>exact⟨hd,v,hv,v,rfl,hp⟩
 |none=>
  refine fun w G m vs hS hO hA=>⟨⟨fn,hf,by rw[hb];rfl,hname⟩,aBn (r:=none) (n:=0) (callsIn_of_wp hf hb (oV none f) ?_)⟩;have hent:=sX true hn hS hO hA;have hsim0:=hw0 _ _ _ ⟨G,m,hent⟩;refine wpIn_mono (bB hm hrc none kN _ _ _ _ _ YOk.body rfl h hsim0) fun e a' w' ⟨s,hq,G1,m1,hA'⟩=>?_;have hq:e=.panic [{v:=pv,recovered:=false}]:=hq;subst hq;have hd:a'.defers=[]:=(lL.1 hA'.defers).2.2 rfl;exact⟨hd,rfl,bDk (P:=P) rfl rfl rfl rfl hS hA' rfl rfl⟩
theorem bNd(N:Nat){T:List Sig}(hT:jD P T)(fl:List Nat)(A:List Ann)(d:Nat)(RF:List (Nat×Nat×List Nat)){F:fty ent.tys (RT out)}(hf:P.funcs[f]?=some fn)(hb:fn.body=some c)(hname:(fn.name== "runtime.NumGoroutine")=false)(hm:P.follows .mixedOrders=true)
  (hn:ent.env.length<=fn.ntmps) (hF:∀a,apF ent.tys F a=apF ent.tys (bEn N P T fl RF A d fn c ent out) a):aI P ⟨f,ent,out,F⟩:=by
 intro _ v r h nbs hnbs;have h:apF ent.tys F v=some r:=h;rw[hF]at h;unfold bEn at h;split at h
 case h_2=>rw[cU]at h;cases h
 rename_i rc rs hrc hrs;have hlen:(erB (ent.fill v).bs).length=ent.bs.length:=by show(List.map _ (pN _ ent.bs _).1).length=_;rw[μ,qH]
 have hargs:((ent.fill v).env.map fun p=>p.2.er).length<=fn.ntmps:=by show(List.map _ (aAh _ ent.env _).1).length<=_;rw[μ,xK];exact hn
 show aCm P f _ _ (dA out r) nbs;split at h
 ·rw[cU]at h;rename_i hany;have hpv:(dA out r).pv=none:=bAr hany;unfold aCm;rw[hpv];refine ACall.of_bodyX fl _ hf hb hname hm hrc hrs hargs (bAc d (ent.fill v)) ?_;have:=cC hT (zR P fl RF A c rc) _ noX noY YRel.no h (Q:=pQ ent.bs.length rs (XV.val (dA out r).env).er (erB (dA out r).bs) nbs) fun e s' h=>by
   cases e with
   |normal=>
    obtain⟨x,hx,_,hq⟩:=mJ (show yQ rs ent.bs.length out s' some=some r from h);cases hx;exact hq _ (.inl rfl) nbs hnbs
   |ret=>
    obtain⟨x,hx,_,hq⟩:=mJ (show yQ rs ent.bs.length out s' some=some r from h);cases hx;exact hq _ (.inr rfl) nbs hnbs
   |_=>cases h
  rw[zP]at this;rw[hlen];exact this
 ·rename_i hbs;rw[cU]at h;have hb0:erB (ent.fill v).bs=[]:=by rw[aSn hbs];rfl
  have hrun:=cC hT (zR P fl RF A c rc) _ rV kN YRel.body h (Q:=aNr rs (dA out r) nbs) fun e s' h=>bA2 h hnbs;rw[zP]at hrun;rw[hb0];have hwk:=bAc d (ent.fill v);rw[hb0]at hwk;unfold aCm;cases hp:(dA out r).pv with
  |none=>
   refine AOut.of_bodyX fl (pv:=.nilIface) (o:=some ((XV.val (dA out r).env).er,nbs)) _ hf hb hname hm hrc hrs hargs hwk ?_;have e:aNr rs (dA out r) nbs=pQ 0 rs (XV.val (dA out r).env).er (erB (dA out r).bs) nbs:=by funext e s;unfold aNr;rw[hp]
   rw[e]at hrun;exact hrun
  |some pv=>
   intro _;refine AOut.of_bodyX fl (pv:=pv) (o:=none) (bs':=[]) _ hf hb hname hm hrc hrs hargs hwk ?_;have e:aNr rs (dA out r) nbs=fun e _=>e=pan pv:=by funext e s;unfold aNr;rw[hp]
   rw[e]at hrun;exact hrun
 ·rw[cU]at h;cases h
theorem bOn(N:Nat){T:List Sig}(hT:jD P T)(fl:List Nat)(A:List Ann)(d:Nat){F:fty ent.tys (RT out)}(hf:P.funcs[f]?=some fn)(hb:fn.body=some c)(hname:(fn.name== "runtime.NumGoroutine")=false)(hm:P.follows .mixedOrders=true)
  (hn:ent.env.length<=fn.ntmps) (hF:∀a,apF ent.tys F a=apF ent.tys (bEn N P T fl [] A d fn c ent out) a):aI P ⟨f,ent,out,F⟩:=bNd N hT fl A d [] hf hb hname hm hn hF
theorem tc{a:Sig}{T:List Sig}(h:aI P a)(t:jD P T):jD P (a::T):=⟨h,t⟩
theorem tn:jD P []:=trivial
theorem xf(N:Nat){T:List Sig}(hT:jD P T)(fl:List Nat)(A:List Ann)(d:Nat){F:fty ent.tys (RT out)}(hf:P.funcs[f]?=some fn)(hb:fn.body=some c)(hk:(!(fn.name== "runtime.NumGoroutine")&&(P.follows .mixedOrders&&lg ent.env.length fn.ntmps))=true)(hF:∀a,apF ent.tys F a=apF ent.tys (bEn N P T fl [] A d fn c ent out) a):aI P ⟨f,ent,out,F⟩:=by simp only[ν,dc]at hk;exact bOn N hT fl A d hf hb hk.1 hk.2.1 (fg hk.2.2) hF
def dd(t:Ty):XV:=.d t t.z
end
section
variable{R:Type}
def qN(P:Program)(u u1:FrameMode)(g:Sig):Prop:=∀[YL] (v:tup g.ent.tys) (r:RT g.out),apF g.ent.tys g.F v=some r->(dA g.out r).own=[]->
 DRec P g.fn ((g.ent.fill v).env.map fun p=>p.2.er) (erB (g.ent.fill v).bs) u u1 (erB (dA g.out r).bs)
def bKm(t:Nat)(pv:Value)(s:XS):XS:={env:=(t,.c pv)::zM 0 (uQ s.env),bs:=s.bs,own:=[]}
def bIm(s:XS):XS:={env:=zM 0 (uQ s.env),bs:=s.bs,own:=[]}
theorem aVa[YL](l:List (Nat×XV))(t:Nat):(cP (zM 0 (uQ l)) t).er=(l.map fun p=>p.2.er).getD t .un\/(cP (zM 0 (uQ l)) t).er=.any:=by
 rw[wK,if_pos (di _),Nat.sub_zero];have:∀(l:List (Nat×XV)) (i:Nat),(tV (uQ l) i).er=(l.map fun p=>p.2.er).getD i .un\/(tV (uQ l) i).er=.any:=fun l=>by
  induction l with
  |nil=>intro i;exact .inr rfl
  |cons v l ih=>
   intro i;cases i with
   |zero=>exact .inl rfl
   |succ i=>
    rcases ih i with h|h
    ·left;show(tV (uQ l) i).er=(v.2.er::l.map fun p=>p.2.er).getD (i+1) .un;rw[h,kg]
    ·exact .inr h
 exact this l t
theorem aT6[YL](s:XS):Wk (entry (s.env.map fun p=>p.2.er) (erB s.bs)) (bIm s).er:=by refine Wk.any (fun i=>?_) (fun i=>rfl) rfl fun t=>aVa s.env t;show(bG s.bs i).map XB.er=((erB s.bs)[i]?).join;rw[oI]
theorem bC3[YL](t:Nat)(pv:Value)(s:XS):Wk (bBr (s.env.map fun p=>p.2.er) (erB s.bs) t pv) (bKm t pv s).er:=by
 have e:bBr (s.env.map fun p=>p.2.er) (erB s.bs) t pv={env:=fun i=>if i=t then .D (.C pv)else(s.env.map fun p=>p.2.er).getD i .un,bs:=fun i=>((erB s.bs)[i]?).join,own:=fun _=>none,nx:=0}:=by
  refine AState.ext' (fun i=>?_) (fun i=>?_) (fun i=>?_) rfl
  ·show upd _ t _ i=_;unfold upd;rfl
  ·rfl
  ·rfl
 rw[e];refine Wk.any (fun i=>?_) (fun i=>rfl) rfl fun i=>?_
 ·show(bG s.bs i).map XB.er=((erB s.bs)[i]?).join;rw[oI]
 ·show(if bb i t then XV.c pv else cP (zM 0 (uQ s.env)) i).er=_\/_;show(if bb i t then XV.c pv else cP (zM 0 (uQ s.env)) i).er=(if i=t then AV.D (DV.C pv)else(List.map (fun p=>p.snd.er) s.env).getD i AV.un)\/(if bb i t then XV.c pv else cP (zM 0 (uQ s.env)) i).er=.any;by_cases h:i=t
  ·left;rw[if_pos (by rw[gm];exact h),if_pos h];rfl
  ·rw[if_neg (by rw[gm];exact h),if_neg h];exact aVa s.env i
def bO6:Code->Option (Nat×Code)
 |.seq (.region _ ops false) rest=>match ops.toList with
  |[o]=>match o.dst with
   |some t=>some (t,rest)
   |none=>none
  |_=>none
 |_=>none
def bFm(N:Nat)(P:Program)(T:List Sig)(fl:List Nat)(A:List Ann)(pv:Value)(t:Nat)(fn:Func)(rest:Code)(ent:XS)(out:List XS):fty ent.tys (RT out):=
 match aJ P fl fn.ntmps rest,cG P fn.ntmps fn.results.toList with
 |some rc,some rs=>cuF ent.tys fun v=>eR N T (mkX P fl [] A rest rc) rV (bKm t pv (ent.fill v)) (bIt rs ent.bs.length out)
 |_,_=>cuF ent.tys fun _=>none
theorem bGa(N:Nat){T:List Sig}(hT:jD P T)(fl:List Nat)(A:List Ann){id t:Nat}{o:Oper}{cl:Call}{rest:Code}{pv:Value}{F:fty ent.tys (RT out)}
  (hf:P.funcs[f]?=some fn) (hb:fn.body=some (.seq (.region id #[o] false) rest)) (hname:(fn.name== "runtime.NumGoroutine")=false)
  (ho:o.op=.call cl) (hcl:cl.callee=.builtin .recover) (hca:cl.args=#[]) (hog:o.guard=none) (hot:o.dst=some t) (ht:t<fn.ntmps) (hm:P.follows .mixedOrders=true) (hrec:aU9 u u1 pv)
  (hn:ent.env.length<=fn.ntmps) (hF:∀a,apF ent.tys F a=apF ent.tys (bFm N P T fl A pv t fn rest ent out) a):qN P u u1 ⟨f,ent,out,F⟩:=by
 intro _ v r h hown;have h:apF ent.tys F v=some r:=h;rw[hF]at h;unfold bFm at h;split at h
 case h_2=>rw[cU]at h;cases h
 rename_i rc rs hrc hrs;rw[cU]at h;have hlen:(erB (ent.fill v).bs).length=ent.bs.length:=by show(List.map _ (pN _ ent.bs _).1).length=_;rw[μ,qH]
 have hargs:((ent.fill v).env.map fun p=>p.2.er).length<=fn.ntmps:=by show(List.map _ (aAh _ ent.env _).1).length<=_;rw[μ,xK];exact hn
 have hown:(dA out r).own=[]:=hown;refine DRec.of_body fl (r:=(XV.val (dA out r).env).er) hf hb hname ho hcl hca hog hot ht hm hrc hrs hargs hrec (bC3 t pv (ent.fill v)) ?_;rw[hlen];have:=cC hT (zR P fl [] A rest rc) _ rV kN YRel.body h (Q:=pQ ent.bs.length rs (XV.val (dA out r).env).er (erB (dA out r).bs) []) fun e s' h=>by
  cases e with
  |normal=>
   obtain⟨x,hx,_,hq⟩:=mJ (show yQ rs ent.bs.length out s' some=some r from h);cases hx;exact hq _ (.inl rfl) [] (by rw[hown];rfl)
  |ret=>
   obtain⟨x,hx,_,hq⟩:=mJ (show yQ rs ent.bs.length out s' some=some r from h);cases hx;exact hq _ (.inr rfl) [] (by rw[hown];rfl)
  |_=>cases h
 rw[zP]at this;exact this
theorem DRec.of_bodyK(fl:List Nat)(s0:AState){rc:RCode}{bs:List (Option Blk)}{r:AV}
  (hf:P.funcs[f]?=some fn) (hb:fn.body=some c) (hname:(fn.name== "runtime.NumGoroutine")=false) (hm:P.follows .mixedOrders=true) (hrc:aJ P fl fn.ntmps c=some rc) (hrs:cG P fn.ntmps fn.results.toList=some rs)
  (hn:args.length<=fn.ntmps) (hw0:Wk (entry args bs) s0) (h:eM P kN rc (pQ bs.length rs r bs' []) s0):DRec P f args bs u u bs':=by have hrs0:=aBp hrs;refine⟨⟨fn,hf,by rw[hb];rfl,hname⟩,fun w G m vs hS hO hA=>?_⟩;refine callsDIn_of_wp (R:=fun e w'=>∃v,e=.returned v/\qZ w G m (gT bs' []) .any v w') hf hb (oV none f) ?_;have hent:=sX true hn hS hO hA;have hsim0:=hw0 _ _ _ ⟨G,m,hent⟩;refine wpIn_mono (bB hm hrc none kN _ _ _ _ _ YOk.body rfl h hsim0) fun e a' w' ⟨s00,⟨s,hw,hq⟩,hA0⟩=>?_;obtain⟨G1,m1,hA'⟩:=hw _ _ _ hA0;obtain⟨v,hv,G2,m2,p1,_,p3⟩:=aAa hrs0 rfl rfl rfl rfl hS hA' hq;have hd:a'.defers=[]:=(lL.1 hA'.defers).2.2 rfl;rcases hq.1 with rfl|rfl<;>exact⟨hd,v,hv,v,rfl,G2,m2,p1,by unfold AV.Rep;trivial,p3⟩
theorem bLc(N:Nat){T:List Sig}(hT:jD P T)(fl:List Nat)(A:List Ann){F:fty ent.tys (RT out)}
  (hf:P.funcs[f]?=some fn) (hb:fn.body=some c) (hname:(fn.name== "runtime.NumGoroutine")=false) (hm:P.follows .mixedOrders=true)
  (hn:ent.env.length<=fn.ntmps) (hF:∀a,apF ent.tys F a=apF ent.tys (match aJ P fl fn.ntmps c,cG P fn.ntmps fn.results.toList with
   |some rc,some rs=>cuF ent.tys fun v=>eR N T (mkX P fl [] A c rc) rV (bIm (ent.fill v)) (bIt rs ent.bs.length out)
   |_,_=>cuF ent.tys fun _=>none) a):qN P u u ⟨f,ent,out,F⟩:=by
 intro _ v r h hown;have h:apF ent.tys F v=some r:=h;rw[hF]at h;split at h
 case h_2=>rw[cU]at h;cases h
 rename_i rc rs hrc hrs;rw[cU]at h;have hlen:(erB (ent.fill v).bs).length=ent.bs.length:=by show(List.map _ (pN _ ent.bs _).1).length=_;rw[μ,qH]
 have hargs:((ent.fill v).env.map fun p=>p.2.er).length<=fn.ntmps:=by show(List.map _ (aAh _ ent.env _).1).length<=_;rw[μ,xK];exact hn
 have hown:(dA out r).own=[]:=hown;refine DRec.of_bodyK fl _ (r:=(XV.val (dA out r).env).er) hf hb hname hm hrc hrs hargs (aT6 (ent.fill v)) ?_;rw[hlen];have:=cC hT (zR P fl [] A c rc) _ rV kN YRel.body h (Q:=pQ ent.bs.length rs (XV.val (dA out r).env).er (erB (dA out r).bs) []) fun e s' h=>by
  cases e with
  |normal=>
   obtain⟨x,hx,_,hq⟩:=mJ (show yQ rs ent.bs.length out s' some=some r from h);cases hx;exact hq _ (.inl rfl) [] (by rw[hown];rfl)
  |ret=>
   obtain⟨x,hx,_,hq⟩:=mJ (show yQ rs ent.bs.length out s' some=some r from h);cases hx;exact hq _ (.inr rfl) [] (by rw[hown];rfl)
  |_=>cases h
 rw[zP]at this;exact this
def bNs(N:Nat)(vs:List XV)(s:XS):XS:={s with env:=ltE N s.env++zM (N+1) vs}
theorem aH4(N:Nat)(l2:List (Nat×XV))(h2:∀i,i<N->cP l2 i=.any):∀(l:List (Nat×XV)) (i:Nat),i<N->cP (ltE N l++l2) i=cP l i
 |[],i,h=>h2 i h
 |(k,v)::l,i,h=>by
  unfold ltE;split
  ·show(if bb i k then v else cP (ltE N l++l2) i)=if bb i k then v else cP l i
   rw[aH4 N l2 h2 l i h]
  ·rename_i hk;have hk:¬k<N:=fun h=>by rw[show Nat.blt k N=true by rw[Nat.blt_eq];exact h]at hk;cases hk
   show cP (ltE N l++l2) i=if bb i k then v else cP l i
   rw[aH4 N l2 h2 l i h,if_neg (by rw[gm];omega)]
theorem aGw(N:Nat)(l2:List (Nat×XV)):∀(l:List (Nat×XV)) (i:Nat),N<=i->cP (ltE N l++l2) i=cP l2 i
 |[],i,h=>rfl
 |(k,v)::l,i,h=>by
  unfold ltE;split
  ·rename_i hk;have hk:k<N:=by rwa[Nat.blt_eq]at hk
   show(if bb i k then v else cP (ltE N l++l2) i)=_;rw[if_neg (by rw[gm];omega),aGw N l2 l i h]
  ·exact aGw N l2 l i h
theorem aRh[YL]:∀(vs:List XV) (i:Nat),(tV vs i).er=(XV.erL vs).getD i .any
 |[],i=>by cases i<;>rfl
 |v::vs,0=>rfl
 |v::vs,i+1=>by show(tV vs i).er=(v.er::XV.erL vs).getD (i+1) .any;rw[aRh vs i,kg]
theorem bDh[YL](N:Nat)(vs:List XV)(s:XS):(bNs N vs s).er=aY0 N (XV.erL vs) s.er:=by
 refine AState.ext' (fun i=>?_) (fun i=>rfl) (fun i=>rfl) rfl;show(cP (ltE N s.env++zM (N+1) vs) i).er=if i<N then(cP s.env i).er else if i=N then .any else(XV.erL vs).getD (i-N-1) .any
 by_cases h:i<N
 ·rw[if_pos h,aH4 N _ (fun j hj=>by rw[wK,if_neg (by omega)]) _ i h]
 ·rw[if_neg h,aGw N _ _ i (by omega),wK];by_cases h2:i=N
  ·rw[if_pos h2,if_neg (by omega)];rfl
  ·rw[if_neg h2,if_pos (by omega),aRh];rw[Nat.sub_sub]
def dvX(N:Nat)(s:XS):Nat->List XV
 |0=>[]
 |n+1=>dvX N s n++[cP s.env (N+1+n)]
theorem aSu[YL](N:Nat)(s:XS):∀n,XV.erL (dvX N s n)=aFb N s.er n
 |0=>rfl
 |n+1=>by show XV.erL (dvX N s n++[_])=aFb N s.er n++[_];rw[pS,aSu N s n];rfl
def aQ2:List XS->Bool
 |[]=>true
 |m::l=>(match m.own with
  |[]=>true
  |_=>false)&&aQ2 l
theorem aPh:∀{l:List XS} (r:RT l),aQ2 l=true->(dA l r).own=[]
 |[],_,_=>rfl
 |[m],r,h=>by
  have h:((match m.own with|[]=>true|_=>false)&&true)=true:=h;rw[gq]at h;split at h
  ·rename_i ho;exact aCb ho _
  ·cases h
 |m::m2::l,.inl r,h=>by
  have h:((match m.own with|[]=>true|_=>false)&&aQ2 (m2::l))=true:=h;rw[ν]at h;obtain⟨h,_⟩:=h;split at h
  ·rename_i ho;exact aCb ho _
  ·cases h
 |m::m2::l,.inr r,h=>by have h:((match m.own with|[]=>true|_=>false)&&aQ2 (m2::l))=true:=h;rw[ν]at h;exact aPh (l:=m2::l) r h.2
def aZb(g:Sig)(N k:Nat)(s:XS)(K:XS->Option R):Option R:=match aQ2 g.out,aZt (bIa vrB s 0 g.ent.bs (aYk vrB (tV (dvX N s k)) g.ent.env (aQv g.ent.bs)))with
 |true,some hs=>aFw s g (dvX N s k) none K hs
 |_,_=>none
def aQl(g:Sig)(N k:Nat)(rs:List RRes)(n:Nat)(out:List XS)(s:XS):Option (RT out):=aZb g N k s fun s'=>yQ rs n out s' some
def bF4(gr gp:Sig)(pv:Value)(N k:Nat)(rs:List RRes)(n:Nat)(out:List XS):Exit->XS->Option (RT out)
 |.normal,s=>aQl gr N k rs n out s
 |.ret,s=>aQl gr N k rs n out s
 |.panic [⟨v,false,false⟩],s=>match bBl v pv with
  |true=>aQl gp N k rs n out s
  |false=>none
 |_,_=>none
def bA6(N:Nat)(T:List Sig){R:Type}[DecidableEq R](K2:Exit->XS->Option R):List XC->XS->(XS->Option R)->Option R
 |[],s,K=>K s
 |c::cs,s,K=>eR N T c rV s (aXf (fun s'=>bA6 N T K2 cs s' K) K2)
def bKv(rs:List RRes)(n:Nat)(out:List XS):Exit->XS->Option (RT out)
 |.ret,s=>yQ rs n out s some
 |_,_=>none
def aZe:Code->List Code
 |.seq a b=>a::aZe b
 |c=>[c]
def bAd:Nat->Code->Code
 |0,c=>c
 |n+1,.seq _ b=>bAd n b
 |_,c=>c
def aW8(P:Program)(fl:List Nat):List (List Ann)->List Code->List RCode->List XC
 |AP,c::cs,rc::rcs=>mkX P fl [] (AP.headD []) c rc::aW8 P fl AP.tail cs rcs
 |AP,[],rc::rcs=>mkX P fl [] [] .skip rc::aW8 P fl AP.tail [] rcs
 |_,_,[]=>[]
def bF6:List Code->Nat->List Oper
 |[],_=>[]
 |c::_,0=>match c with
  |.region _ ops _=>ops.toList
  |_=>[]
 |_::cs,n+1=>bF6 cs n
def aYt(N:Nat)(P:Program)(T:List Sig)(fl:List Nat)(A:List Ann)(AP:List (List Ann))(gr gp:Sig)(pv:Value)(fn:Func)(c:Code)(ent:XS)(out:List XS):fty ent.tys (RT out):=
 match dE P fl fn.ntmps c,cG P fn.ntmps fn.results.toList with
 |some (rcs,ros,g,xs,rc),some rs=>match bb g gr.fn&&bb g gp.fn with
  | true=>cuF ent.tys fun v=>bA6 N T (bKv rs ent.bs.length out) (aW8 P fl AP (aZe c) rcs) (bIm (ent.fill v)) fun s=>aBt T (vV ros ((bF6 (aZe c) rcs.length).map (xF P))) s fun s=>wL s xs fun vs =>
    eR N T (mkX P fl [] A (bAd (rcs.length+1) c) rc) rV (bNs fn.ntmps vs s) (bF4 gr gp pv fn.ntmps xs.length rs ent.bs.length out)
  |false=>cuF ent.tys fun _=>none
 |_,_=>cuF ent.tys fun _=>none
theorem aMs[YL]{P:Program}{N:Nat}{T:List Sig}(hT:jD P T){fl:List Nat}[DecidableEq R]{r:R}{KP:AState->Prop}{Q:Exit->AState->Prop}{K:XS->Option R}{K2:Exit->XS->Option R}(hK:∀s,K s=some r->KP s.er)(hQ:∀e s,K2 e s=some r->Q e s.er):∀{AP:List (List Ann)} {cs:List Code} {rcs:List RCode} {s:XS},bA6 N T K2 (aW8 P fl AP cs rcs) s K=some r->zH P rcs KP Q s.er
 |_,[],[],s,h=>hK s h
 |_,_::_,[],s,h=>hK s h
 |AP,[],rc::rcs,s,h=>by
  have h:eR N T (mkX P fl [] [] .skip rc) rV s (aXf (fun s'=>bA6 N T K2 (aW8 P fl AP.tail [] rcs) s' K) K2)=some r:=h;have:=cC hT (zR P fl [] [] .skip rc) _ rV kN YRel.body h (Q:=xG (zH P rcs KP Q) Q) fun e s' h=>by
   cases e with
   |normal=>exact aMs hT hK hQ h
   |_=>exact hQ _ _ h
  rw[zP]at this;exact this
 |AP,c::cs,rc::rcs,s,h=>by
  have h:eR N T (mkX P fl [] (AP.headD []) c rc) rV s (aXf (fun s'=>bA6 N T K2 (aW8 P fl AP.tail cs rcs) s' K) K2)=some r:=h;have:=cC hT (zR P fl [] (AP.headD []) c rc) _ rV kN YRel.body h (Q:=xG (zH P rcs KP Q) Q) fun e s' h=>by
   cases e with
   |normal=>exact aMs hT hK hQ h
   |_=>exact hQ _ _ h
  rw[zP]at this;exact this
theorem aGy[YL]{g:Sig}(hg:qN P u u1 g){r:RT out}(h:aQl g N k rs n out s=some r)(hnbs:nbs.map some=erB (dA out r).own):
  ∃hs bs2,hs.Nodup/\aJt s.er.nx hs=true/\(∀h∈hs,(s.er.lk h).any Blk.isIt=false)/\bs2.length=hs.length/\
   DRec P g.fn (AV.convL s.er.lk (yP hs) (aFb N s.er k)) (sH s.er.lk hs) u u1 bs2/\pQ n rs (XV.val (dA out r).env).er (erB (dA out r).bs) nbs .ret (eX s.er hs (aFb N s.er k) none .any bs2 []):=by
 unfold aQl aZb at h;split at h
 case h_2=>cases h
 rename_i hds hno _;obtain⟨v,rr,bl,hr,hbl,hpv,hargs,hh,c1,c2,c3,c4,c5,hk,he⟩:=aHk h;have hown:=aPh rr hno;have hrec:=hg v rr hr hown;rw[hargs,<-hh,aSu]at hrec;obtain⟨x,hx,_,hq⟩:=mJ hk;cases hx;have hend:=hq .ret (.inr rfl) nbs hnbs;rw[he,aSu]at hend;have hbl0:bl=[]:=by rw[hown]at hbl;exact kf.1 (kf.1 hbl)
 subst hbl0;exact⟨hds,_,c1,c2,c4,c5,hrec,hend⟩
theorem bFr(N:Nat){T:List Sig}(hT:jD P T)(fl:List Nat)(A:List Ann)(AP:List (List Ann)){gr gp:Sig}{pv:Value}(hgr:qN P .returning .returning gr)(hgp:qN P (.panicking [{v:=pv,recovered:=false}]) (.panicking [{v:=pv,recovered:=true}]) gp){F:fty ent.tys (RT out)}(hf:P.funcs[f]?=some fn)(hb:fn.body=some c)(hname:(fn.name== "runtime.NumGoroutine")=false)(hm:P.follows .mixedOrders=true)
  (hno:aIf out=false) (hn:ent.env.length<=fn.ntmps) (hF:∀a,apF ent.tys F a=apF ent.tys (aYt N P T fl A AP gr gp pv fn c ent out) a):aI P ⟨f,ent,out,F⟩:=by
 intro _ v r h nbs hnbs;have h:apF ent.tys F v=some r:=h;rw[hF]at h;unfold aYt at h;split at h
 case h_2=>rw[cU]at h;cases h
 rename_i rcs ros g xs rc rs hrc hrs;split at h
 case h_2=>rw[cU]at h;cases h
 rename_i hg;rw[cU]at h;rw[ν]at hg;have hg1:=ι hg.1;have hg2:=ι hg.2;have hlen:(erB (ent.fill v).bs).length=ent.bs.length:=by show(List.map _ (pN _ ent.bs _).1).length=_;rw[μ,qH]
 have hargs:((ent.fill v).env.map fun p=>p.2.er).length<=fn.ntmps:=by show(List.map _ (aAh _ ent.env _).1).length<=_;rw[μ,xK];exact hn
 show aCm P f _ _ (dA out r) nbs;unfold aCm;rw[bAr hno];refine ACall.of_bodyRR fl hf hb hname hm hrc hrs hargs (aT6 (ent.fill v)) ?_;rw[hlen];refine aMs hT (fun s h=>?_) (fun e s h=>?_) h
 case refine_2=>
  cases e with
  |ret=>
   obtain⟨x,hx,_,hq⟩:=mJ (show yQ rs ent.bs.length out s some=some r from h);cases hx;exact hq _ (.inr rfl) nbs hnbs
  |_=>cases h
 have:=lD hT h (KP:=fun s'=>eM P kN rc (aVu P fn.ntmps ent.bs.length g xs.length rs (XV.val (dA out r).env).er (erB (dA out r).bs) nbs) (aY0 fn.ntmps (xs.map s'.ev) s')) fun s' h=>by
  obtain⟨vs,h,e⟩:=aEk h;rw[e,<-bDh];have:=cC hT (zR P fl [] A _ rc) _ rV kN YRel.body h (Q:=aVu P fn.ntmps ent.bs.length g xs.length rs (XV.val (dA out r).env).er (erB (dA out r).bs) nbs) fun e s2 h=>by
   unfold bF4 at h;split at h
   ·obtain⟨hs,bs2,q⟩:=aGy hgr h hnbs;rw[<-hg1]at q;exact⟨_,_,.inl ⟨.inl rfl,rfl,rfl⟩,hs,bs2,q⟩
   ·obtain⟨hs,bs2,q⟩:=aGy hgr h hnbs;rw[<-hg1]at q;exact⟨_,_,.inl ⟨.inr rfl,rfl,rfl⟩,hs,bs2,q⟩
   ·split at h
    ·rename_i w _ he;obtain rfl:=aMf he;obtain⟨hs,bs2,q⟩:=aGy hgp (by assumption) hnbs;rw[<-hg2]at q;exact⟨_,_,.inr ⟨_,rfl,rfl,rfl⟩,hs,bs2,q⟩
    ·cases h
   ·cases h
  rw[zP]at this;exact this
 rw[oN]at this;exact this
theorem bAh(N:Nat){T:List Sig}(hT:jD P T)(fl:List Nat)(A:List Ann){gr gp:Sig}{pv:Value}(hgr:qN P .returning .returning gr)(hgp:qN P (.panicking [{v:=pv,recovered:=false}]) (.panicking [{v:=pv,recovered:=true}]) gp){F:fty ent.tys (RT out)}(hf:P.funcs[f]?=some fn)(hb:fn.body=some c)(hname:(fn.name== "runtime.NumGoroutine")=false)(hm:P.follows .mixedOrders=true)
  (hno:aIf out=false) (hn:ent.env.length<=fn.ntmps) (hF:∀a,apF ent.tys F a=apF ent.tys (aYt N P T fl A [] gr gp pv fn c ent out) a):aI P ⟨f,ent,out,F⟩:=bFr N hT fl A [] hgr hgp hf hb hname hm hno hn hF
end
end Go.Eng
namespace Go.Eng
open Go.RowKit Go.ChangeShapes Go.WideShapes Go.ChangeAt
variable{P:Program}{t e:TypeId}{G:Gh}{m:HM}{W w:World}{v:Value}{α H:Type}{k base:Nat}{cs:List Value}{ds:List DV}{f:Nat->Option Value}{vs:Array Value}{d:TypeDesc}
def gOf(w:World):Gh:=fun b o=>w.cell? ⟨b,o,none⟩
def CRep(G:Gh)(ds:List DV)(cs:List Value):Prop:=ds.length=cs.length/\DV.cells G (fun j=>cs[j]?) 0 ds
theorem CRep.nil:CRep G [] []:=⟨rfl,by simp[DV.cells]⟩
theorem CRep.app{d1 d2:List DV}(n:Nat)(h1:CRep G d1 (cs.take n))(h2:CRep G d2 (cs.drop n)):CRep G (d1++d2) cs:=by
 obtain⟨l1,c1⟩:=h1;obtain⟨l2,c2⟩:=h2;rw[bu]at l1;rw[aq]at l2;refine⟨by rw[κ];omega,DV.cells_append (DV.cells_congr (fun i hi=>?_) c1) (DV.cells_congr (o:=0) (fun i hi=>?_) c2)⟩
 ·simp only[bf];rw[du (by omega)]
 ·simp only[bf];rw[dv];rcases c6 n cs.length with h|h
  ·rw[show d1.length=n by omega]
  ·exfalso;omega
theorem CRep.one{d:DV}(h:DV.Rep G d v):CRep G [d] [v]:=⟨rfl,by simp[DV.cells];exact h⟩
structure Cv (P:Program) (t:TypeId) {α:Type} (row:α->List DV) (k:Nat) (ok:α->Prop):Prop where
 len:∀x,(row x).length=k
 cells:P.cellsOf t=k
 get:∀{H:Type} (enc:TypeId×Value->H) (w:World) (spare:Nat->Bool) (held:Bool) (fuel:Nat) (cs:List Value) (r:DataW H×List MemPlace),DataW.trod enc P w 0 spare held fuel t cs=some r->∃x,ok x/\CRep (gOf w) (row x) cs
theorem Cv.int{P:Program}{t:TypeId}{k:IntKind}(ht:P.underlying t=some (.int k))(hc:P.cellsOf t=1):Cv P t (Ty.i k).ds 1 fun n=>k.min<=n/\n<=k.max:=
 ⟨fun _=>rfl,hc,fun enc w spare held fuel cs r h=>by
  obtain⟨n,rfl,_,hw⟩:=DataW.trod_int ht h;simp only[Lit.wf,ν,decide_eq_true_eq]at hw;exact⟨n,hw,CRep.one (by unfold DV.Rep;rfl)⟩⟩
theorem Cv.bool{P:Program}{t:TypeId}(ht:P.underlying t=some .bool)(hc:P.cellsOf t=1):Cv P t Ty.b.ds 1 fun _=>True:=
 ⟨fun _=>rfl,hc,fun enc w spare held fuel cs r h=>by
  obtain⟨b,rfl,_⟩:=DataW.trod_bool ht h;exact⟨b,trivial,CRep.one (by unfold DV.Rep;rfl)⟩⟩
theorem Cv.string{P:Program}{t:TypeId}(ht:P.underlying t=some .string)(hc:P.cellsOf t=1):Cv P t Ty.s.ds 1 fun s=>s.length<=9223372036854775807:=
 ⟨fun _=>rfl,hc,fun enc w spare held fuel cs r h=>by
  obtain⟨s,rfl,_,hs⟩:=DataW.trod_string ht h;exact⟨s.data.toList,by simpa[maxLen]using hs,CRep.one (by unfold DV.Rep;rfl)⟩⟩
theorem aOs{α:Type}{Q:Nat->α->Prop}:∀(n:Nat),(∀i,i<n->∃x,Q i x)->∃xs:List α,xs.length=n/\∀i x,xs[i]?=some x->Q i x
 |0,_=>⟨[],rfl,fun i x h=>by simp at h⟩
 |n+1,h=>by
  obtain⟨xs,h1,h2⟩:=aOs n (fun i hi=>h i (by omega));obtain⟨x,hx⟩:=h n (by omega);refine⟨xs++[x],by simp[h1],fun i y hy=>?_⟩;rcases c6 i xs.length with hi|hi
  ·rw[bp hi]at hy;exact h2 i y hy
  ·rw[bz hi]at hy;have:i-xs.length=0:=by
    rcases Nat.eq_zero_or_pos (i-xs.length)with e|e
    ·exact e
    ·rw[db (by simp;omega)]at hy;cases hy
   rw[this]at hy;simp at hy;subst hy;rw[show i=n by omega];exact hx
theorem aV0{α:Type}{G:Gh}{row:α->List DV}{k:Nat}{f:Nat->Option Value}(hk:∀x,(row x).length=k):∀(xs:List α) (o:Nat),(∀i x,xs[i]?=some x->DV.cells G f (o+i*k) (row x))->DV.rows G f k o (xs.map row)
 |[],_,_=>by simp[DV.rows]
 |x::xs,o,h=>by simp only[cx];unfold DV.rows;refine⟨hk x,by simpa using h 0 x rfl,aV0 hk xs (o+k) (fun i y hy=>?_)⟩;have:=h (i+1) y (by simpa using hy);rwa[Nat.add_mul,Nat.one_mul,Nat.add_comm (i*k) k,<-fb]at this
theorem Cv.slice{P:Program}{t e:TypeId}{α:Type}{row:α->List DV}{k:Nat}{ok:α->Prop}(hE:Cv P e row k ok)(hk:0<k)(ht:P.underlying t=some (.slice e))(hc:P.cellsOf t=1):
  Cv P t (fun xs:List α=>[DV.L (xs.map row)]) 1 fun xs=>xs.length<=9223372036854775807/\∀x∈xs,ok x:=
 ⟨fun _=>rfl,hc,fun enc w spare held fuel cs r h=>by
  rcases Go.Deep.open_slice ht h with⟨rfl,_⟩|⟨a,len,cap,m,n,D,Pl,rfl,_,hl,hm,hmm,_,hi⟩
  ·refine⟨[],⟨by simp,by simp⟩,CRep.one ?_⟩;unfold DV.Rep;exact⟨none,0,rfl,ω _,fun _=>rfl,fun h=>absurd rfl h⟩
  ·have hlm:len<=m:=by rw[hmm];split<;>omega
   obtain⟨xs,h1,h2⟩:=aOs (Q:=fun i x=>ok x/\∃cs',w.cells? 0 (a.add (i*P.cellsOf e)) (P.cellsOf e)=some cs'/\CRep (gOf w) (row x) cs') len (fun i hil=>by
    obtain⟨cs',hc',htr⟩:=hi i (by omega);obtain⟨x,hx,hr⟩:=hE.get enc w spare held n cs' _ htr;exact⟨x,hx,cs',hc',hr⟩)
   refine⟨xs,⟨by rw[h1];simp[maxLen]at hm;omega,fun x hx=>?_⟩,CRep.one ?_⟩
   ·obtain⟨i,hi⟩:=dq hx;exact(h2 i x hi).1
   ·unfold DV.Rep;refine⟨some a,cap,by rw[μ,h1],by rw[μ,h1];exact hl,(fun e=>by cases e),fun hne=>?_⟩;have hx0:∃x,xs[0]?=some x:=by
     cases xs with
     |nil=>simp at hne
     |cons x _=>exact⟨x,rfl⟩
    obtain⟨x0,hx0⟩:=hx0;obtain⟨_,cs0,hc0,hl0,_⟩:=h2 0 x0 hx0;obtain⟨_,hcl0,hat0⟩:=World.cells?_some hc0;rw[hE.cells]at hcl0 hat0;have hspot:a=⟨a.block,a.off,none⟩:=by
     have h3:=hat0 0 hk;have h4:(cs0[0]?).isSome=true:=by rw[ε (by omega)];rfl
     rw[<-h3]at h4;obtain⟨b,o,sp⟩:=a;cases sp with
     |none=>rfl
     |some _=>exfalso;simp[World.cell?,Addr.add]at h4;split at h4<;>cases h4
    refine⟨a.block,a.off,k,by rw[<-hspot],aV0 hE.len xs a.off (fun i x hx=>?_)⟩;obtain⟨_,cs',hc',hl',hcr⟩:=h2 i x hx;obtain⟨_,hcl,hat⟩:=World.cells?_some hc';rw[hE.cells]at hcl hat;refine DV.cells_congr (o:=0) (fun j hj=>?_) hcr;have hj':j<k:=by rw[hE.len]at hj;exact hj
    have:=hat j hj';rw[hspot,Addr.add_lit,Addr.add_lit]at this;rw[bf,<-this];rfl⟩
theorem Cv.struct{P:Program}{t:TypeId}{fs:Array Field}{α:Type}{row:α->List DV}{k:Nat}{ok:α->Prop}(ht:P.underlying t=some (.struct fs))(hc:P.cellsOf t=k)(hlen:∀x,(row x).length=k)
  (h:∀(G:Gh) (cs:List Value),cs.length=k->(∀(i:Nat) (f:Field),fs[i]?=some f->∀{α:Type} {row:α->List DV} {k':Nat} {ok:α->Prop},Cv P f.type row k' ok->∃x,ok x/\CRep G (row x) ((cs.drop f.offset).take k'))->∃x,ok x/\CRep G (row x) cs):Cv P t row k ok:=
 ⟨hlen,hc,fun enc w spare held fuel cs r hr=>by
  obtain⟨xs,n,_,_,hcl,hxl,hf⟩:=DataW.trod_struct ht hr;refine h (gOf w) cs (by rw[hcl,hc]) (fun i f hi α' row' k' ok' hcv=>?_);have h1:=hf i f hi;have hlt:=(Array.getElem?_eq_some_iff.1 hi).1;rw[ε (by omega)]at h1;obtain⟨x,hx,hxr⟩:=hcv.get enc w spare held n _ _ h1;rw[hcv.cells]at hxr;exact⟨x,hx,hxr⟩⟩
theorem CRep.cons{rest:List DV}{o:Nat}(h1:CRep G ds ((cs.drop o).take k))(h2:CRep G rest (cs.drop (o+k))):CRep G (ds++rest) (cs.drop o):=
 CRep.app k h1 (by rwa[dh])
theorem aKr(h:CRep G ds cs):AV.RepL G m (ds.map .D) cs:=
 AV.RepL_data h.2 (fun j hj=>by rw[bf]) h.1.symm
theorem aB2{d:DV}(h:CRep G [d] v.cells.toList)(hv:v.oneCell'=true):AV.Rep G m (.D d) v:=by have:=aKr (m:=m) h;rw[zE hv]at this;simp only[cx,List.map_nil]at this;unfold AV.RepL at this;obtain⟨u,us,e,h2,_⟩:=this;cases e;exact h2
theorem aPj{cs:Array Value}(h:CRep G ds cs.toList):AV.Rep G m (.agg (ds.map .D)) (.agg cs):=by unfold AV.Rep;exact⟨cs,rfl,aKr h⟩
theorem bDi(w:World)(hg:GlOk (gOf w)):Sim (gOf w) (fun _=>none) (gT [] []) w:=⟨(fun _ _ _ h=>by cases h),(fun _ h=>by cases h),(fun _ _ _ _ _ h=>by cases h),(fun _ _ _ h=>h),(fun _ h=>by cases h),hg,(fun _ _ _ _ h=>by cases h)⟩
theorem CallDoes.calls{f:FuncId}{R:Value->World->Prop}(hfn:bAj P f)(h:CallDoes P f vs w R):Calls P f vs w fun e w'=>∃v,e=.returned v/\R v w':=by
 rcases h with⟨_,h⟩|⟨v,w',h1,_⟩
 ·exact h
 ·exfalso;obtain⟨fd,q1,q2,q3⟩:=hfn;have hnone:fd.body.isNone=false:=by rw[Option.isNone_eq_false_iff];exact q2
  simp only[callFunc,Sem.run_bind,run_program,Result.andThen_ok,q1,q3,hnone,Bool.false_eq_true,if_false]at h1;simp at h1
theorem aWd{f:FuncId}{args:List AV}(hfn:bAj P f)(hg:GlOk (gOf w))(hc:ACall P f args [] (.D (.B true)) [] [])(hr:AV.RepL (gOf w) (fun _=>none) args vs.toList):
  Calls P f vs w fun e w'=>e=.returned (.bool true)/\Below w.heap.size w w':=
 (CallDoes.calls hfn (hc w (gOf w) _ vs (bDi w hg) (fun _=>rfl) hr)).mono fun e w' ⟨v,he,G',m',_,hv,hF,_⟩=>by have:=aBg hv;subst this;exact⟨he,hF.os,hF.tape.1,hF.output,hF.size,fun b hb=>hF.heap b hb (Own.no b)⟩
theorem zD{H:Type}{enc:TypeId×Value->H}{P:Program}(hl:laidOutB P=true){W W':World}(hb:Below W.heap.size W W')(sp:Nat->Bool):∀{ts:List TypeId} {vs:List Value} {ds:List (DataW H)} {ps:List MemPlace},
  (∀t∈ts,P.readableRec t=true/\t<P.types.size)->DataW.TrodAll enc P W 0 (fun _=>true) true ts vs ds ps->(∀p∈ps,p.block<W.heap.size)->(∀p∈ps,sp p.block=true)->DataW.TrodAll enc P W' 0 sp true ts vs ds ps
 |[],[],[],_,_,h,_,_=>h
 |t::ts,v::vs,d::ds,ps,ht,h,hlt,hsp=>by
  obtain⟨p,q,h1,h2,rfl⟩:=h;exact⟨p,q,WideElems.Trod_stays hl (ht t (by simp)).1 (ht t (by simp)).2 h1 (fun x hx=>hb.same (hlt x (by simp[hx]))) (fun x hx=>hsp x (by simp[hx])),
   zD hl hb sp (fun t' h'=>ht t' (by simp[h'])) h2 (fun x hx=>hlt x (by simp[hx])) (fun x hx=>hsp x (by simp[hx])),rfl⟩
 |[],[],_::_,_,_,h,_,_=>h.elim
 |[],_::_,ds,_,_,h,_,_=>by cases ds<;>exact h.elim
 |_::_,[],ds,_,_,h,_,_=>by cases ds<;>exact h.elim
 |_::_,_::_,[],_,_,h,_,_=>h.elim
theorem aZl{f:Func}{s:ChangeSpec}{enc:TypeId×Value->H}{W':World}{args:Array Value}{ds:List (DataW H)}{before:List MemPlace}{tb:TypeId}(hl:laidOutB P=true)
  (hW:DataW.Whole enc P f.params.toList s.vars false W args.toList ds [] before) (hvars:s.vars=[]) (hs:s.fn H (ds++[])={results:=[.lit (.bool true)],args:=ds}) (hr:f.resultTypes=#[tb]) (htb:P.underlying tb=some .bool)
  (hp:∀t∈f.params.toList,P.readableRec t=true/\t<P.types.size) (hb:Below W.heap.size W W'):s.post enc P f false true false false W args (.bool true) W':=by
 have hlt:∀p∈before,p.block<W.heap.size:=fun p hp=>hW.lt p hp;have hW0:=hW;obtain⟨p,q,hA,hV,hpq,hz,hn⟩:=hW0;have hV0:=hV;rw[hvars]at hV0;have hq:q=[]:=by simpa[DataW.TrodVars]using hV0
 subst hq;rw[χ]at hpq;subst hpq;have hstay:∀sp:Nat->Bool,(∀x∈before,sp x.block=true)->DataW.TrodAll enc P W' 0 sp true f.params.toList args.toList ds before:=fun sp hsp=>zD hl hb sp hp hA hlt hsp;have hres:∀(b:Nat) (sp:Nat->Bool) (hd:Bool),DataW.TrodAll enc P W' b sp hd f.resultTypes.toList ((Value.bool true).resultList f.resultTypes.size) [.lit (.bool true)] []:=fun b sp hd=>by rw[hr];exact trodAll_mk1 ⟨1,by simp[DataW.trod,Value.cells,htb]⟩
 have hvt:∀sp:Nat->Bool,DataW.TrodVars enc P W' sp s.vars (s.fn H (ds++[])).vars []:=fun sp=>by rw[hvars,hs];exact rfl
 refine⟨ds,[],before,[],before,[],hW,by rw[hs];exact hres _ _ _,by rw[hs];exact hstay _ (fun p hp=>by simpa using hlt p hp),hvt _,World.keptBut_mono (fun p hp=>⟨hp,.inr (.inl hp)⟩) (hb.frame (· ∈before)),fun h=>by cases h⟩
theorem DV.cells_of{G:Gh}{f:Nat->Option Value}:∀{ds:List DV} {o:Nat},(∀i d,ds[i]?=some d->∃v,f (o+i)=some v/\DV.Rep G d v)->DV.cells G f o ds
 |[],o,_=>by unfold DV.cells;trivial
 |d::ds,o,h=>by
  unfold DV.cells;obtain⟨v,h1,h2⟩:=h 0 d rfl;exact⟨⟨v,h1,h2⟩,DV.cells_of fun i e hi=>by
   obtain⟨u,h3,h4⟩:=h (i+1) e (by simpa using hi);exact⟨u,by rw[<-h3];congr 1;omega,h4⟩⟩
theorem Cv.array{P:Program}{t e:TypeId}{n:Nat}{k:IntKind}(he:P.underlying e=some (.int k))(hce:P.cellsOf e=1)(ht:P.underlying t=some (.array n e))(hc:P.cellsOf t=n):
  Cv P t (Ty.ar n k).ds n fun x=>∀y∈x.l,k.min<=y/\y<=k.max:=⟨fun x=>Ty.ds_len (.ar n k) x,hc,fun enc w spare held fuel cs r h=>by
  obtain⟨xs,m,_,_,hcl,hxl,hf⟩:=DataW.trod_array ht h;rw[hc]at hcl;simp only[hce,cz]at hf;obtain⟨zs,hl,hz⟩:=aOs (Q:=fun i z=>(k.min<=z/\z<=k.max)/\cs[i]?=some (.int k z)) n fun i hi=>by have h1:=hf i hi;rw[ε (by omega)]at h1;obtain⟨z,hz,_,hw⟩:=DataW.trod_int he h1;simp only[Lit.wf,ν,decide_eq_true_eq]at hw;refine⟨z,hw,?_⟩;have h2:=congrArg (·[0]?) hz;simpa[List.getElem?_take,dv]using h2
  refine⟨⟨zs,hl⟩,fun y hy=>?_,?_⟩
  ·obtain⟨i,hi⟩:=dq hy;exact(hz i y hi).1
  ·refine⟨by rw[Ty.ds_len];show n=_;omega,DV.cells_of fun i d hd=>?_⟩;have hd:(zs.map (DV.I k))[i]?=some d:=hd;rw[az,θ]at hd;obtain⟨z,hz1,rfl⟩:=hd;exact⟨_,by rw[bf];exact(hz i z hz1).2,by unfold DV.Rep;rfl⟩⟩
theorem aIx{name:String}{g:Nat}{k:IntKind}{zs:List Int}(hT:Lib.TabIs P W name k zs)(hg:P.globalNamed name=some g):DV.cells (gOf W) (gOf W g) 0 (zs.map (DV.I k)):=by refine DV.cells_of fun i d hd=>?_;rw[az,θ]at hd;obtain⟨z,hz,rfl⟩:=hd;have hi:i<zs.length:=(aw.1 hz).1;refine⟨.int k z,?_,by unfold DV.Rep;rfl⟩;have h1:=hT.cell hg i hi;rw[List.getD,hz]at h1;rw[bf];exact h1
def Ty.ok:(t:Ty)->t.T->Prop
 |.i k,n=>k.min<=n/\n<=k.max
 |.s,x=>x.length<=9223372036854775807
 |.sl t,xs=>xs.length<=9223372036854775807/\∀x∈xs,t.ok x
 |.ar _ k,x=>∀y∈x.l,k.min<=y/\y<=k.max
 |.p a c,v=>a.ok v.1/\c.ok v.2
 |.w a,v=>a.ok v
 |_,_=>True
def isD:TypeDesc->TypeDesc->Bool
 |.bool,.bool=>true
 |.string,.string=>true
 |.int k,.int k'=>decide (k=k')
 |_,_=>false
theorem bHy:∀{a b:TypeDesc},isD a b=true->a=b:=by intro a b h;unfold isD at h;split at h<;>first|rfl|(rw[of_decide_eq_true h];done)|cases h
def bEl(P:Program)(t:TypeId)(d:TypeDesc):Bool:=match P.underlying t with
 |some d'=>isD d' d
 |none=>false
theorem aU6(h:bEl P t d=true):P.underlying t=some d:=by
 unfold bEl at h;split at h
 ·rename_i d' hd;rw[hd,bHy h]
 ·cases h
def wR(P:Program)(t:TypeId)(d:TypeDesc):Bool:=bEl P t d&&bb (P.cellsOf t) 1
def aD8(g:TypeId->Bool)(fs:List Field)(o:Nat):Bool:=match fs with
 |[f]=>bb f.offset o&&g f.type
 |_=>false
def slB(P:Program)(n:Nat)(g:TypeId->Bool)(t:TypeId):Bool:=match P.underlying t with
 |some (.slice e)=>g e&&bb (P.cellsOf t) 1&&Nat.blt 0 n
 |_=>false
def arB(P:Program)(n:Nat)(k:IntKind)(t:TypeId):Bool:=match P.underlying t with
 |some (.array m e)=>bb m n&&bEl P e (.int k)&&bb (P.cellsOf e) 1&&bb (P.cellsOf t) n
 |_=>false
def stB(P:Program)(n:Nat)(g:List Field->Nat->Bool)(t:TypeId):Bool:=match P.underlying t with
 |some (.struct fs)=>g fs.toList 0&&bb (P.cellsOf t) n
 |_=>false
def aX7(n:Nat)(g:TypeId->Bool)(h:List Field->Nat->Bool)(fs:List Field)(o:Nat):Bool:=match fs with
 |f::fs=>bb f.offset o&&g f.type&&h fs (o+n)
 |[]=>false
def bIr:List Field->Nat->Bool
 |[],_=>true
 |_,_=>false
def cvB(P:Program):Ty->(TypeId->Bool)×(List Field->Nat->Bool)
 |.u=>(fun _=>false,bIr)
 |.b=>(fun t=>wR P t .bool,aD8 fun t=>wR P t .bool)
 |.i k=>(fun t=>wR P t (.int k),aD8 fun t=>wR P t (.int k))
 |.s=>(fun t=>wR P t .string,aD8 fun t=>wR P t .string)
 |.ar n k=>(arB P n k,aD8 (arB P n k))
 |.sl t=>(slB P t.n (cvB P t).1,aD8 (slB P t.n (cvB P t).1))
 |.w x=>(stB P x.n (cvB P x).2,aD8 (stB P x.n (cvB P x).2))
 |.p a c=>(fun _=>false,aX7 a.n (cvB P a).1 (cvB P c).2)
 |.o _=>(fun _=>false,fun _ _=>false)
def bOo(P:Program)(G:Gh)(cs:List Value)(f:Field):Prop:=∀{α:Type} {row:α->List DV} {k':Nat} {ok:α->Prop},Cv P f.type row k' ok->∃x,ok x/\CRep G (row x) ((cs.drop f.offset).take k')
def bGz(P:Program)(t:Ty)(fs:List Field)(o:Nat):Prop:=∀(G:Gh) (cs:List Value),cs.length=o+t.n->(∀f∈fs,bOo P G cs f)->∃x:t.T,t.ok x/\CRep G (t.ds x) (cs.drop o)
theorem tQ{g:TypeId->Bool}{t:Ty}(hg:∀i,g i=true->Cv P i t.ds t.n t.ok){fs:List Field}{o:Nat}(h:aD8 g fs o=true):bGz P t fs o:=by
 unfold aD8 at h;split at h
 ·rename_i f;simp only[ν]at h;have ho:=ι h.1;intro G cs hl hf;obtain⟨x,hx,hr⟩:=hf f (List.mem_singleton.2 rfl) (hg _ h.2);refine⟨x,hx,?_⟩;rw[ho,bc (by rw[aq];omega)]at hr;exact hr
 ·cases h
theorem mX(h:wR P t d=true):P.underlying t=some d/\P.cellsOf t=1:=by simp only[wR,ν]at h;exact⟨aU6 h.1,ι h.2⟩
theorem aI7(P:Program):∀T:Ty,(∀i,(cvB P T).1 i=true->Cv P i T.ds T.n T.ok)/\∀fs o,(cvB P T).2 fs o=true->bGz P T fs o
 |.u=>by
  refine⟨fun _ h=>(by cases h),fun fs o h=>?_⟩;cases fs with
  |nil=>exact fun G cs hl _=>⟨(),trivial,by rw[List.drop_of_length_le (by simp[hl,Ty.n])];exact CRep.nil⟩
  |cons _ _=>cases h
 |.b=>by
  have h1:∀i,wR P i .bool=true->Cv P i Ty.b.ds 1 Ty.b.ok:=fun i h=>Cv.bool (mX h).1 (mX h).2;exact⟨h1,fun fs o h=>tQ (t:=.b) h1 h⟩
 |.i k=>by
  have h1:∀i,wR P i (.int k)=true->Cv P i (Ty.i k).ds 1 (Ty.i k).ok:=fun i h=>Cv.int (mX h).1 (mX h).2;exact⟨h1,fun fs o h=>tQ (t:=.i k) h1 h⟩
 |.s=>by
  have h1:∀i,wR P i .string=true->Cv P i Ty.s.ds 1 Ty.s.ok:=fun i h=>Cv.string (mX h).1 (mX h).2;exact⟨h1,fun fs o h=>tQ (t:=.s) h1 h⟩
 |.ar n k=>by
  have h1:∀i,arB P n k i=true->Cv P i (Ty.ar n k).ds n (Ty.ar n k).ok:=fun i h=>by
   unfold arB at h;split at h
   ·rename_i m e hu;simp only[ν,decide_eq_true_eq]at h;obtain⟨⟨⟨h1,h2⟩,h3⟩,h4⟩:=h;obtain rfl:=ι h1;exact Cv.array (aU6 h2) (ι h3) hu (ι h4)
   ·cases h
  exact⟨h1,fun fs o h=>tQ (t:=.ar n k) h1 h⟩
 |.sl t=>by
  have h1:∀i,slB P t.n (cvB P t).1 i=true->Cv P i (Ty.sl t).ds 1 (Ty.sl t).ok:=fun i h=>by
   unfold slB at h;split at h
   ·rename_i e hu;simp only[ν]at h;exact Cv.slice ((aI7 P t).1 _ h.1.1) (dw Nat.zero_lt_one (fg h.2)) hu (ι h.1.2)
   ·cases h
  exact⟨h1,fun fs o h=>tQ (t:=.sl t) h1 h⟩
 |.w x=>by
  have h1:∀i,stB P x.n (cvB P x).2 i=true->Cv P i (Ty.w x).ds x.n (Ty.w x).ok:=fun i h=>by
   unfold stB at h;split at h
   ·rename_i fs hu;simp only[ν]at h;refine Cv.struct hu (ι h.2) (fun y=>Ty.ds_len x y) fun G cs hl hf=>?_;obtain⟨y,hy,hr⟩:=(aI7 P x).2 _ _ h.1 G cs (by rw[hl,bf]) fun f hm=>by obtain⟨i,hi⟩:=dq hm;rw[Array.getElem?_toList]at hi;exact fun{α} {row} {k'} {ok} hcv=>hf i f hi hcv
    exact⟨y,hy,hr⟩
   ·cases h
  exact⟨h1,fun fs o h=>tQ (t:=.w x) h1 h⟩
 | .p a c=>by
   refine⟨fun _ h=>(by cases h),fun fs o h=>?_⟩;have h:aX7 a.n (cvB P a).1 (cvB P c).2 fs o=true:=h;cases fs with
   |nil=>cases h
   |cons f fs=>
    simp only[aX7,ν]at h;intro G cs hl hf;have hl:cs.length=o+(a.n+c.n):=hl;obtain⟨x,hx,hr⟩:=hf f (gz ..) ((aI7 P a).1 _ h.1.2);rw[ι h.1.1]at hr;obtain⟨y,hy,hq⟩:=(aI7 P c).2 _ _ h.2 G cs (by omega) fun g hg=>fun{α} {row} {k'} {ok} hcv=>hf g (jd _ hg) hcv;exact⟨(x,y),⟨hx,hy⟩,CRep.cons hr hq⟩
 |.o _=>⟨fun _ h=>(by cases h),fun _ _ h=>(by cases h)⟩
def cvL(P:Program):List Ty->List TypeId->Bool
 |[],[]=>true
 |T::Ts,t::ts=>(cvB P T).1 t&&cvL P Ts ts
 |_,_=>false
def aOv:(Ts:List Ty)->tup Ts->Prop
 |[],_=>True
 |T::Ts,x=>T.ok x.1/\aOv Ts x.2
def aLj:(Ts:List Ty)->tup Ts->List AV
 |[],_=>[]
 |T::Ts,x=>jB T x.1::aLj Ts x.2
theorem aSr{r:Reach}{n:Nat}(ht:P.underlying t=some (.array n e))(h:Value.okWide P w r base t v):∃cs,v=.agg cs:=by unfold Value.okWide at h;rw[ht]at h;obtain⟨cs,h,_⟩:=h;exact⟨cs,h⟩
theorem bEb{T:Ty}{x:T.T}(hc:(cvB P T).1 t=true)(hw:Value.okWide P W .any base t v)(hr:CRep (gOf W) (T.ds x) v.cells.toList):AV.Rep (gOf W) m (jB T x) v:=by
 cases T with
 |u=>cases hc
 |b=>obtain⟨b,rfl⟩:=okWide_bool (mX hc).1 hw;exact aB2 hr rfl
 |i k=>obtain⟨n,rfl⟩:=okWide_int (k:=k) (mX hc).1 hw;exact aB2 hr rfl
 |s=>obtain⟨n,rfl⟩:=okWide_string (mX hc).1 hw;exact aB2 hr rfl
 |p a c=>cases hc
 |w y=>
  have hc:stB P y.n (cvB P y).2 t=true:=hc;unfold stB at hc;split at hc
  ·rename_i fs hu;obtain⟨cs,rfl,_⟩:=okWide_struct hu hw;exact aPj hr
  ·cases hc
 |ar n k=>
  have hc:arB P n k t=true:=hc;unfold arB at hc;split at hc
  ·rename_i m' e hu;obtain⟨cs,rfl⟩:=aSr hu hw;exact aPj hr
  ·cases hc
 |sl y=>
  have hc:slB P y.n (cvB P y).1 t=true:=hc;unfold slB at hc;split at hc
  ·rename_i e hu;obtain⟨a,l,c,rfl⟩:=okWide_slice hu hw;exact aB2 hr rfl
  ·cases hc
 |o y=>cases hc
theorem aPp{P:Program}{W:World}{base:Nat}{H:Type}{enc:TypeId×Value->H}{spare:Nat->Bool}{held:Bool}{m:HM}:∀{Ts:List Ty} {ts:List TypeId} {vs:List Value} {ds:List (DataW H)} {ps:List MemPlace},cvL P Ts ts=true->DataW.TrodAll enc P W 0 spare held ts vs ds ps->(∀(j:Nat) t v,ts[j]?=some t->vs[j]?=some v->Value.okWide P W .any base t v)->∃x:tup Ts,aOv Ts x/\AV.RepL (gOf W) m (aLj Ts x) vs
 |[],[],vs,ds,ps,_,hA,_=>by
  obtain⟨rfl,_,_⟩:=trodAll_nil hA;exact⟨(),trivial,rfl⟩
 |T::Ts,t::ts,vs,ds,ps,hc,hA,hw=>by
  simp only[cvL,ν]at hc;obtain⟨v,vs1,d,ds1,p0,p1,rfl,rfl,rfl,t0,hA1⟩:=trodAll_cons hA;obtain⟨f0,t0⟩:=t0;obtain⟨x,hx,hr⟩:=((aI7 P T).1 t hc.1).get enc W _ _ f0 _ _ t0;obtain⟨y,hy,hq⟩:=aPp (m:=m) hc.2 hA1 fun j t v h1 h2=>hw (j+1) t v (by simpa using h1) (by simpa using h2);exact⟨(x,y),⟨hx,hy⟩,_,_,rfl,bEb hc.1 (hw 0 t v rfl rfl) hr,hq⟩
 |[],_::_,_,_,_,h,_,_=>by cases h
 |_::_,[],_,_,_,h,_,_=>by cases h
end Go.Eng
namespace Go.Eng
open Go.RowKit
variable{α β:Type}
@[simp] theorem aN{a b:Option α}:if? true a b=a:=rfl
@[simp] theorem aK{a b:Option α}:if? false a b=b:=rfl
@[simp] theorem aB{x:α}{f:α->Option β}:bd? (some x) f=f x:=rfl
@[simp] theorem aD{xs:List α}{a:Option β}:gl? xs.length xs a=a:=if_pos rfl
theorem bGp{n:Nat}{xs:List α}{a:Option β}(h:n=xs.length):gl? n xs a=a:=if_pos h
@[simp] theorem bOm{α:Type}[DecidableEq α]{x:α}{a:Option β}:gd? (x=x) a=a:=if_pos rfl
theorem aC{p:Prop}[Decidable p]{a:Option α}(h:p):gd? p a=a:=if_pos h
@[simp] theorem yR{r:β}{f:α->Option β}:jn? (some (Sum.inl r)) f=some r:=rfl
@[simp] theorem aEr{x:α}{f:α->Option β}:jn? (some (Sum.inr x)) f=f x:=rfl
@[simp] theorem pM{r:β}:(lN (some r):Option (β⊕α))=some (.inl r):=rfl
@[simp] theorem rR{γ:Type}{x:α}{f:α->Option γ}{g:β->Option γ}:sm? (Sum.inl x) f g=f x:=rfl
@[simp] theorem oY{γ:Type}{y:β}{f:α->Option γ}{g:β->Option γ}:sm? (Sum.inr y) f g=g y:=rfl
theorem vE{n:Int}(h:-9223372036854775808<=n)(h':n<=9223372036854775807):IntKind.wrap .i64 n=n:=by rw[IntKind.wrap_i64];omega
theorem aM{n:Int}{a:Option α}(h:-9223372036854775808<=n)(h':n<=9223372036854775807):ck .i64 n a=a:=by unfold ck;rw[if_pos (vE h h')]
theorem bJ{xs:List α}{i:Nat}{x:α}{f:α->Option β}(h:xs[i]?=some x):aZ xs (i:Int) f=f x:=by unfold aZ;rw[if_pos (Int.natCast_nonneg i),π,h]
theorem wN{xs:List α}{j:Int}{x:α}{f:α->Option β}(h0:0<=j)(h:xs[j.toNat]?=some x):aZ xs j f=f x:=by unfold aZ;rw[if_pos h0,h]
theorem aPm{xs:List α}{i:Nat}{x:α}{f:α->Option β}(h:xs[i]?=some x):gn? xs i f=f x:=by unfold gn?;rw[h]
end Go.Eng
