/- Texts of this claim. -/
import Derived.Test.YtjcdfjldcinopaaGreatDoorYA
import Derived.ProofKit
import Derived.Deep.Slices
import Derived.OpenShut
import Derived.Lib.LaidTab
open Bool renaming and_assoc->ie,and_eq_true->ν,and_true->fj,eq_iff_iff->dv,noConfusion->cr,not_eq_true'->cz,or_eq_true->e9
open Int renaming toNat_natCast->χ
open List renaming append_assoc->π,append_nil->υ,drop_append_of_le_length->fm,drop_drop->di,drop_eq_nil_of_le->ez,drop_zero->de,getD_cons_succ->jr,getElem?_append_left->bg,getElem?_append_right->bw,getElem?_drop->dm,getElem?_eq_getElem->μ,getElem?_eq_none->cx,getElem?_eq_some_iff->aq,getElem?_map->ao,getElem?_of_mem->df,getElem?_take_of_lt->dg,length_append->κ,length_drop->aw,length_map->θ,length_take->cp,map_append->bo,map_cons->ct,map_drop->bz,map_eq_nil_iff->jq,map_map->e7,map_replicate->fh,map_set->gk,map_take->bp,mem_cons->br,mem_cons_of_mem->gy,mem_cons_self->ga,nil_append->cn,nodup_cons->dw,nodup_nil->jb,replicate->bn,take_append_of_le_length->fk,take_of_length_le->bf
open Nat renaming add_assoc->ei,beq->au,beq_eq->fg,ble->j9,eq_of_beq_eq_true->η,le_add_right->fy,le_of_ble_eq_true->eo,le_refl->ω,lt_of_lt_of_le->dn,lt_or_ge->db,mul_one->cu,zero_add->az,zero_le->fw
open Option renaming ite_none_right_eq_some->δ,map_eq_some_iff->ζ
set_option linter.all false
namespace Go.Eng
open Go.RowKit
variable{s m ent s':XS}{P:Program}{v a y vf vy:XV}{KP:AState->Prop}{k off n sz bytes N:Nat}{t:Ty}{out:List XS}{f:FuncId}{fn:Func}{vs l xs ys:List XV}{c:Code}{dst ag:Option Nat}{rs:List RRes}{ty:Option Ty}{α:Type}{q:Bool}{hd h:Hd}{hs:List Hd}{j:Int}{xo yo:Operand}{u u1:FrameMode}{zs args:List AV}{w:Value}{ds:List DV}{b:Option XB}{nbs:List Blk}{bs':List (Option Blk)}
section
variable{R:Type}
theorem aBb[YL]{K:List t.T->Option R}{r:R}(h:lR s (.sl t) v K=some r):
  ∃xs:List t.T,K xs=some r/\AV.content s.er.lk v.er=some (xs.map t.ds)/\AV.isS v.er=false:=by
 unfold lR at h;split at h
 ·rename_i t' x;split at h
  ·rename_i y hy;obtain⟨e,rfl⟩:=Ty.cst_ok hy;subst e;exact⟨x,h,rfl,rfl⟩
  ·cases h
 ·rename_i t' xs;split at h
  ·rename_i y hy;obtain⟨e,rfl⟩:=Ty.cst_ok hy;cases e;exact⟨xs,h,rfl,rfl⟩
  ·cases h
 ·have h:K []=some r:=h;exact⟨[],h,rfl,rfl⟩
 ·have h:K []=some r:=h;exact⟨[],h,rfl,rfl⟩
 ·rename_i hd t' len;split at h
  ·rename_i mt t2 xs hl;split at h
   ·rename_i hb;obtain rfl:=Ty.eq_of hb;split at h
    ·rename_i y hy;obtain⟨e,rfl⟩:=Ty.cst_ok hy;cases e
     replace h:=aUb h
     obtain⟨rfl,h⟩:=h;refine⟨xs,h,?_,rfl⟩;show(match s.er.lk hd with|some (.row _ k' es)=>if k'=t.n/\0+xs.length<=es.length then some ((es.drop 0).take xs.length)else none|_=>none)=_;rw[aN,hl];show(if t.n=t.n/\0+xs.length<=(xs.map t.ds).length then some (((xs.map t.ds).drop 0).take xs.length)else none)=_;rw[if_pos ⟨rfl,by rw[θ];omega⟩,de,bf (by rw[θ];exact ω _)]
    ·cases h
   ·cases h
  ·cases h
 ·rename_i hd t' off len;split at h
  ·rename_i mt t2 xs hl;split at h
   ·rename_i hb;obtain rfl:=Ty.eq_of hb;split at h
    ·rename_i y hy;obtain⟨e,rfl⟩:=Ty.cst_ok hy;cases e;obtain⟨h1,h⟩:=aQ h;refine⟨_,h,?_,rfl⟩;show(match s.er.lk hd with|some (.row _ k' es)=>if k'=t.n/\off+len<=es.length then some ((es.drop off).take len)else none|_=>none)=_;rw[aN,hl];show(if t.n=t.n/\off+len<=(xs.map t.ds).length then some (((xs.map t.ds).drop off).take len)else none)=_;rw[if_pos ⟨rfl,by rw[θ];exact h1⟩,bp,bz]
    ·cases h
   ·cases h
  ·cases h
 ·rename_i hd off len;split at h
  ·rename_i mt n k x hl;split at h
   ·rename_i y hy;obtain⟨e,rfl⟩:=Ty.cst_ok hy;cases e;obtain⟨h1,h⟩:=aQ h;refine⟨_,h,?_,rfl⟩;show(match s.er.lk hd with|some (.row _ k' es)=>if k'=1/\off+len<=es.length then some ((es.drop off).take len)else none|_=>none)=_;rw[aN,hl];show(if 1=1/\off+len<=(x.l.map (arD k)).length then some (((x.l.map (arD k)).drop off).take len)else none)=some ((aAi x.l off len n).map (arD k));rw[aC8 x.len,if_pos ⟨rfl,by rw[θ,x.len];exact h1⟩,bp,bz]
   ·cases h
  ·cases h
 ·rename_i hd off l len;split at h
  ·rename_i mt t2 x hl;split at h
   ·rename_i a ha;split at h
    ·rename_i y hy;obtain⟨e,rfl⟩:=Ty.cst_ok hy;cases e;obtain⟨h1,h⟩:=aQ h;obtain⟨c1,c2⟩:=aC3 ha h1;refine⟨_,h,?_,rfl⟩;show(match s.er.lk hd with|some (.row _ k' es)=>if k'=1/\off+l+len<=es.length then some ((es.drop (off+l)).take len)else none|_=>none)=_;rw[aN,hl];show(if 1=1/\off+l+len<=(sgD (t2.ds x)).length then some (((sgD (t2.ds x)).drop (off+l)).take len)else none)=_;rw[if_pos ⟨rfl,c1⟩,c2]
    ·cases h
   ·cases h
  ·cases h
 ·cases h
mutual
def XV.hr:XV->List Hd
 |.sl h _ _ _=>[h]
 |.slw h _ _=>[h]
 |.asl h _ _=>[h]
 |.rsl h _ _ _=>[h]
 |.agg cs=>XV.hrL cs
 |.tup vs=>XV.hrL vs
 |.clo _ vs=>XV.hrL vs
 |_=>[]
def XV.hrL:List XV->List Hd
 |[]=>[]
 |v::vs=>v.hr++XV.hrL vs
end
theorem aHm:∀(a c:List AV),AV.rowsL (a++c)=AV.rowsL a++AV.rowsL c
 |[],c=>rfl
 |x::a,c=>by show AV.rows x++AV.rowsL (a++c)=AV.rows x++AV.rowsL a++AV.rowsL c;rw[aHm a c,π]
theorem aK3:∀l:List DV,AV.rowsL (l.map .D)=[]
 |[]=>rfl
 |x::l=>aK3 l
theorem aSp(x:t.T):AV.rows (gF t x)=[]:=by
 cases hl:kR t with
 |true=>cases t<;>first|rfl|(cases hl;done)
 |false=>rw[rX x hl];exact aK3 _
mutual
theorem aBj[YL]:∀v:XV,AV.rows v.er=v.hr
 |.d t x=>aSp x
 |.agg cs=>aI8 cs
 |.tup vs=>wS vs
 |.clo _ vs=>wS vs
 |.any=>rfl
 |.un=>rfl
 |.ab=>rfl
 |.sc=>rfl
 |.ptr _ _=>rfl
 |.ept _ _ _ _=>rfl
 |.apt _ _=>rfl
 |.pa _ _ _=>rfl
 |.epa _ _ _ _ _=>rfl
 |.rop _ _ _=>rfl
 |.fl _ _=>rfl
 |.fln _=>rfl
 |.nl _=>rfl
 |.sl _ _ _ _=>rfl
 |.slw _ _ _=>rfl
 |.asl _ _ _=>rfl
 |.rpt _ _=>rfl
 |.rpa _ _ _=>rfl
 |.rsl _ _ _ _=>rfl
 |.mref _=>rfl
 |.itr _ _=>rfl
 |.c _=>rfl
 |.yld=>rfl
 |.gst _=>rfl
theorem wS[YL]:∀vs:List XV,AV.rowsL (XV.erL vs)=XV.hrL vs
 |[]=>rfl
 |v::vs=>by show AV.rows v.er++AV.rowsL (XV.erL vs)=_;rw[aBj v,wS vs];rfl
theorem bFk[YL]:∀v:XV,AV.rowsL v.fc=v.hr
 |.d t x=>aK3 _
 |.agg cs=>aI8 cs
 |.tup vs=>by show AV.rowsL (XV.erL vs)++[]=_;rw[wS vs,υ];rfl
 |.clo _ vs=>by show AV.rowsL (XV.erL vs)++[]=_;rw[wS vs,υ];rfl
 |.any=>rfl
 |.un=>rfl
 |.ab=>rfl
 |.sc=>rfl
 |.ptr _ _=>rfl
 |.ept _ _ _ _=>rfl
 |.apt _ _=>rfl
 |.pa _ _ _=>rfl
 |.epa _ _ _ _ _=>rfl
 |.rop _ _ _=>rfl
 |.fl _ _=>rfl
 |.fln _=>rfl
 |.nl _=>rfl
 |.sl _ _ _ _=>rfl
 |.slw _ _ _=>rfl
 |.asl _ _ _=>rfl
 |.rpt _ _=>rfl
 |.rpa _ _ _=>rfl
 |.rsl _ _ _ _=>rfl
 |.mref _=>rfl
 |.itr _ _=>rfl
 |.c _=>rfl
 |.yld=>rfl
 |.gst _=>rfl
theorem aI8[YL]:∀vs:List XV,AV.rowsL (XV.fcL vs)=XV.hrL vs
 |[]=>rfl
 |v::vs=>by show AV.rowsL (v.fc++XV.fcL vs)=_;rw[aHm,bFk v,aI8 vs];rfl
end
def xfz(s:XS):List Hd->List Hd
 |[]=>[]
 |h::l=>match s.lk h with
  |some _=>h::xfz s l
  |none=>xfz s l
theorem mZ[YL](s:XS):∀l:List Hd,fzL s.er.lk l=xfz s l
 |[]=>rfl
 |h::l=>by
  show(h::l).filter _=_;rw[List.filter_cons,aN];unfold xfz;cases s.lk h with
  |none=>exact mZ s l
  |some b=>exact congrArg (h::·) (mZ s l)
def flD:Ty->Bool
 |.sl _=>false
 |.o _=>false
 |.p a c=>flD a&&flD c
 |.w a=>flD a
 |_=>true
theorem aOx:∀(a c:List AV),AV.flatL (a++c)=(AV.flatL a&&AV.flatL c)
 |[],c=>rfl
 |x::a,c=>by show(AV.flat x&&AV.flatL (a++c))=(AV.flat x&&AV.flatL a&&AV.flatL c);rw[aOx a c,ie]
theorem nE:∀(t:Ty) (x:t.T),AV.flatL ((t.ds x).map .D)=flD t
 |.u,_=>rfl
 |.b,_=>rfl
 |.i _,_=>rfl
 |.s,_=>rfl
 |.p a c,v=>by
  show AV.flatL ((a.ds v.1++c.ds v.2).map .D)=(flD a&&flD c);rw[bo,aOx,nE a,nE c]
 |.w a,v=>nE a v
 |.ar n k,v=>by
  show AV.flatL ((v.l.map (DV.I k)).map .D)=true;generalize v.l=l
  induction l with
  |nil=>rfl
  |cons x l ih=>exact ih
 |.sl t,v=>rfl
 |.o _,_=>rfl
theorem aHg(x:t.T):AV.flat (gF t x)=flD t:=by
 cases hl:kR t with
 |true=>cases t<;>first|rfl|(cases hl;done)
 |false=>rw[rX x hl];exact nE t x
mutual
def flX:XV->Bool
 |.d t _=>flD t
 |.any=>true
 |.un=>true
 |.ab=>true
 |.sc=>true
 |.c _=>true
 |.gst _=>true
 |.yld=>true
 |.agg cs=>aMm cs
 |.tup cs=>aMm cs
 |_=>false
def aMm:List XV->Bool
 |[]=>true
 |v::vs=>flX v&&aMm vs
end
mutual
theorem aOq[YL]:∀v:XV,AV.flat v.er=flX v
 |.d t x=>aHg x
 |.agg cs=>aJp cs
 |.tup cs=>aKa cs
 |.clo _ _=>rfl
 |.any=>rfl
 |.un=>rfl
 |.ab=>rfl
 |.sc=>rfl
 |.ptr _ _=>rfl
 |.ept _ _ _ _=>rfl
 |.apt _ _=>rfl
 |.pa _ _ _=>rfl
 |.epa _ _ _ _ _=>rfl
 |.rop _ _ _=>rfl
 |.fl _ _=>rfl
 |.fln _=>rfl
 |.nl _=>rfl
 |.sl _ _ _ _=>rfl
 |.slw _ _ _=>rfl
 |.asl _ _ _=>rfl
 |.rpt _ _=>rfl
 |.rpa _ _ _=>rfl
 |.rsl _ _ _ _=>rfl
 |.mref _=>rfl
 |.itr _ _=>rfl
 |.c _=>rfl
 |.yld=>rfl
 |.gst _=>rfl
theorem aKa[YL]:∀vs:List XV,AV.flatL (XV.erL vs)=aMm vs
 |[]=>rfl
 |v::vs=>by show(AV.flat v.er&&AV.flatL (XV.erL vs))=(flX v&&aMm vs);rw[aOq v,aKa vs]
theorem bD2[YL]:∀v:XV,AV.flatL v.fc=flX v
 |.d t x=>nE t x
 |.agg cs=>aJp cs
 |.tup cs=>by show(AV.flatL (XV.erL cs)&&true)=aMm cs;rw[fj,aKa]
 |.clo _ _=>rfl
 |.any=>rfl
 |.un=>rfl
 |.ab=>rfl
 |.sc=>rfl
 |.ptr _ _=>rfl
 |.ept _ _ _ _=>rfl
 |.apt _ _=>rfl
 |.pa _ _ _=>rfl
 |.epa _ _ _ _ _=>rfl
 |.rop _ _ _=>rfl
 |.fl _ _=>rfl
 |.fln _=>rfl
 |.nl _=>rfl
 |.sl _ _ _ _=>rfl
 |.slw _ _ _=>rfl
 |.asl _ _ _=>rfl
 |.rpt _ _=>rfl
 |.rpa _ _ _=>rfl
 |.rsl _ _ _ _=>rfl
 |.mref _=>rfl
 |.itr _ _=>rfl
 |.c _=>rfl
 |.yld=>rfl
 |.gst _=>rfl
theorem aJp[YL]:∀vs:List XV,AV.flatL (XV.fcL vs)=aMm vs
 |[]=>rfl
 |v::vs=>by show AV.flatL (v.fc++XV.fcL vs)=(flX v&&aMm vs);rw[aOx,bD2 v,aJp vs]
end
@[reducible] def RT:List XS->Type
 |[]=>Unit
 |[m]=>rty m.tys
 |m::m2::l=>rty m.tys⊕RT (m2::l)
structure Sig where
 fn:Nat
 ent:XS
 out:List XS
 F:fty ent.tys (RT out)
def cJ:(l:List XS)->RT l->XS
 |[],_=>⟨[],[],[]⟩
 |[m],v=>m.fill (ofR m.tys v)
 |m::_::_,.inl v=>m.fill (ofR m.tys v)
 |_::m2::l,.inr v=>cJ (m2::l) v
def XV.val:List (Nat×XV)->XV
 |[(_,v)]=>v
 |l=>.tup (l.map (·.2))
def XS.pv(o:XS):Option Value:=match o.env with
 |[(k,.c v)]=>match au k 1000000 with
  |true=>some v
  |false=>none
 |_=>none
def yZ[YL](P:Program)(fn:Nat)(args:List AV)(bs:List (Option Blk))(o:XS)(nbs:List Blk):Prop:=match o.pv with
 |some pv=>bs=[]->aNl P fn args pv
 |none=>ACall P fn args bs (XV.val o.env).er (erB o.bs) nbs
def aF(P:Program)(g:Sig):Prop:=∀[YL] (v:tup g.ent.tys) (r:RT g.out),apF g.ent.tys g.F v=some r->∀nbs:List Blk,nbs.map some=erB (cJ g.out r).own->
 yZ P g.fn ((g.ent.fill v).env.map fun p=>p.2.er) (erB (g.ent.fill v).bs) (cJ g.out r) nbs
def gJ(P:Program):List Sig->Prop
 |[]=>True
 |g::l=>aF P g/\gJ P l
mutual
def bG5:XV->XV->Bool
 |.clo f ms,v=>match v with
  |.clo g vs=>au f g&&aU8 ms vs
  |_=>false
 |.ptr _ _,v=>match v with
  |.ptr _ _=>true
  |_=>false
 |.apt _ _,v=>match v with
  |.apt _ _=>true
  |_=>false
 |.rpt _ _,v=>match v with
  |.rpt _ _=>true
  |_=>false
 |.mref _,v=>match v with
  |.mref _=>true
  |_=>false
 |.slw _ _ _,v=>match v with
  |.slw _ _ _=>true
  |.fln _=>true
  |_=>false
 |.nl _,v=>match v with
  |.fln _=>true
  |.nl _=>true
  |_=>false
 |.fln _,v=>match v with
  |.fln _=>true
  |_=>false
 |.c x,v=>match v with
  |.c y=>cEq x y
  |_=>false
 |.agg ms,v=>match v with
  |.agg vs=>aU8 ms vs
  |_=>false
 |.sc,_=>true
 |.d _ _,v=>match v with
  |.ptr _ _=>false
  |.apt _ _=>false
  |.rpt _ _=>false
  |.mref _=>false
  |.clo _ _=>false
  |.c _=>false
  |.sc=>false
  |_=>true
 |_,_=>false
def aU8:List XV->List XV->Bool
 |[],[]=>true
 |m::ms,v::vs=>bG5 m v&&aU8 ms vs
 |_,_=>false
end
def qP:List (Nat×XV)->List XV
 |[]=>[]
 |p::r=>p.2::qP r
def aRv:List Sig->Nat->List XV->Option Sig
 |[],_,_=>none
 |g::l,f,vs=>match au g.fn f&&aU8 (qP g.ent.env) vs with
  |true=>some g
  |false=>aRv l f vs
theorem aC0{P:Program}{vs:List XV}:∀{l:List Sig} {f:Nat} {g:Sig},gJ P l->aRv l f vs=some g->aF P g/\g.fn=f
 |[],_,_,_,h=>by cases h
 |g0::l,f,g,ht,h=>by
  unfold aRv at h;split at h
  ·rename_i hb;cases h;rw[ν]at hb;exact⟨ht.1,η hb.1⟩
  ·exact aC0 ht.2 h
def sm?{α β γ:Type}(v:α⊕β)(f:α->Option γ)(g:β->Option γ):Option γ:=match v with
 |.inl a=>f a
 |.inr y=>g y
def aYr:(l:List XS)->RT l->(XS->Option R)->Option R
 |[],_,_=>none
 |[m],v,K=>K (m.fill (ofR m.tys v))
 |m::m2::l,v,K=>sm? v (fun a=>K (m.fill (ofR m.tys a))) fun y=>aYr (m2::l) y K
theorem aJ7:∀{l:List XS} {v:RT l} {K:XS->Option R} {r:R},aYr l v K=some r->K (cJ l v)=some r
 |[],_,_,_,h=>by cases h
 |[_],_,_,_,h=>h
 |_::_::_,.inl _,_,_,h=>h
 |_::m2::l,.inr _,_,_,h=>aJ7 (l:=m2::l) h
def aMp:List (Option XB)->Option (List XB)
 |[]=>some []
 |some b::r=>match aMp r with
  |some l=>some (b::l)
  |none=>none
 |none::_=>none
theorem aD2[YL]:∀{l:List (Option XB)} {bl:List XB},aMp l=some bl->(bl.map XB.er).map some=erB l
 |[],_,h=>by cases h;rfl
 |some b::r,bl,h=>by
  unfold aMp at h;split at h
  ·rename_i l hl;cases h;show some b.er::(l.map XB.er).map some=some b.er::erB r;rw[aD2 hl]
  ·cases h
 |none::_,_,h=>by cases h
def pP:List XV->Nat->XV
 |[],_=>.any
 |v::_,0=>v
 |_::r,i+1=>pP r i
def vS:Nat->List (Nat×XV)->List XV->Bool
 |_,[],[]=>true
 |n,(k,_)::r,_::vs=>au k n&&vS (n+1) r vs
 |_,_,_=>false
theorem aAj{f:XV->AV}:∀{l:List (Nat×XV)} {vs:List XV} {n:Nat} {ev:Nat->XV},vS n l vs=true->(∀i,i<vs.length->ev (n+i)=pP vs i)->l.map (fun p=>f (ev p.1))=vs.map f
 |[],[],_,_,_,_=>rfl
 |(k,_)::r,v::vs,n,ev,h,he=>by
  have h:(au k n&&vS (n+1) r vs)=true:=h;rw[ν]at h;have e0:ev k=v:=by rw[η h.1];exact he 0 (Nat.succ_pos _)
  show f (ev k)::r.map (fun p=>f (ev p.1))=f v::vs.map f;rw[e0,aAj h.2 fun i hi=>by rw[show n+1+i=n+(i+1) by omega,he (i+1) (Nat.succ_lt_succ hi)];rfl]
 |[],_::_,_,_,h,_=>by cases h
 |_::_,[],_,_,h,_=>by cases h
theorem aDj[YL](lk:aV)(φ:Hd->Option Hd):∀vs:List XV,AV.convL lk φ (XV.erL vs)=vs.map fun v=>AV.conv lk φ v.er
 |[]=>rfl
 |v::vs=>by show AV.conv _ _ v.er::AV.convL _ _ (XV.erL vs)=_;rw[aDj lk φ vs];rfl
theorem lZ[YL]:∀a c:List XV,XV.erL (a++c)=XV.erL a++XV.erL c
 |[],_=>rfl
 |x::a,c=>by show x.er::XV.erL (a++c)=_;rw[lZ a c];rfl
mutual
def aSu:XV->Bool
 |.d t _=>flD t
 |.any=>true
 |.un=>true
 |.ab=>true
 |.sc=>true
 |.c _=>true
 |.slw _ _ _=>true
 |.sl _ _ _ _=>true
 |.agg cs=>aEn cs
 |.tup cs=>aEn cs
 |_=>false
def aEn:List XV->Bool
 |[]=>true
 |v::vs=>aSu v&&aEn vs
end
theorem aQ4:∀(a c:List AV),AV.flatOL (a++c)=(AV.flatOL a&&AV.flatOL c)
 |[],_=>rfl
 |x::a,c=>by show(AV.flatO x&&AV.flatOL (a++c))=(AV.flatO x&&AV.flatOL a&&AV.flatOL c);rw[aQ4 a c,ie]
theorem sP:∀l:List DV,AV.flatOL (l.map .D)=AV.flatL (l.map .D)
 |[]=>rfl
 |x::l=>by show(DV.flat x&&AV.flatOL (l.map .D))=(DV.flat x&&AV.flatL (l.map .D));rw[sP l]
theorem aOj(x:t.T):AV.flatO (gF t x)=AV.flat (gF t x):=by
 cases t with
 |u=>rfl
 |b=>rfl
 |i k=>rfl
 |s=>rfl
 |p a c=>exact sP _
 |w a=>exact sP _
 |ar n k=>exact sP _
 |sl t=>rfl
 |o t=>rfl
mutual
theorem aQ1[YL]:∀v:XV,aSu v=true->AV.flatO v.er=true
 |.d t x,h=>by show AV.flatO (gF t x)=true;rw[aOj,aHg];exact h
 |.agg cs,h=>aDl cs h
 |.tup cs,h=>aFn cs h
 |.slw _ _ _,_=>rfl
 |.sl _ _ _ _,_=>rfl
 |.any,_=>rfl
 |.un,_=>rfl
 |.ab,_=>rfl
 |.sc,_=>rfl
 |.c _,_=>rfl
 |.ptr _ _,h=>by cases h
 |.ept _ _ _ _,h=>by cases h
 |.apt _ _,h=>by cases h
 |.pa _ _ _,h=>by cases h
 |.epa _ _ _ _ _,h=>by cases h
 |.rpt _ _,h=>by cases h
 |.rpa _ _ _,h=>by cases h
 |.rsl _ _ _ _,h=>by cases h
 |.rop _ _ _,h=>by cases h
 |.fl _ _,h=>by cases h
 |.fln _,h=>by cases h
 |.nl _,h=>by cases h
 |.asl _ _ _,h=>by cases h
 |.mref _,h=>by cases h
 |.itr _ _,h=>by cases h
 |.clo _ _,h=>by cases h
 |.yld,h=>by cases h
 |.gst _,h=>by cases h
theorem aFn[YL]:∀vs:List XV,aEn vs=true->AV.flatOL (XV.erL vs)=true
 |[],_=>rfl
 |v::vs,h=>by have h:(aSu v&&aEn vs)=true:=h;rw[ν]at h;show(AV.flatO v.er&&AV.flatOL (XV.erL vs))=true;rw[aQ1 v h.1,aFn vs h.2];rfl
theorem aX4[YL]:∀v:XV,aSu v=true->AV.flatOL v.fc=true
 |.d t x,h=>by show AV.flatOL ((t.ds x).map .D)=true;rw[sP,nE];exact h
 |.agg cs,h=>aDl cs h
 |.tup cs,h=>by show(AV.flatOL (XV.erL cs)&&true)=true;rw[aFn cs h];rfl
 |.slw _ _ _,_=>rfl
 |.sl _ _ _ _,_=>rfl
 |.any,_=>rfl
 |.un,_=>rfl
 |.ab,_=>rfl
 |.sc,_=>rfl
 |.c _,_=>rfl
 |.ptr _ _,h=>by cases h
 |.ept _ _ _ _,h=>by cases h
 |.apt _ _,h=>by cases h
 |.pa _ _ _,h=>by cases h
 |.epa _ _ _ _ _,h=>by cases h
 |.rpt _ _,h=>by cases h
 |.rpa _ _ _,h=>by cases h
 |.rsl _ _ _ _,h=>by cases h
 |.rop _ _ _,h=>by cases h
 |.fl _ _,h=>by cases h
 |.fln _,h=>by cases h
 |.nl _,h=>by cases h
 |.asl _ _ _,h=>by cases h
 |.mref _,h=>by cases h
 |.itr _ _,h=>by cases h
 |.clo _ _,h=>by cases h
 |.yld,h=>by cases h
 |.gst _,h=>by cases h
theorem aDl[YL]:∀vs:List XV,aEn vs=true->AV.flatOL (XV.fcL vs)=true
 |[],_=>rfl
 |v::vs,h=>by have h:(aSu v&&aEn vs)=true:=h;rw[ν]at h;show AV.flatOL (v.fc++XV.fcL vs)=true;rw[aQ4,aX4 v h.1,aDl vs h.2];rfl
end
def aZr:List XB->Bool
 |[]=>true
 |.row true t _::l=>flD t&&aZr l
 |_::_=>false
theorem aQf[YL]:∀l:List XB,aZr l=true->(l.map XB.er).all Blk.flatR=true
 |[],_=>rfl
 |.row true t xs::l,h=>by
  have h:(flD t&&aZr l)=true:=h;rw[ν]at h;rw[ct,List.all_cons,aQf l h.2,fj];show(xs.map t.ds).all (fun e=>e.all DV.flat)=true;rw[List.all_map,List.all_eq_true];intro x _;have:=nE t x;rw[h.1]at this;have key:∀l:List DV,AV.flatL (l.map .D)=l.all DV.flat:=fun l=>by
   induction l with
   |nil=>rfl
   |cons d l ih=>show(DV.flat d&&AV.flatL (l.map .D))=(DV.flat d&&l.all DV.flat);rw[ih]
  rw[key]at this;exact this
 |.row false _ _::_,h=>by cases h
 |.box _::_,h=>by cases h
 |.arr _ _ _ _::_,h=>by cases h
 |.rb _ _ _::_,h=>by cases h
 |.mp _ _ _ _ _ _::_,h=>by cases h
 |.it::_,h=>by cases h
 |.sb _ _ _::_,h=>by cases h
def aU6(al:Bool)(v:XV)(bl:List XB):Bool:=al&&(aSu v&&aZr bl)
def xfl(s:XS)(al:Bool)(v:XV)(bl:List XB)(hs:List Hd):List Hd:=match flX v,bl with
 |true,[]=>[]
 |_,_=>match aU6 al v bl with
  |true=>[]
  |false=>xfz s hs
theorem bB1[YL](s:XS)(al:Bool)(v:XV)(bl:List XB)(vs:List XV):xfl s al v bl (XV.hrL vs)=if AV.flat v.er=true/\bl.map XB.er=[]then[]else fzC (aU6 al v bl) (fzL s.er.lk (AV.rowsL (XV.erL vs))):=by
 unfold xfl;rw[aOq,wS,mZ];cases flX v with
 |false=>rw[if_neg (fun h=>by cases h.1)];rfl
 |true=>cases bl with
  |nil=>rw[if_pos ⟨rfl,rfl⟩]
  |cons b bl=>rw[if_neg (fun h=>by cases h.2)];rfl
def aU4(s:XS)(al:Bool)(vs:List XV)(o:XS)(K:XV->List XB->List Hd->Option R):Option R:=match aMp o.own with
 |some bl=>K ((XV.val o.env).ren (aX [] s.own.length)) (bl.map (XB.ren (aX [] s.own.length))) (xfl s al (XV.val o.env) bl (XV.hrL vs))
 |none=>none
def aUm:XV->Bool
 |.fln _=>true
 |_=>false
def aGk:List (Nat×XV)->List Bool
 |[]=>[]
 |p::r=>aUm p.2::aGk r
def aMg:List (Nat×XV)->Bool
 |[]=>true
 |p::r=>!aUm p.2&&aMg r
theorem aF3(lk:aV):∀{l:List (Nat×XV)} (as:List AV),aMg l=true->AV.convK lk (aGk l) as=AV.convL lk (fun _=>none) as
 |[],_,_=>rfl
 |p::r,as,h=>by
  unfold aMg at h;rw[ν,cz]at h;unfold aGk;rw[h.1];cases as with
  |nil=>rfl
  |cons a as=>
   show AV.conv _ _ a::AV.convK lk (aGk r) as=AV.conv _ _ a::AV.convL lk _ as;rw[aF3 lk as h.2]
def aWh(s:XS):List (Nat×XV)->List XV->(List XV->Option R)->Option R
 |[],[],K=>K []
 |p::ms,v::vs,K=>match aUm p.2 with
  |true=>match v with
   |.fln t=>aWh s ms vs fun l=>K (.fln t::l)
   |_=>none
  |false=>xcv s (fun _=>none) v fun v'=>aWh s ms vs fun l=>K (v'::l)
 |_,_,_=>none
theorem aK1[YL]{s:XS}{r:R}:∀{ms:List (Nat×XV)} {vs:List XV} {K:List XV->Option R},aWh s ms vs K=some r->∃l,K l=some r/\l.map XV.er=AV.convK s.er.lk (aGk ms) (XV.erL vs)/\slP.slPL (vJ s fun _=>none) l
 |[],[],K,h=>⟨[],h,rfl,trivial⟩
 |p::ms,v::vs,K,h=>by
  unfold aWh at h;unfold aGk;split at h
  ·rename_i hp;rw[hp];split at h
   ·rename_i t;obtain⟨l,h,h1,h2⟩:=aK1 h;refine⟨_,h,?_,trivial,h2⟩;show AV.fl []::l.map XV.er=AV.fl []::AV.convK _ (aGk ms) (XV.erL vs);rw[h1]
   ·cases h
  ·rename_i hp;rw[hp];obtain⟨v',h,h0,_,h3⟩:=aOw h;obtain⟨l,h,h1,h2⟩:=aK1 h;refine⟨_,h,?_,h3,h2⟩;show v'.er::l.map XV.er=AV.conv _ _ v.er::AV.convK _ (aGk ms) (XV.erL vs);rw[h1,h0]
 |[],_::_,_,h=>by cases h
 |_::_,[],_,h=>by cases h
theorem aRn[YL]{ds:List DS}{v:tup m.tys}(h1:mtE m.env l=some ds)(h2:aBx m.tys ds=some v)(hp:slP.slPL (vJ s fun _=>none) l):(m.fill v).env.map (fun p=>p.2.er)=l.map XV.er:=by have hL:=aDp h2;show(m.fil (sgs m.tys v)).env.map _=_;rw[hL];obtain⟨_,x2⟩:=aNv (len:=bC0 (lD m.bs (ds.drop (aN5 m.env).length)) (lD m.own ((ds.drop (aN5 m.env).length).drop (aBw m.bs).length))) h1 (slPL.mono (fun h' n ⟨h,mt,t,xs,e1,e2,e3⟩=>by cases e1) hp);obtain⟨e,x3,x4,x5⟩:=x2 [];rw[υ]at x3;show(wU _ m.env ds).1.map _=_;rw[x3];exact x5
def aJb(s:XS)(al:Bool)(g:Sig)(vs:List XV)(K:XV->List XB->List Hd->Option R)(Kp:Value->Option R):Option R:=match g.ent.bs,g.ent.own with
 |[],[]=>aWh s g.ent.env vs fun l=>match mtE g.ent.env l with
  |some ds=>match aBx g.ent.tys ds with
   |some v=>bd? (apF g.ent.tys g.F v) fun r=>aYr g.out r fun o=>match o.bs,o.pv with
    |[],none=>aU4 s al vs o K
    |_,some pv=>match o.own,aMg g.ent.env with
     |[],true=>Kp pv
     |_,_=>none
    |_,_=>none
   |none=>none
  |none=>none
 |_,_=>none
def bD9(s:XS)(g:Sig)(vs:List XV)(K:XV->List XB->List Hd->Option R):Option R:=aJb s true g vs K fun _=>none
def aWp(T:List Sig)(s:XS)(vs:List XV)(K:XV->List XB->List Hd->Option R):XV->Option R
 |.clo fn caps=>match aRv T fn (vs++caps)with
  |some g=>bD9 s g (vs++caps) K
  |none=>none
 |_=>none
theorem aOa(h:m.bs=[])(v:tup m.tys):(m.fill v).bs=[]:=by show(lY _ m.bs _).1=[];rw[h];rfl
theorem bAq[YL](ψ:Hd->Hd)(l:List XB):(l.map (XB.ren ψ)).map XB.er=(l.map XB.er).map (Blk.ren ψ):=by rw[e7,e7];congr 1;funext b;exact aI1 ψ b
theorem aH7[YL]{g:Sig}(hs:aF P g){al:Bool}{K:XV->List XB->List Hd->Option R}{Kp:Value->Option R}{r:R}(h:aJb s al g vs K Kp=some r){KP:AV->List Blk->List Hd->Prop}(hK:∀v nbs fz,K v nbs fz=some r->KP v.er (nbs.map XB.er) fz):
  (∃z rr nbs,(al=false->z=false)/\(z=true->AV.flatO rr=true/\nbs.all Blk.flatR=true)/\ACall P g.fn (AV.convK s.er.lk (aGk g.ent.env) (XV.erL vs)) [] rr [] nbs/\
   KP (AV.ren (aX [] s.er.nx) rr) (nbs.map (Blk.ren (aX [] s.er.nx))) (if AV.flat rr=true/\nbs=[]then[]else fzC z (fzL s.er.lk (AV.rowsL (XV.erL vs)))))\/
   ∃pv,aNl P g.fn (AV.convL s.er.lk (fun _=>none) (XV.erL vs)) pv/\Kp pv=some r:=by
 unfold aJb at h;split at h
 case h_2=>cases h
 rename_i hb ho;obtain⟨l,h,e1,hp⟩:=aK1 h;split at h
 case h_2=>cases h
 rename_i ds hds;split at h
 case h_2=>cases h
 rename_i v hv;obtain⟨rr,hr,h⟩:=bD0 h;have h:=aJ7 h;have hargs:(g.ent.fill v).env.map (fun p=>p.2.er)=AV.convK s.er.lk (aGk g.ent.env) (XV.erL vs):=(aRn hds hv hp).trans e1;split at h
 ·rename_i hob hpv;unfold aU4 at h;split at h
  case h_2=>cases h
  rename_i bl hbl;have hcall:=hs v rr hr (bl.map XB.er) (aD2 hbl);unfold yZ at hcall;rw[hpv]at hcall;rw[hargs,aOa hb,hob]at hcall;refine .inl ⟨aU6 al (XV.val (cJ g.out rr).env) bl,_,_,fun e=>by unfold aU6;rw[e];rfl,fun e=>?_,hcall,?_⟩
  ·unfold aU6 at e;rw[ν,ν]at e;exact⟨aQ1 _ e.2.1,aQf _ e.2.2⟩
  have:=hK _ _ _ h;rw[aJn,bAq]at this;rw[bB1]at this;exact this
 ·rename_i pv hpv;split at h
  case h_2=>cases h
  rename_i hown hno;have:=hs v rr hr [] (by rw[hown];rfl);unfold yZ at this;rw[hpv,hargs,aOa hb,aF3 _ _ hno]at this;exact .inr ⟨pv,this rfl,h⟩
 ·cases h
def aN6(T:List Sig)(s:XS)(vs:List XV)(K:XV->List XB->List Hd->Option R)(Kp:Value->Option R):XV->Option R
 |.clo fn caps=>match aRv T fn (vs++caps)with
  |some g=>match aMg g.ent.env with
   |true=>aJb s false g (vs++caps) K Kp
   |false=>none
  |none=>none
 |_=>none
theorem aSq[YL]{T:List Sig}(hT:gJ P T){K:XV->List XB->List Hd->Option R}{Kp:Value->Option R}{r:R}(h:aN6 T s vs K Kp vf=some r){KP:AV->List Blk->List Hd->Prop}(hK:∀v nbs fz,K v nbs fz=some r->KP v.er (nbs.map XB.er) fz):
  ∃fn caps,vf.er=.clo fn caps/\((∃rr nbs,ACall P fn (AV.convL s.er.lk (fun _=>none) (XV.erL vs++caps)) [] rr [] nbs/\
   KP (AV.ren (aX [] s.er.nx) rr) (nbs.map (Blk.ren (aX [] s.er.nx))) (if AV.flat rr=true/\nbs=[]then[]else fzL s.er.lk (AV.rowsL (XV.erL vs++caps))))\/
   ∃pv,aNl P fn (AV.convL s.er.lk (fun _=>none) (XV.erL vs++caps)) pv/\Kp pv=some r):=by
 unfold aN6 at h;split at h
 case h_2=>cases h
 rename_i fn caps;split at h
 case h_2=>cases h
 rename_i g hg;obtain⟨hs,hfn⟩:=aC0 hT hg;split at h
 case h_2=>cases h
 rename_i hno;rcases aH7 hs h hK with⟨z,rr,nbs,hz,_,h1,h2⟩|h1
 ·rw[aF3 _ _ hno,hfn,lZ]at h1;rw[hz rfl,lZ]at h2;exact⟨fn,XV.erL caps,rfl,.inl ⟨rr,nbs,h1,h2⟩⟩
 ·rw[hfn,lZ]at h1;exact⟨fn,XV.erL caps,rfl,.inr h1⟩
theorem aT3[YL]{T:List Sig}(hT:gJ P T){K:XV->List XB->List Hd->Option R}{r:R}(h:aWp T s vs K vf=some r){KP:AV->List Blk->List Hd->Prop}(hK:∀v nbs fz,K v nbs fz=some r->KP v.er (nbs.map XB.er) fz):
  ∃fn caps ks z rr nbs,vf.er=.clo fn caps/\(z=true->AV.flatO rr=true/\nbs.all Blk.flatR=true)/\ACall P fn (AV.convK s.er.lk ks (XV.erL vs++caps)) [] rr [] nbs/\
   KP (AV.ren (aX [] s.er.nx) rr) (nbs.map (Blk.ren (aX [] s.er.nx))) (if AV.flat rr=true/\nbs=[]then[]else fzC z (fzL s.er.lk (AV.rowsL (XV.erL vs++caps)))):=by
 unfold aWp at h;split at h
 case h_2=>cases h
 rename_i fn caps;split at h
 case h_2=>cases h
 rename_i g hg;obtain⟨hs,hfn⟩:=aC0 hT hg;rcases aH7 hs h hK with⟨z,rr,nbs,_,hz,h1,h2⟩|⟨pv,_,h⟩
 ·rw[hfn,lZ]at h1;rw[lZ]at h2;exact⟨fn,XV.erL caps,_,z,rr,nbs,rfl,hz,h1,h2⟩
 ·cases h
end
section
variable{R:Type}
def w1(s:XS)(x:Operand)(f:XV->Option R):Option R:=match noG x with
 |true=>f (s.ev x)
 |false=>none
theorem aM[YL]{x:Operand}{f:XV->Option R}{r:R}(h:w1 s x f=some r):f (s.ev x)=some r/\s.er.ev x=(s.ev x).er:=by
 unfold w1 at h;split at h
 ·exact⟨h,aBr s ‹_›⟩
 ·cases h
def wL(s:XS):List Operand->(List XV->Option R)->Option R
 |[],f=>f []
 |x::xs,f=>w1 s x fun v=>wL s xs fun vs=>f (v::vs)
theorem aBq[YL]{s:XS}{r:R}:∀{xs:List Operand} {f:List XV->Option R},wL s xs f=some r->∃vs,f vs=some r/\xs.map s.er.ev=XV.erL vs
 |[],f,h=>⟨[],h,rfl⟩
 |x::xs,f,h=>by obtain⟨h,e1⟩:=aM h;obtain⟨vs,h,e2⟩:=aBq h;exact⟨s.ev x::vs,h,by show s.er.ev x::xs.map s.er.ev=_;rw[e1,e2];rfl⟩
def aTn(c:Bool)(K:XV->Option R):XV->XV->Option R
 |.d t x,v=>match v with
  |.d t' y=>match t'.cst t y with
   |some y=>K (.d t (cond c x y))
   |none=>if? c (K (.d t x)) (K (.d t' y))
  |v=>if? c (K (.d t x)) (K v)
 |u,v=>if? c (K u) (K v)
theorem aTd[YL]{c:Bool}{K:XV->Option R}{KP:AV->Prop}{r:R}{b:XV}(h:aTn c K a b=some r)(hK:∀v,K v=some r->KP v.er):KP (if c=true then a.er else b.er):=by
 have hif:∀{a b:XV},if? c (K a) (K b)=some r->KP (if c=true then a.er else b.er):=fun h=>by
  rcases aJu h with⟨rfl,h⟩|⟨rfl,h⟩
  ·exact hK _ h
  ·exact hK _ h
 unfold aTn at h;split at h
 ·split at h
  ·split at h
   ·rename_i y hy;obtain⟨e,rfl⟩:=Ty.cst_ok hy;subst e;have:=hK _ h;cases c<;>exact this
   ·exact hif h
  ·exact hif h
 ·exact hif h
def nth:List XV->Nat->Option XV
 |[],_=>none
 |v::_,0=>some v
 |_::r,i+1=>nth r i
theorem aVc[YL]:∀{l:List XV} {i:Nat} {v:XV},nth l i=some v->(XV.erL l)[i]?=some v.er
 |[],_,_,h=>by cases h
 |v::_,0,_,h=>by cases h;rfl
 |_::r,i+1,v,h=>by have:=aVc (l:=r) (i:=i) h;show(_::XV.erL r)[i+1]?=_;rw[List.getElem?_cons_succ];exact this
def aEo(kd:Nat):XV->XV->Option Bool
 |.d .b x,.d .b y=>match au kd 0 with
  |true=>some (x==y)
  |false=>none
 |.d (.i k) x,.d (.i k') y=>if kd=1/\k=k' then some (x==y)else none
 |.d .s x,.d .s y=>match au kd 2 with
  |true=>some (x==y)
  |false=>none
 |_,_=>none
def pQ:List Nat->Bool->Bool->Bool
 |[],p,_=>p
 |_::_,p,q=>p&&q
def aMd:List Nat->List XV->List XV->Option Bool
 |[],[],[]=>some true
 |kd::kds,x::xs,y::ys=>match aEo kd x y with
  |some p=>match aMd kds xs ys with
   |some q=>some (pQ kds p q)
   |none=>none
  |none=>none
 |_,_,_=>none
theorem aV6(h:aMd [] xs ys=some q):q=true:=by cases xs<;>cases ys<;>first|(cases h;rfl;done)|(cases h;done)
theorem aMe[YL]:∀{kds:List Nat} {xs ys:List XV} {b:Bool},aMd kds xs ys=some b->gZ kds (XV.fcL xs) (XV.fcL ys)=some b
 |[],xs,ys,b,h=>by
  cases xs<;>cases ys<;>first|(cases h;rfl;done)|(cases h;done)
 |kd::kds,[],ys,b,h=>by cases h
 |kd::kds,x::xs,[],b,h=>by cases h
 |kd::kds,x::xs,y::ys,b,h=>by
  unfold aMd at h;split at h
  case h_2=>cases h
  rename_i p hp;split at h
  case h_2=>cases h
  rename_i q hq;cases h;have e:pQ kds p q=(p&&q):=by
   cases kds with
   |nil=>rw[aV6 hq,fj];rfl
   |cons _ _=>rfl
  have ih:=aMe hq;obtain⟨d1,d2,e1,e2,e3⟩:∃d1 d2,x.fc=[.D d1]/\y.fc=[.D d2]/\DV.same kd d1 d2=some p:=by
   unfold aEo at hp;split at hp
   ·split at hp
    ·rename_i hb;obtain rfl:=η hb;exact⟨_,_,rfl,rfl,hp⟩
    ·cases hp
   ·exact⟨_,_,rfl,rfl,hp⟩
   ·split at hp
    ·rename_i hb;obtain rfl:=η hb;exact⟨_,_,rfl,rfl,hp⟩
    ·cases hp
   ·cases hp
  show gZ (kd::kds) (x.fc++XV.fcL xs) (y.fc++XV.fcL ys)=_;rw[e1,e2];show(match DV.same kd d1 d2,gZ kds (XV.fcL xs) (XV.fcL ys)with|some p,some q=>some (p&&q)|_,_=>none)=_;rw[e3,ih,e]
def aJ8(off:Nat)(K:XV->Option R):XV->Option R
 |.ptr h o=>K (.ptr h (o+off))
 |.ept h t ix o=>match au t.n 1 with
  |true=>match o,off with
   |0,0=>K (.ept h t ix 0)
   |_,_=>none
  |false=>K (.ept h t ix (o+off))
 |.apt h ix=>K (.apt h (ix+off))
 |.rpt h o=>K (.rpt h (o+off))
 |.rop t x o=>K (.rop t x (o+off))
 |_=>none
def ixA(o j k:Nat):Nat:=match o,k with
 |0,1=>j
 |o,1=>o+j
 |o,k=>o+j*k
theorem oW(o j k:Nat):ixA o j k=o+j*k:=by
 unfold ixA;split
 ·omega
 ·omega
 ·rfl
def aEv(k:Nat)(j:Int)(K:XV->Option R):XV->Option R
 |.d (.sl t) xs=>match au t.n k with
  |true=>bE xs j fun x=>K (.rop t x 0)
  |false=>none
 |.fl t xs=>match au t.n k with
  |true=>bE xs j fun x=>K (.rop t x 0)
  |false=>none
 |.slw h t len=>match au t.n k with
  |true=>gd? (0<=j) (gd? (j<(len:Int)) (K (.ept h t j.toNat 0)))
  |false=>none
 |.sl h t off len=>match au t.n k with
  |true=>gd? (0<=j) (gd? (j<(len:Int)) (K (.ept h t (off+j.toNat) 0)))
  |false=>none
 |.asl h off len=>match au 1 k with
  |true=>gd? (0<=j) (gd? (j<(len:Int)) (K (.apt h (ixA off j.toNat 1))))
  |false=>none
 |.rsl h off l len=>match au 1 k with
  |true=>gd? (0<=j) (gd? (j<(len:Int)) (K (.rpa h off (ixA l j.toNat 1))))
  |false=>none
 |_=>none
def bDt(m k:Nat)(j:Int)(K:XV->Option R):XV->Option R
 |.apt h ix=>gd? (0<=j) (gd? (j<(m:Int)) (K (.apt h (ixA ix j.toNat k))))
 |.rop t x o=>gd? (0<=j) (gd? (j<(m:Int)) (K (.rop t x (ixA o j.toNat k))))
 |.ptr h o=>match au k 1 with
  |true=>gd? (0<=j) (gd? (j<(m:Int)) (K (.pa h o j.toNat)))
  |false=>gd? (0<=j) (gd? (j<(m:Int)) (K (.ptr h (ixA o j.toNat k))))
 |.rpt h o=>match au k 1 with
  |true=>gd? (0<=j) (gd? (j<(m:Int)) (K (.rpa h o j.toNat)))
  |false=>gd? (0<=j) (gd? (j<(m:Int)) (K (.rpt h (ixA o j.toNat k))))
 |.ept h t ix o=>match au t.n 1,au k 1 with
  |false,true=>gd? (0<=j) (gd? (j<(m:Int)) (K (.epa h t ix o j.toNat)))
  |_,_=>none
 |_=>none
def aFq(s:XS)(k:Nat)(lo hi mx:Option Operand)(K:XV->Option R):XV->Option R
 |.d (.sl t) xs=>match au t.n k with
  |true=>match mx with
   |none=>mC s hi xs.length fun h=>mC s lo 0 fun l=>gd? (l<=h) (gd? (h<=xs.length) (K (.d (.sl t) ((xs.drop l).take (h-l)))))
   |some _=>match hi with
    |none=>none
    |some _=>mC s mx xs.length fun m=>mC s hi xs.length fun h=>mC s lo 0 fun l=>gd? (l<=h) (gd? (h<=xs.length) (gd? (h=m) (K (.fl t ((xs.drop l).take (h-l))))))
  |false=>none
 |.fln t=>match mx with
  |none=>mC s hi 0 fun h=>mC s lo 0 fun l=>gd? (l<=h) (gd? (h<=0) (K (.fln t)))
  |some _=>none
 |.slw hd t len=>match au t.n k,mx with
  |true,none=>match lo,hi with
   |none,none=>K (.slw hd t len)
   |none,hi=>mC s hi len fun h=>gd? (h<=len) (K (.sl hd t 0 h))
   |lo,hi=>mC s hi len fun h=>mC s lo 0 fun l=>gd? (l<=h) (gd? (h<=len) (K (.sl hd t l (h-l))))
  |_,_=>none
 |.sl hd t off len=>match au t.n k,mx with
  |true,none=>mC s hi len fun h=>mC s lo 0 fun l=>gd? (l<=h) (gd? (h<=len) (K (.sl hd t (off+l) (h-l))))
  |_,_=>none
 |.asl hd off len=>match au 1 k,mx with
  |true,none=>mC s hi len fun h=>mC s lo 0 fun l=>gd? (l<=h) (gd? (h<=len) (K (.asl hd (ixA off l 1) (h-l))))
  |_,_=>none
 |.rsl hd off l0 len=>match au 1 k,mx with
  |true,none=>mC s hi len fun h=>mC s lo 0 fun l=>gd? (l<=h) (gd? (h<=len) (K (.rsl hd off (ixA l0 l 1) (h-l))))
  |_,_=>none
 |_=>none
theorem aHp[YL]{K:XV->Option R}{r:R}(h:aJ8 off K v=some r){KP:AV->Prop}(hK:∀v,K v=some r->KP v.er):
  match v.er with
  |.ptr h o=>KP (.ptr h (o+off))
  |.eptr h k ix o=>KP (AV.eadd h k ix o off)
  |.rop ds=>KP (.rop (ds.drop off))
  |_=>False:=by
 unfold aJ8 at h;split at h
 ·exact hK _ h
 ·rename_i hd t ix o;show KP (AV.eadd hd t.n ix o off);unfold AV.eadd;split at h
  ·rename_i hb;have hb:=η hb;split at h
   ·have:=hK _ h;simp only[XV.er,hb]at this;rw[if_pos hb];exact this
   ·cases h
  ·rename_i hb;rw[if_neg (fun e=>by rw[e]at hb;cases hb)];exact hK _ h
 ·rename_i hd ix;show KP (AV.eadd hd 1 ix 0 off);unfold AV.eadd;rw[if_pos rfl];exact hK _ h
 ·rename_i hd ix;show KP (AV.eadd hd 1 ix 0 off);unfold AV.eadd;rw[if_pos rfl];exact hK _ h
 ·rename_i t x o;have:=hK _ h;simp only[XV.er]at this|-;rw[di];exact this
 ·cases h
theorem aA6[YL]{K:XV->Option R}{r:R}(h:aEv k j K v=some r){KP:AV->Prop}(hK:∀v,K v=some r->KP v.er):0<=j/\
  match v.er with
  |.D (.L es)=>∃e,es[j.toNat]?=some e/\e.length=k/\KP (.rop e)
  |.fl es=>∃e,es[j.toNat]?=some e/\e.length=k/\KP (.rop e)
  |.sl h k' off len=>k'=k/\j<len/\KP (.eptr h k (off+j.toNat) 0)
  |_=>False:=by
 unfold aEv at h;split at h
 ·rename_i t xs;split at h
  ·rename_i hb;obtain⟨x,h0,hx,h⟩:=aMi h;refine⟨h0,t.ds x,by rw[ao,hx];rfl,by rw[Ty.ds_len];exact η hb,hK _ h⟩
  ·cases h
 ·rename_i t xs;split at h
  ·rename_i hb;obtain⟨x,h0,hx,h⟩:=aMi h;refine⟨h0,t.ds x,by rw[ao,hx];rfl,by rw[Ty.ds_len];exact η hb,hK _ h⟩
  ·cases h
 ·split at h
  ·rename_i hb;obtain⟨h0,h⟩:=aQ h;obtain⟨h1,h⟩:=aQ h;have hb:=η hb;have:=hK _ h;simp only[XV.er,hb]at this;exact⟨h0,hb,h1,by rw[az];exact this⟩
  ·cases h
 ·split at h
  ·rename_i hb;obtain⟨h0,h⟩:=aQ h;obtain⟨h1,h⟩:=aQ h;have hb:=η hb;have:=hK _ h;simp only[XV.er,hb]at this;exact⟨h0,hb,h1,this⟩
  ·cases h
 ·split at h
  ·rename_i hb;obtain⟨h0,h⟩:=aQ h;obtain⟨h1,h⟩:=aQ h;have hb:=η hb;subst hb;have:=hK _ h;rw[oW,cu]at this;exact⟨h0,rfl,h1,this⟩
  ·cases h
 ·rename_i hd off l len;split at h
  ·rename_i hb;obtain⟨h0,h⟩:=aQ h;obtain⟨h1,h⟩:=aQ h;have hb:=η hb;subst hb;have:=hK _ h;simp only[XV.er,oW,cu]at this;exact⟨h0,rfl,h1,by rw[ei];exact this⟩
  ·cases h
 ·cases h
theorem aYx[YL]{m:Nat}{K:XV->Option R}{r:R}(h:bDt m k j K v=some r){KP:AV->Prop}(hK:∀v,K v=some r->KP v.er):0<=j/\j<(m:Int)/\
  match v.er with
  |.ptr h o=>KP (.ptr h (o+j.toNat*k))
  |.eptr h k' ix o=>KP (AV.eadd h k' ix o (j.toNat*k))
  |.rop ds=>KP (.rop (ds.drop (j.toNat*k)))
  |_=>False:=by
 unfold bDt at h;split at h
 ·rename_i hd ix;obtain⟨h0,h⟩:=aQ h;obtain⟨h1,h⟩:=aQ h;have:=hK _ h;rw[oW]at this;refine⟨h0,h1,?_⟩;show KP (AV.eadd hd 1 ix 0 (j.toNat*k));unfold AV.eadd;rw[if_pos rfl];exact this
 ·rename_i t x o;obtain⟨h0,h⟩:=aQ h;obtain⟨h1,h⟩:=aQ h;have:=hK _ h;rw[oW]at this;refine⟨h0,h1,?_⟩;simp only[XV.er]at this|-;rw[di];exact this
 ·rename_i hd o;split at h
  ·rename_i hb;obtain⟨h0,h⟩:=aQ h;obtain⟨h1,h⟩:=aQ h;have hb:=η hb;subst hb;have:=hK _ h;refine⟨h0,h1,?_⟩;show KP (.ptr hd (o+j.toNat*1));rw[cu];exact this
  ·obtain⟨h0,h⟩:=aQ h;obtain⟨h1,h⟩:=aQ h;have:=hK _ h;rw[oW]at this;exact⟨h0,h1,this⟩
 ·rename_i hd o;split at h
  ·rename_i hb;obtain⟨h0,h⟩:=aQ h;obtain⟨h1,h⟩:=aQ h;have hb:=η hb;subst hb;have:=hK _ h;refine⟨h0,h1,?_⟩;show KP (AV.eadd hd 1 o 0 (j.toNat*1));unfold AV.eadd;rw[if_pos rfl,cu];exact this
  ·obtain⟨h0,h⟩:=aQ h;obtain⟨h1,h⟩:=aQ h;have:=hK _ h;rw[oW]at this;refine⟨h0,h1,?_⟩;show KP (AV.eadd hd 1 o 0 (j.toNat*k));unfold AV.eadd;rw[if_pos rfl];exact this
 ·rename_i hd t ix o;split at h
  ·rename_i hb1 hb;obtain⟨h0,h⟩:=aQ h;obtain⟨h1,h⟩:=aQ h;have hb:=η hb;subst hb;have:=hK _ h;refine⟨h0,h1,?_⟩;show KP (AV.eadd hd t.n ix o (j.toNat*1));unfold AV.eadd;rw[if_neg (fun e=>by rw[e]at hb1;cases hb1),cu];exact this
  ·cases h
 ·cases h
theorem aAx[YL]{lo hi mx:Option Operand}{K:XV->Option R}{r:R}(h:aFq s k lo hi mx K v=some r){KP:AV->Prop}(hK:∀v,K v=some r->KP v.er):nG k s.er.ev lo hi mx KP v.er:=by
 unfold aFq at h;split at h
 ·rename_i t xs;split at h
  ·rename_i hb;have hb:=η hb;have hu:Uni k (xs.map t.ds):=hb▸pJ t xs;have hl:(xs.map t.ds).length=xs.length:=θ _;split at h
   ·refine⟨hu,?_⟩;rw[hl];rw[show∀(Q:Nat->Prop),eS s.er.ev none xs.length Q=Q xs.length from fun _=>rfl];refine cH h fun hh h=>cH h fun l h=>?_;obtain⟨h1,h⟩:=aQ h;obtain⟨h2,h⟩:=aQ h;refine⟨h1,h2,fun e=>cr e,?_⟩;have:=hK _ h;simp only[XV.er,gF,bp,bz]at this;exact this
   ·split at h
    ·cases h
    ·refine⟨hu,?_⟩;rw[hl];refine cH h fun m h=>cH h fun hh h=>cH h fun l h=>?_;obtain⟨h1,h⟩:=aQ h;obtain⟨h2,h⟩:=aQ h;obtain⟨h3,h⟩:=aQ h;refine⟨h1,h2,fun _=>⟨rfl,h3⟩,?_⟩;have:=hK _ h;simp only[XV.er,bp,bz]at this;rw[if_pos (show(some _).isSome=true from rfl)];exact this
  ·cases h
 ·rename_i t;split at h
  ·refine⟨fun e he=>(by simp at he),?_⟩;refine(show∀Q:Nat->Prop,Q 0->eS s.er.ev none ([]:List (List DV)).length Q from fun _ h=>h) _ ?_;refine cH (d:=0) h fun hh h=>cH h fun l h=>?_;obtain⟨h1,h⟩:=aQ h;obtain⟨h2,h⟩:=aQ h;refine⟨h1,h2,ω _,fun e=>cr e,?_⟩;have:=hK _ h;rw[if_pos (show hh=0 by omega),List.drop_nil,List.take_nil];exact this
  ·cases h
 ·rename_i hd t len;split at h
  ·rename_i hb;have hb:=η hb;split at h
   ·refine⟨hb,rfl,?_⟩;show 0<=len/\len<=len/\_;refine⟨fw _,ω _,?_⟩;have:=hK _ h;simp only[XV.er,hb]at this;exact this
   ·refine⟨hb,rfl,cH h fun hh h=>?_⟩;obtain⟨h2,h⟩:=aQ h;show 0<=hh/\hh<=len/\_;refine⟨fw _,h2,?_⟩;have:=hK _ h;simp only[XV.er,hb]at this;exact this
   ·refine⟨hb,rfl,cH h fun hh h=>cH h fun l h=>?_⟩;obtain⟨h1,h⟩:=aQ h;obtain⟨h2,h⟩:=aQ h;refine⟨h1,h2,?_⟩;have:=hK _ h;simp only[XV.er,hb]at this;rw[az];exact this
  ·cases h
 ·rename_i hd t off len;split at h
  ·rename_i hb;have hb:=η hb;refine⟨hb,rfl,cH h fun hh h=>cH h fun l h=>?_⟩;obtain⟨h1,h⟩:=aQ h;obtain⟨h2,h⟩:=aQ h;refine⟨h1,h2,?_⟩;have:=hK _ h;simp only[XV.er,hb]at this;exact this
  ·cases h
 ·rename_i hd off len;split at h
  ·rename_i hb;have hb:=η hb;refine⟨hb,rfl,cH h fun hh h=>cH h fun l h=>?_⟩;obtain⟨h1,h⟩:=aQ h;obtain⟨h2,h⟩:=aQ h;refine⟨h1,h2,?_⟩;have:=hK _ h;rw[oW,cu]at this;subst hb;exact this
  ·cases h
 ·rename_i hd off l0 len;split at h
  ·rename_i hb;have hb:=η hb;refine⟨hb,rfl,cH h fun hh h=>cH h fun l h=>?_⟩;obtain⟨h1,h⟩:=aQ h;obtain⟨h2,h⟩:=aQ h;refine⟨h1,h2,?_⟩;have:=hK _ h;simp only[XV.er,oW,cu]at this;subst hb;rw[ei];exact this
  ·cases h
 ·cases h
end
section
variable{R:Type}
def bF(xs:List Int):Str:=xs.map fun n=>UInt8.ofNat n.toNat
theorem aBk:∀{xs:List Int},mI (xs.map (Ty.i .u8).ds)=some (bF xs)
 |[]=>rfl
 |x::xs=>by have ih:=aBk (xs:=xs);show(mI (xs.map (Ty.i .u8).ds)).map _=_;rw[ih];rfl
def szL:List XV->Nat
 |[]=>0
 |v::r=>v.sz+szL r
theorem aAn[YL]:∀l:List XV,(XV.fcL l).length=szL l
 |[]=>rfl
 |v::r=>by show(v.fc++XV.fcL r).length=v.sz+szL r;rw[κ,aD6,aAn r]
theorem rR:∀l:List DV,AV.data (l.map .D)=some l
 |[]=>rfl
 |x::l=>by show(AV.data (l.map .D)).map (x::·)=_;rw[rR l];rfl
def zl:Ty->List XV
 |.u=>[]
 |.b=>[.d .b false]
 |.i k=>[.d (.i k) 0]
 |.s=>[.d .s []]
 |.p a c=>zl a++zl c
 |.w a=>zl a
 |.ar n k=>[.d (.ar n k) (Arr.zero n)]
 |.sl t=>[.fln t]
 |.o t=>[.fln t]
def wO:Ty->List AV
 |.u=>[]
 |.b=>[.D (.B false)]
 |.i k=>[.D (.I k 0)]
 |.s=>[.D (.S [])]
 |.p a c=>wO a++wO c
 |.w a=>wO a
 |.ar n k=>bn n (.D (.I k 0))
 |.sl _=>[.fl []]
 |.o _=>[.fl []]
theorem yG[YL]:∀t:Ty,XV.fcL (zl t)=wO t
 |.u=>rfl
 |.b=>rfl
 |.i _=>rfl
 |.s=>rfl
 |.p a c=>by show XV.fcL (zl a++zl c)=wO a++wO c;rw[kZ,yG a,yG c]
 |.w a=>yG a
 |.ar n k=>by
  show(((bn n (0:Int)).map (DV.I k)).map AV.D)++[]=bn n (.D (.I k 0));rw[υ,fh,fh]
 |.sl _=>rfl
 |.o _=>rfl
def zeq:List AV->List AV->Bool
 |[],[]=>true
 |.D (.B x)::r,.D (.B y)::r'=>(x==y)&&zeq r r'
 |.D (.I k x)::r,.D (.I k' y)::r'=>decide (k=k')&&((x==y)&&zeq r r')
 |.D (.S x)::r,.D (.S y)::r'=>(x==y)&&zeq r r'
 |.fl []::r,.fl []::r'=>zeq r r'
 |.D (.L [])::r,.D (.L [])::r'=>zeq r r'
 |_,_=>false
theorem aF7:∀{a c:List AV},zeq a c=true->a=c:=by
 intro a
 induction a with
 |nil=>intro c h;cases c<;>first|rfl|(cases h;done)
 |cons x r ih=>
  intro c h;unfold zeq at h;split at h
  ·cases‹x::r=[]›
  ·rename_i e;cases e;rw[ν,beq_iff_eq]at h;rw[h.1,ih h.2]
  ·rename_i e;cases e;rw[ν,ν,beq_iff_eq,decide_eq_true_eq]at h;rw[h.1,h.2.1,ih h.2.2]
  ·rename_i e;cases e;rw[ν,beq_iff_eq]at h;rw[h.1,ih h.2]
  ·rename_i e;cases e;rw[ih h]
  ·rename_i e;cases e;rw[ih h]
  ·cases h
def zX:List AV->Option (List XV)
 |[]=>some []
 |.D (.B x)::r=>(zX r).map (.d .b x::·)
 |.D (.I k x)::r=>(zX r).map (.d (.i k) x::·)
 |.D (.S x)::r=>(zX r).map (.d .s x::·)
 |.fl []::r=>(zX r).map (.fln .u::·)
 |.D (.C v)::r=>(zX r).map (.c v::·)
 |_=>none
theorem bBf[YL]:∀{a:List AV} {l:List XV},zX a=some l->XV.fcL l=a:=by
  intro a
  induction a with
  |nil=>intro l h;cases h;rfl
  | cons x r ih =>
    intro l h;unfold zX at h;split at h
    · rename_i e;cases e
    all_goals first
      | (rename_i e;cases e
         rw[ζ]at h;obtain⟨l',h1,rfl⟩:=h;exact congrArg (_::·) (ih h1))
      |(cases h;done)
def aRe(ty:Option Ty)(zs:List AV):Option (List XV):=match ty with
 |some t=>match zeq zs (wO t)with
  |true=>some (zl t)
  |false=>none
 |none=>zX zs
theorem aL9[YL](h:aRe ty zs=some l):XV.fcL l=zs:=by
 unfold aRe at h;split at h
 ·split at h
  ·rename_i hz;cases h;rw[yG,aF7 hz]
  ·cases h
 ·exact bBf h
def elT:Option Ty->Option Ty
 |some (.sl t)=>some t
 |_=>none
def xbs(s:XS)(t:Ty):List XV->(List t.T->Option R)->Option R
 |[],K=>K []
 |v::vs,K=>match oT v with
  |some cs=>pkC s t cs fun x l=>match l with
   |[]=>xbs s t vs fun ys=>K (x::ys)
   |_=>none
  |none=>none
theorem aOz[YL]{s:XS}{t:Ty}{k:Nat}(hk:t.n=k){r:R}:∀{ps:List Operand} {vs:List XV} {K:List t.T->Option R},ps.map s.er.ev=XV.erL vs->xbs s t vs K=some r->∃xs,K xs=some r/\oZ s.er.lk s.er.ev k ps=some (xs.map t.ds)/\dH s.er.ev ps=XV.hrL vs
 |[],[],K,_,h=>⟨[],h,rfl,rfl⟩
 |p::ps,v::vs,K,e,h=>by
  have e1:s.er.ev p=v.er:=List.head_eq_of_cons_eq e;have e2:ps.map s.er.ev=XV.erL vs:=List.tail_eq_of_cons_eq e;unfold xbs at h;split at h
  ·rename_i cs hcs;obtain⟨x,l1,l2,rfl,h,ec⟩:=aUk (φ:=fun _=>none) (fun _ _ _=>rfl) h;split at h
   ·obtain⟨xs,h,h1,h2⟩:=aOz hk e2 h;refine⟨x::xs,h,?_,?_⟩
    ·unfold oZ;rw[e1,kT hcs,h1];show(match AV.data (AV.convL s.er.lk (fun _=>none) (XV.fcL (l1++[]))),some (xs.map t.ds)with|some e,some es=>if e.length=k then some (e::es)else none|_,_=>none)=_;rw[υ,ec,rR];show(if(t.ds x).length=k then _ else _)=_;rw[if_pos (by rw[Ty.ds_len];exact hk)];rfl
    ·show AV.rows (s.er.ev p)++dH s.er.ev ps=_;rw[e1,aBj,h2];rfl
   ·cases h
  ·cases h
 |[],_::_,_,e,_=>by cases e
 |_::_,[],_,e,_=>by cases e
def aO1(s:XS):List (Nat×Nat×Operand)->List XV->(List XV->Option R)->Option R
 |[],l,K=>K l
 |(o,sz,x)::r,l,K=>w1 s x fun v=>match oT v with
  |some cs=>match au (szL cs) sz,aIm l o cs sz with
   |true,some l'=>aO1 s r l' K
   |_,_=>none
  |none=>none
theorem aDt(o:Nat)(xs:List AV):∀(r:List (Nat×List AV)) (cs:List AV),sF cs (r++[(o,xs)])=(sF cs r).take o++xs++(sF cs r).drop (o+xs.length)
 |[],cs=>rfl
 |(o',ys)::r,cs=>by show sF _ (r++[(o,xs)])=_;rw[aDt o xs r];rfl
theorem aH4[YL]{s:XS}{zs:List AV}{K:List XV->Option R}{r:R}{KP:AV->Prop}(hK:∀l,K l=some r->KP (.agg (XV.fcL l))):∀{ps:List (Nat×Nat×Operand)} {l:List XV} {acc:List (Nat×List AV)},XV.fcL l=sF zs acc.reverse->(XV.fcL l).length=zs.length->aO1 s ps l K=some r->aA7 s.er.ev zs ps acc KP
 |[],l,acc,e,_,h=>by show KP (.agg (sF zs acc.reverse));rw[<-e];exact hK _ h
 |(o,sz,x)::ps,l,acc,e,el,h=>by
  obtain⟨h,e1⟩:=aM h;split at h
  ·rename_i cs hcs;split at h
   ·rename_i l' hb hu;obtain⟨u1,u2⟩:=qT hu;have hsz:(XV.fcL cs).length=sz:=by rw[aAn];exact η hb
    refine⟨XV.fcL cs,by rw[e1];exact kT hcs,hsz,by rw[<-el];exact u1,?_⟩;refine aH4 hK (l:=l') ?_ ?_ h
    ·rw[u2,e,List.reverse_cons,aDt,hsz]
    ·rw[u2,κ,κ,cp,aw,hsz];omega
   ·cases h
  ·cases h
def unA:XV->XV
 |.agg [.d (.ar n k) x]=>.d (.ar n k) x
 |v=>v
theorem aJ6[YL](v:XV):(unA v).er=v.er:=by
 unfold unA;split
 ·rename_i n k x;show AV.agg (((Ty.ar n k).ds x).map .D)=.agg (((Ty.ar n k).ds x).map .D++[]);rw[υ]
 ·rfl
def Ty.z:(t:Ty)->t.T
 |.u=>()
 |.b=>false
 |.i _=>0
 |.s=>[]
 |.p a c=>(a.z,c.z)
 |.w a=>a.z
 |.ar n _=>Arr.zero n
 |.sl _=>[]
 |.o _=>[]
def bCu(t:Ty)(k bytes:Nat)(zs:List DV)(K:XV->XB->Option R)(m:Nat):XV->XV->Option R
 |.d (.i _) l,.d (.i _) c=>match au t.n k,zeq (zs.map .D) ((t.ds t.z).map .D)with
  |true,true=>gd? (0<=l) (gd? (l<=c) (gd? (c.toNat<=9223372036854775807) (gd? (c.toNat*bytes<=281474976710656) (K (.slw (.O m) t l.toNat) (.row true t (bn l.toNat t.z))))))
  |_,_=>none
 |_,_=>none
theorem aX1[YL]{zs:List DV}{K:XV->XB->Option R}{r:R}{m:Nat}{vx:XV}(h:bCu t k bytes zs K m vx vy=some r):
  ∃(k1 k2:IntKind) (l c:Int) (v:XV) (b:XB),vx.er=.D (.I k1 l)/\vy.er=.D (.I k2 c)/\0<=l/\l<=c/\c<=9223372036854775807/\(bytes:Int)*c<=281474976710656/\K v b=some r/\v.er=.sl (.O m) k 0 l.toNat/\b.er=.row true k (bn l.toNat zs):=by
 unfold bCu at h;split at h
 ·rename_i k1 l k2 c;split at h
  ·rename_i hb hz;have hb:=η hb;have hz:=kM (aF7 hz);obtain⟨h1,h⟩:=aQ h;obtain⟨h2,h⟩:=aQ h;obtain⟨h3,h⟩:=aQ h;obtain⟨h4,h⟩:=aQ h;have h0:(0:Int)<=c:=Int.le_trans (show(0:Int)<=l from h1) h2;have hc:((Int.toNat c:Nat):Int)=c:=Int.toNat_of_nonneg h0;have h3:(c:Int)<=9223372036854775807:=by rw[<-hc];exact Int.ofNat_le.2 h3
   have h4:(bytes:Int)*c<=281474976710656:=by rw[<-hc,Int.mul_comm,<-Int.natCast_mul];exact Int.ofNat_le.2 h4
   refine⟨k1,k2,l,c,_,_,rfl,rfl,h1,h2,h3,h4,h,?_,?_⟩
   ·show AV.sl (.O m) t.n 0 _=_;rw[hb]
   ·show Blk.row true t.n ((bn _ t.z).map t.ds)=_;rw[hb,fh,<-hz]
  ·cases h
 ·cases h
def xpk(j:Int)(K:XV->Option R):Nat->List XV->Option R
 |_,[]=>none
 |i,v::vs=>match v with
  |.clo f c=>if? (decide (j=(i:Int))) (K (.clo f c)) (xpk j K (i+1) vs)
  |_=>none
theorem aWm[YL]{j:Int}{K:XV->Option R}{r:R}:∀{vs:List XV} {i:Nat},xpk j K i vs=some r->∃n v,j=((i+n:Nat):Int)/\n<vs.length/\(XV.fcL vs)[n]?=some v.er/\K v=some r
 |[],i,h=>by cases h
 |v::vs,i,h=>by
  unfold xpk at h;split at h
  ·rename_i f c;by_cases hj:j=(i:Int)
   ·rw[decide_eq_true hj]at h;exact⟨0,.clo f c,hj,Nat.succ_pos _,rfl,h⟩
   ·rw[decide_eq_false hj]at h;have h:xpk j K (i+1) vs=some r:=h;obtain⟨n,v,h1,h2,h3,h4⟩:=aWm h;exact⟨n+1,v,by rw[h1];congr 1;omega,Nat.succ_lt_succ h2,h3,h4⟩
  ·cases h
def bBu(m k:Nat)(ag:Option Nat)(j:Int)(K:XV->Option R):XV->Option R
 |.d (.ar n k') y=>match ag with
  |none=>match au n m,au k 1 with
   |true,true=>bE y.l j fun c=>K (.d (.i k') c)
   |_,_=>none
  |some q=>match au (m*k) n,au q k with
   |true,true=>gd? (0<=j) (gd? (j<(m:Int)) (K (.d (.ar q k') (y.part (ixA 0 j.toNat k) q))))
   |_,_=>none
 |.agg cs=>match ag,au cs.length m,au k 1 with
  |none,true,true=>xpk j K 0 cs
  |_,_,_=>none
 |_=>none
theorem aYp[YL]{m:Nat}{K:XV->Option R}{r:R}(h:bBu m k ag j K v=some r){KP:AV->Prop}(hK:∀v,K v=some r->KP v.er):∃cs,v.er=.agg cs/\0<=j/\j<(m:Int)/\
  match(generalizing:=false) ag with
  |none=>∃a,cs[j.toNat*k]?=some a/\KP a
  |some q=>j.toNat*k+q<=cs.length/\KP (.agg ((cs.drop (j.toNat*k)).take q)):=by
 unfold bBu at h;split at h
 ·rename_i n k' y;cases ag with
  |none=>
   replace h:(match au n m,au k 1 with
    |true,true=>bE y.l j fun c=>K (.d (.i k') c)
    |_,_=>none)=some r:=h
   split at h
   ·rename_i hb hb2;have hb:=η hb;have hb2:=η hb2;obtain⟨c,h0,hc,h⟩:=aMi h;have hlt:=(aq.1 hc).1;rw[y.len]at hlt;refine⟨(y.l.map (DV.I k')).map .D,rfl,h0,by omega,.D (.I k' c),?_,hK (.d (.i k') c) h⟩;rw[hb2,cu,ao,ao,hc];rfl
   ·cases h
  |some q=>
   replace h:(match au (m*k) n,au q k with
    |true,true=>gd? (0<=j) (gd? (j<(m:Int)) (K (.d (.ar q k') (y.part (ixA 0 j.toNat k) q))))
    |_,_=>none)=some r:=h
   split at h
   ·rename_i hb hb2;have hb:=η hb;obtain rfl:=η hb2;obtain⟨h0,h⟩:=aQ h;obtain⟨h1,h⟩:=aQ h;have hle:j.toNat*q+q<=n:=by rw[<-hb,<-Nat.succ_mul];exact Nat.mul_le_mul_right _ (by omega)
    have:=hK _ h;rw[oW,az]at this;refine⟨(y.l.map (DV.I k')).map .D,rfl,h0,h1,by rw[θ,θ,y.len];exact hle,?_⟩;have e:(XV.d (.ar q k') (y.part (j.toNat*q) q)).er=.agg ((((y.l.map (DV.I k')).map AV.D).drop (j.toNat*q)).take q):=by show AV.agg (((y.part (j.toNat*q) q).l.map (DV.I k')).map .D)=_;rw[Arr.l_part hle,bp,bz,bp,bz]
    rw[e]at this;exact this
   ·cases h
 ·rename_i cs;split at h
  ·rename_i hb hb2;have hb:=η hb;obtain rfl:=η hb2;obtain⟨n,v,h1,h2,h3,h4⟩:=aWm h;refine⟨XV.fcL cs,rfl,by omega,by omega,v.er,?_,hK v h4⟩;rw[h1,χ,cu,az];exact h3
  ·cases h
 ·cases h
def bFh(s:XS)(m:Nat)(lo hi:Option Operand)(K:XV->Option R):XV->Option R
 |.apt h ix=>match s.lk h with
  |some (.arr _ n _ _)=>match j9 (ix+m) n with
   |true=>mC s hi m fun hh=>mC s lo 0 fun l=>gd? (l<=hh) (gd? (hh<=m) (K (.asl h (ixA ix l 1) (hh-l))))
   |false=>none
  |_=>none
 |.rpt h off=>match s.lk h with
  |some (.rb _ t x)=>match wB (lvs t x) off with
   |some a=>match au a.n m with
    |true=>mC s hi m fun hh=>mC s lo 0 fun l=>gd? (l<=hh) (gd? (hh<=m) (K (.rsl h off l (hh-l))))
    |false=>none
   |none=>none
  |_=>none
 |_=>none
def zK(k:IntKind):Nat->List AV->Bool
 |0,[]=>true
 |n+1,.D (.I k' 0)::l=>decide (k'=k)&&zK k n l
 |_,_=>false
theorem bA6{k:IntKind}:∀{n:Nat} {l:List AV},zK k n l=true->l=(bn n (DV.I k 0)).map .D
 |0,[],_=>rfl
 |n+1,.D (.I k' 0)::l,h=>by have h:(decide (k'=k)&&zK k n l)=true:=h;rw[ν,decide_eq_true_eq]at h;rw[h.1,bA6 h.2];rfl
def bAv(zs:List AV)(K:XV->XB->Option R)(m:Nat):Ty->Option R
 |.ar n k=>match zK k n zs with
  |true=>K (.apt (.O m) 0) (.arr true n k (Arr.zero n))
  |false=>none
 |t=>match zeq zs ((t.ds t.z).map .D)with
  |true=>K (.rpt (.O m) 0) (.rb true t t.z)
  |false=>none
def bA8(ty:Option Ty)(K:XV->XB->Option R)(m:Nat):XV->Option R
 |.d (.ar n k) y=>K (.apt (.O m) 0) (.arr true n k y)
 |.agg cs=>match ty with
  |some t=>match pkD t cs with
   |some (x,[])=>K (.rpt (.O m) 0) (.rb true t x)
   |_=>none
  |none=>none
 |_=>none
def bBm(k:IntKind)(m:Nat)(K:Bool->Option R):XV->XV->Option R
 |.d (.ar n k1) a,.d (.ar n2 k2) b=>match au n m,au n2 m,decide (k1=k),decide (k2=k)with
  |true,true,true,true=>K (a.l==b.l)
  |_,_,_,_=>none
 |_,_=>none
def aPr(K:XV->Option R):XV->Option R
 |.ptr h o=>K (.ptr h o)
 |.ept h t ix o=>K (.ept h t ix o)
 |.apt h ix=>K (.apt h ix)
 |.rpt h o=>K (.rpt h o)
 |.rop t x o=>K (.rop t x o)
 |_=>none
theorem tQ{k:IntKind}:∀(l:List Int),qZ k ((l.map (DV.I k)).map .D)=some l
 |[]=>rfl
 |x::l=>by show(if k=k then(qZ k ((l.map (DV.I k)).map .D)).map (x::·)else none)=_;rw[if_pos rfl,tQ l];rfl
theorem aYw[YL]{k:IntKind}{m:Nat}{K:Bool->Option R}{r:R}{c:XV}(h:bBm k m K a c=some r):∃xs ys p q,a.er=.agg xs/\c.er=.agg ys/\qZ k xs=some p/\qZ k ys=some q/\p.length=m/\q.length=m/\K (p==q)=some r:=by
 unfold bBm at h;split at h
 ·rename_i n k1 a n2 k2 b;split at h
  ·rename_i h1 h2 h3 h4;have h1:=η h1;have h2:=η h2;have h3:=of_decide_eq_true h3;have h4:=of_decide_eq_true h4;subst h1 h2 h3 h4;exact⟨(a.l.map (DV.I _)).map .D,(b.l.map (DV.I _)).map .D,a.l,b.l,rfl,rfl,tQ _,tQ _,a.len,b.len,h⟩
  ·cases h
 ·cases h
theorem aMb[YL]{K:XV->Option R}{r:R}(h:aPr K v=some r){KP:AV->Prop}(hK:∀v,K v=some r->KP v.er):match v.er with
  |.ptr h o=>KP (.ptr h o)
  |.eptr h k ix o=>KP (.eptr h k ix o)
  |.rop ds=>KP (.rop ds)
  |_=>False:=by
 unfold aPr at h;split at h
 ·exact hK _ h
 ·exact hK _ h
 ·exact hK _ h
 ·exact hK _ h
 ·exact hK _ h
 ·cases h
theorem zR:∀l:List DV,AV.data (l.map .D)=some l
 |[]=>rfl
 |x::l=>by show(AV.data (l.map AV.D)).map (x::·)=_;rw[zR l];rfl
def bC3:List Sh->Bool->Bool->Bool
 |[],p,_=>p
 |_::_,p,q=>p&&q
def bDl(k:IntKind)(m:Nat):XV->XV->Option Bool
 |.d (.ar n k1) a,.d (.ar n2 k2) e=>match au n m,au n2 m,decide (k1=k),decide (k2=k)with
  |true,true,true,true=>some (a.l==e.l)
  |_,_,_,_=>none
 |_,_=>none
theorem aX2[YL]{k:IntKind}{m:Nat}{x:XV}{b:Bool}(h:bDl k m x y=some b):∃p q:List Int,x.fc=(p.map (DV.I k)).map .D/\y.fc=(q.map (DV.I k)).map .D/\p.length=m/\q.length=m/\b=(p==q):=by
 unfold bDl at h;split at h
 ·rename_i n k1 a n2 k2 e;split at h
  ·rename_i h1 h2 h3 h4;obtain rfl:=η h1;obtain rfl:=η h2;obtain rfl:=of_decide_eq_true h3;obtain rfl:=of_decide_eq_true h4;cases h;exact⟨a.l,e.l,rfl,rfl,a.len,e.len,rfl⟩
  ·cases h
 ·cases h
def aLa:List Sh->List XV->List XV->Option Bool
 |[],[],[]=>some true
 |.s kd::r,x::xs,y::ys=>match aEo kd x y,aLa r xs ys with
  |some p,some q=>some (bC3 r p q)
  |_,_=>none
 |.a k m::r,x::xs,y::ys=>match bDl k m x y,aLa r xs ys with
  |some p,some q=>some (bC3 r p q)
  |_,_=>none
 |_,_,_=>none
theorem aTh(h:aLa [] xs ys=some q):q=true:=by cases xs<;>cases ys<;>first|(cases h;rfl;done)|(cases h;done)
theorem aQk{r:List Sh}{p:Bool}(h:aLa r xs ys=some q):bC3 r p q=(p&&q):=by
 cases r with
 |nil=>rw[aTh h,fj];rfl
 |cons _ _=>rfl
theorem aRt[YL]{kd:Nat}{x:XV}{p:Bool}(hp:aEo kd x y=some p):∃d1 d2,x.fc=[.D d1]/\y.fc=[.D d2]/\DV.same kd d1 d2=some p:=by
 unfold aEo at hp;split at hp
 ·split at hp
  ·rename_i hb;obtain rfl:=η hb;exact⟨_,_,rfl,rfl,hp⟩
  ·cases hp
 ·exact⟨_,_,rfl,rfl,hp⟩
 ·split at hp
  ·rename_i hb;obtain rfl:=η hb;exact⟨_,_,rfl,rfl,hp⟩
  ·cases hp
 ·cases hp
theorem aJg[YL]:∀{sh:List Sh} {xs ys:List XV} {b:Bool},aLa sh xs ys=some b->aCm sh (XV.fcL xs) (XV.fcL ys)=some b
 |[],xs,ys,b,h=>by
  cases xs<;>cases ys<;>first|(cases h;rfl;done)|(cases h;done)
 |.s kd::r,x::xs,y::ys,b,h=>by
  unfold aLa at h;split at h
  ·rename_i p q h1 h2;cases h;obtain⟨d1,d2,e1,e2,e3⟩:=aRt h1;have ih:=aJg h2;show aCm (.s kd::r) (x.fc++XV.fcL xs) (y.fc++XV.fcL ys)=_;rw[e1,e2,aQk h2];show(match DV.same kd d1 d2,aCm r (XV.fcL xs) (XV.fcL ys)with|some p,some q=>some (p&&q)|_,_=>none)=_;rw[e3,ih]
  ·cases h
 |.a k m::r,x::xs,y::ys,b,h=>by
  unfold aLa at h;split at h
  ·rename_i p q h1 h2;cases h;obtain⟨p1,q1,e1,e2,l1,l2,rfl⟩:=aX2 h1;have ih:=aJg h2;show aCm (.a k m::r) (x.fc++XV.fcL xs) (y.fc++XV.fcL ys)=_;rw[e1,e2,aQk h2];have hl:∀(p:List Int),p.length=m->((p.map (DV.I k)).map AV.D).length=m:=fun p e=>by rw[θ,θ,e]
   have tk:∀{a c:List AV},a.length=m->(a++c).take m=a:=fun e=>by rw[<-e,List.take_left]
   have dp:∀{a c:List AV},a.length=m->(a++c).drop m=c:=fun e=>by rw[<-e,List.drop_left]
   unfold aCm;rw[tk (hl _ l1),tk (hl _ l2),dp (hl _ l1),dp (hl _ l2),tQ,tQ,ih];simp only;rw[if_pos ⟨l1,l2⟩]
  ·cases h
 |.s _::_,[],ys,b,h=>by cases h
 |.s _::_,_::_,[],b,h=>by cases h
 |.a _ _::_,[],ys,b,h=>by cases h
 |.a _ _::_,_::_,[],b,h=>by cases h
section
variable{α β:Type}[DecidableEq α]
def zV:List (α×β)->α->Option β
 |[],_=>none
 |e::es,y=>if e.1=y then some e.2 else zV es y
def bEn:List (α×β)->α->β->List (α×β)
 |[],y,v=>[(y,v)]
 |e::es,y,v=>if e.1=y then(y,v)::es else e::bEn es y v
def bE7:List (α×β)->α->List (α×β)
 |[],_=>[]
 |e::es,y=>if e.1=y then es else e::bE7 es y
end
def bDx(t:Ty)(x:t.T):XV:=match t,x with
 |.o t,x=>.d (.sl t) x
 |t,x=>aGf t x
theorem aLw:∀{a b c d:List AV} {p q:Bool},aB6 a b=some p->aB6 c d=some q->aB6 (a++c) (b++d)=some (p&&q)
 |a,b,c,d,p,q,h,h2=>by
  unfold aB6 at h;split at h
  ·cases h;simpa using h2
  ·rename_i k n xs k' n' ys;rw[δ]at h;obtain⟨e,h⟩:=h;split at h
   ·rename_i b0 hb;cases h;show(if k=k' then match aB6 (xs++c) (ys++d)with|some b=>some (n==n'&&b)|none=>none else none)=_;rw[if_pos e,aLw hb h2,ie]
   ·cases h
  ·cases h
theorem aQ9(k:IntKind):∀(l l':List Int),l.length=l'.length->aB6 ((l.map (DV.I k)).map .D) ((l'.map (DV.I k)).map .D)=some (decide (l'=l))
 |[],[],_=>rfl
 |x::l,y::l',h=>by
  show(if k=k then match aB6 ((l.map (DV.I k)).map .D) ((l'.map (DV.I k)).map .D)with|some b=>some (x==y&&b)|none=>none else none)=_;rw[if_pos rfl,aQ9 k l l' (by simpa using h)];simp only[Option.some.injEq];rw[dv,ν,beq_iff_eq,decide_eq_true_eq,decide_eq_true_eq];exact⟨fun⟨a,b⟩=>by rw[a,b],fun e=>by cases e;exact⟨rfl,rfl⟩⟩
 |[],_::_,h=>by cases h
 |_::_,[],h=>by cases h
theorem aJq:∀{t:Ty},aRl t=true->∀x y:t.T,aB6 ((t.ds x).map .D) ((t.ds y).map .D)=some (decide (y=x))
 |.i k,_,x,y=>by
  show(if k=k then some (((x:Int)==y)&&true)else none)=_;rw[if_pos rfl,fj];congr 1;rw[dv,beq_iff_eq,decide_eq_true_eq];exact⟨Eq.symm,Eq.symm⟩
 |.p a b,h,x,y=>by
  have h:(aRl a&&aRl b)=true:=h;rw[ν]at h;show aB6 ((a.ds x.1++b.ds x.2).map .D) ((a.ds y.1++b.ds y.2).map .D)=_;rw[bo,bo,aLw (aJq h.1 x.1 y.1) (aJq h.2 x.2 y.2)];congr 1;rw[dv,ν,decide_eq_true_eq,decide_eq_true_eq,decide_eq_true_eq];exact⟨fun⟨a,b⟩=>Prod.ext a b,fun e=>by rw[e];exact⟨rfl,rfl⟩⟩
 |.ar n k,_,x,y=>by
  show aB6 ((x.l.map (DV.I k)).map .D) ((y.l.map (DV.I k)).map .D)=_;rw[aQ9 k x.l y.l (x.len.trans y.len.symm)];congr 1;rw[dv,decide_eq_true_eq,decide_eq_true_eq];exact⟨fun e=>Arr.ext e,fun e=>by rw[e]⟩
 |.u,h,_,_|.b,h,_,_|.s,h,_,_|.w _,h,_,_|.sl _,h,_,_|.o _,h,_,_=>by cases h
theorem aYq{K:Ty}(h:aB2 K=true)(x y:K.T):(gF K x).keq (gF K y)=some (decide (y=x)):=by
 cases K<;>first|(cases h;done)|skip
 ·rename_i k;show(if k=k then some ((x:Int)==y)else none)=_;rw[if_pos rfl];congr 1;rw[dv,beq_iff_eq,decide_eq_true_eq];exact⟨Eq.symm,Eq.symm⟩
 ·show some ((x:List UInt8)==y)=_;congr 1;rw[dv,beq_iff_eq,decide_eq_true_eq];exact⟨Eq.symm,Eq.symm⟩
 ·exact aJq h x y
 ·exact aJq (t:=.ar _ _) rfl x y
theorem wV{wr:Bool}{K V:Ty}(hk:aB2 K=true)(y:K.T):∀(es:List (K.T×V.T)) (hole:Option K.T),∃r,vI (gF K y) (aB3 wr K V es hole)=some r/\
  match zV es y with
  |none=>r=none
  |some v=>∃j,r=some (j,if hole=some y then .v (bDq wr V v)else aSe wr V v)
 |[],hole=>⟨none,rfl,rfl⟩
 |e::es,hole=>by
  have key:∀(mv:MV) (rest:List (AV×MV)) (r0:Option (Nat×MV)),vI (gF K y) rest=some r0->vI (gF K y) ((gF K e.1,mv)::rest)=some (if e.1=y then some (0,mv)else match r0 with|some (j,v)=>some (j+1,v)|none=>none):=fun mv rest r0 h0=>by
   unfold vI;rw[aYq hk];by_cases he:e.1=y
   ·rw[decide_eq_true he,if_pos he]
   ·rw[decide_eq_false he,if_neg he];simp only[h0];cases r0 with
    |none=>rfl
    |some p=>rfl
  have hg:zV (e::es) y=if e.1=y then some e.2 else zV es y:=rfl
  cases hole with
  |none=>
   obtain⟨r0,h0,h1⟩:=wV hk y es none;refine⟨_,key (aSe wr V e.2) _ r0 h0,?_⟩;rw[hg];by_cases he:e.1=y
   ·rw[if_pos he,if_pos he];exact⟨0,by rw[if_neg (fun h=>by cases h)]⟩
   ·rw[if_neg he,if_neg he];cases hm:zV es y with
    |none=>rw[hm]at h1;simp only at h1;subst h1;rfl
    |some v=>rw[hm]at h1;obtain⟨j,rfl⟩:=h1;exact⟨j+1,rfl⟩
  |some z=>
   by_cases hz:e.1=z
   ·obtain⟨r0,h0,h1⟩:=wV hk y es none;refine⟨_,by unfold aB3;rw[if_pos hz];exact key (.v (bDq wr V e.2)) _ r0 h0,?_⟩;rw[hg];by_cases he:e.1=y
    ·rw[if_pos he,if_pos he];exact⟨0,by rw[if_pos (by rw[<-hz,he])]⟩
    ·rw[if_neg he,if_neg he];cases hm:zV es y with
     |none=>rw[hm]at h1;simp only at h1;subst h1;rfl
     |some v=>
      rw[hm]at h1;obtain⟨j,rfl⟩:=h1;exact⟨j+1,by rw[if_neg (fun h=>by cases h),if_neg (fun h=>he (by cases h;exact hz))]⟩
   ·obtain⟨r0,h0,h1⟩:=wV hk y es (some z);refine⟨_,by unfold aB3;rw[if_neg hz];exact key (aSe wr V e.2) _ r0 h0,?_⟩;rw[hg];by_cases he:e.1=y
    ·rw[if_pos he,if_pos he];exact⟨0,by rw[if_neg (fun h=>hz (by cases h;exact he))]⟩
    ·rw[if_neg he,if_neg he];cases hm:zV es y with
     |none=>rw[hm]at h1;simp only at h1;subst h1;rfl
     |some v=>rw[hm]at h1;obtain⟨j,rfl⟩:=h1;exact⟨j+1,rfl⟩
def zOk(V:Ty):AV->Bool
 |.agg cs=>!(kR V)&&zeq cs ((V.ds V.z).map .D)
 |a=>kR V&&zeq [a] [gF V V.z]
def kdB(a b:KD):Bool:=match a,b with
 |.i k,.i k'=>decide (k=k')
 |.s,.s=>true
 |.a l,.a l'=>decide (l=l')
 |_,_=>false
def aP0(K:Ty)(v:XV):Option K.T:=match v with
 |.d t x=>t.cst K x
 |.agg cs=>match kR K with
  |true=>none
  |false=>match pkD K cs with
   |some (x,[])=>some x
   |_=>none
 |_=>none
def bHg(s:XS)(kd:KD)(z:AV)(ok:Bool)(K:XV->Option R):XV->XV->Option R
 |.mref h,vy=>match s.lk h with
  |some (.mp false K0 V es _ _)=>match aB2 K0&&kdB K0.kd kd&&zOk V z,aP0 K0 vy with
   |true,some y=>match ok with
    |true=>K (.tup [bDx V ((zV es y).getD V.z),.d .b (zV es y).isSome])
    |false=>K (bDx V ((zV es y).getD V.z))
   |_,_=>none
  |_=>none
 |_,_=>none
def bHp(s:XS)(K:XV->Option R):XV->Option R
 |.itr h hi=>match s.lk h,s.lk hi with
  |some (.mp false K0 V es _ (some (hi',some cur,_))),some _=>match aB2 K0&&hi.eqb hi' with
   |true=>bd? (zV es cur) fun v=>K (.tup [aGf K0 cur,bDx V v])
   |false=>none
  |_,_=>none
 |_=>none
def bBq(neg:Bool)(K:XV->Option R):XV->Option R
 |.ptr _ _=>K (.d .b neg)
 |.c (.pointer none)=>K (.d .b (!neg))
 |_=>none
theorem aZd[YL]{neg:Bool}{K:XV->Option R}{r:R}(h:bBq neg K v=some r){KP:AV->Prop}(hK:∀v,K v=some r->KP v.er):match v.er with
  |.ptr _ _=>KP (.D (.B neg))
  |.D (.C (.pointer none))=>KP (.D (.B (!neg)))
  |_=>False:=by
 unfold bBq at h;split at h
 ·exact hK _ h
 ·exact hK _ h
 ·cases h
def aRg(k:IntKind):List XV->Option (List Int)
 |[]=>some []
 |.d (.i k') x::l=>match decide (k'=k),aRg k l with
  |true,some r=>some (x::r)
  |_,_=>none
 |_=>none
theorem aMq[YL]{k:IntKind}:∀{l:List XV} {xs:List Int},aRg k l=some xs->XV.fcL l=(xs.map (DV.I k)).map .D
 |[],xs,h=>by cases h;rfl
 |v::l,xs,h=>by
  unfold aRg at h;split at h
  ·rename_i e;cases e
  ·rename_i k' x l' e;cases e;split at h
   ·rename_i r h1 h2;cases h;have h1:=of_decide_eq_true h1;subst h1;show[AV.D (.I _ x)]++XV.fcL l=_;rw[aMq h2];rfl
   ·cases h
  ·cases h
def xzB(ty:Option Ty)(zs:List AV)(ps:List (Nat×Nat×Operand)):Option (List XV):=match ty,ps with
 |some (.ar _ _),_::_=>zX zs
 |_,_=>aRe ty zs
theorem bDs[YL]{ps:List (Nat×Nat×Operand)}(h:xzB ty zs ps=some l):XV.fcL l=zs:=by
 unfold xzB at h;split at h
 ·exact bBf h
 ·exact aL9 h
def bD4(ty:Option Ty)(K:XV->Option R)(l:List XV):Option R:=match ty with
 |some (.ar n k)=>match aRg k l with
  |some xs=>match au xs.length n with
   |true=>K (.d (.ar n k) (Arr.from xs n))
   |false=>K (.agg l)
  |none=>K (.agg l)
 |_=>K (.agg l)
theorem aYz[YL]{K:XV->Option R}{r:R}(h:bD4 ty K l=some r){KP:AV->Prop}(hK:∀v,K v=some r->KP v.er):KP (.agg (XV.fcL l)):=by
 unfold bD4 at h;split at h
 ·rename_i n k;split at h
  ·rename_i xs hx;split at h
   ·rename_i hb;have:=hK _ h;have e:(XV.d (.ar n k) (Arr.from xs n)).er=.agg (XV.fcL l):=by show AV.agg (((Arr.from xs n).l.map (DV.I k)).map .D)=_;rw[aMq hx,Arr.l_from (Nat.le_of_eq (η hb).symm),bf (Nat.le_of_eq (η hb))]
    rw[e]at this;exact this
   ·exact hK _ h
  ·exact hK _ h
 ·exact hK _ h
def xp(T:List Sig)(s:XS)(ty:Option Ty)(op:ROp)(K:XV->List XB->List Hd->Option R):Option R:=
 match op with
 |.mv x=>w1 s x fun v=>K v [] []
 |.pick c a b=>w1 s c fun vc=>w1 s a fun va=>w1 s b fun vb=>match vc with
  |.d .b x=>aTn x (fun v=>K v [] []) va vb
  |_=>none
 |.new zs=>match aRe ty zs with
  |some l=>K (.ptr (.O s.own.length) 0) [.box l] []
  |none=>none
 |.build zs ps=>match xzB ty zs ps with
  |some l=>aO1 s ps l fun l=>bD4 ty (fun v=>K v [] []) l
  |none=>none
 |.bslice k ps=>match ps with
  |[]=>K (.fln ((elT ty).getD .u)) [] []
  |ps=>match elT ty with
   |some t=>match au t.n k with
    |true=>wL s ps fun vs=>xbs s t vs fun xs=>K (.slw (.O s.own.length) t ps.length) [.row true t xs] (xfz s (XV.hrL vs))
    |false=>none
   |none=>none
 |.bsF k ps=>match ps with
  |[]=>K (.fln ((elT ty).getD .u)) [] []
  |ps=>match elT ty with
   |some t=>match au t.n k with
    |true=>wL s ps fun vs=>xbs ⟨s.env,[],[]⟩ t vs fun xs=>K (.fl t xs) [] []
    |false=>none
   |none=>none
 |.box x=>w1 s x fun v=>match oT v with
  |some cs=>K (.ptr (.O s.own.length) 0) [.box cs] []
  |none=>none
 |.load ag x=>w1 s x (aRa s ag fun a=>K a [] [])
 |.bin op x y=>w1 s x fun a=>w1 s y fun c=>bBw op (fun a=>K a [] []) a c
 |.eqs neg kds x y=>w1 s x fun a=>w1 s y fun c=>match a,c with
  |.agg xs,.agg ys=>match aMd kds xs ys with
   |some q=>K (.d .b (match neg with
    |true=>!q
    |false=>q)) [] []
   |none=>none
  |_,_=>none
 |.beq neg x y=>w1 s x fun a=>w1 s y fun c=>match a,c with
  |.d .b p,.d .b q=>K (.d .b (match neg with
   |true=>!(p==q)
   |false=>p==q)) [] []
  |_,_=>none
 |.un op x=>w1 s x (xun op fun a=>K a [] [])
 |.faddr off x=>w1 s x fun v=>match rH s v with
  |true=>aJ8 off (fun a=>K a [] []) v
  |false=>none
 |.field off ag x=>w1 s x fun v=>match v with
  |.agg cs=>aN4 ag cs off fun a=>K a [] []
  |_=>none
 |.iaddr k x i=>w1 s x fun v=>w1 s i fun vi=>match rH s v with
  |true=>match vi with
   |.d (.i _) j=>aEv k j (fun a=>K a [] []) v
   |_=>none
  |false=>none
 |.ixs x i=>w1 s x fun v=>w1 s i fun vi=>match v,vi with
  |.d .s t,.d (.i _) j=>bE t j fun c=>K (.d (.i .u8) c.toNat) [] []
  |_,_=>none
 |.sls x lo hi=>w1 s x fun v=>match v with
  |.d .s t=>mC s hi t.length fun h=>mC s lo 0 fun l=>gd? (l<=h) (gd? (h<=t.length) (K (.d .s ((t.drop l).take (h-l))) [] []))
  |_=>none
 |.sll k x lo hi mx=>w1 s x fun v=>match rH s v with
  |true=>aFq s k lo hi mx (fun a=>K a [] []) v
  |false=>none
 |.ext x i=>w1 s x fun v=>match v with
  |.tup vs=>match nth vs i with
   |some a=>K a [] []
   |none=>none
  |_=>none
 |.call f args=>w1 s f fun vf=>wL s args fun vs=>aWp T s vs K vf
 |.len str x=>w1 s x fun v=>match rH s v with
  |true=>match aU3 str v with
   |some m=>K (.d (.i .i64) (m:Int)) [] []
   |none=>none
  |false=>none
 |.mm isMax x y=>w1 s x fun a=>w1 s y fun c=>match a,c with
  |.d (.i k) p,.d (.i k') q=>if k=k' then K (.d (.i k) (match isMax with
   |true=>max p q
   |false=>min p q)) [] []else none
  |_,_=>none
 |.mkf f caps=>wL s caps fun vs=>K (.clo f vs) [] []
 |.cvI k x=>w1 s x fun v=>match v with
  |.d (.i _) j=>K (.d (.i k) (k.wrap j)) [] []
  |_=>none
 |.cvS x=>w1 s x fun v=>lR s (.sl (.i .u8)) v fun xs=>K (.d .s (bF xs)) [] []
 |.cvB x=>w1 s x fun v=>match v with
  |.d .s t=>K (.d (.sl (.i .u8)) (aG t)) [] []
  |_=>none
 |.iaddrA m k x i=>w1 s x fun v=>w1 s i fun vi=>match rH s v with
  |true=>match vi with
   |.d (.i _) j=>bDt m k j (fun a=>K a [] []) v
   |_=>none
  |false=>none
 |.idxA m k ag x i=>w1 s x fun v=>w1 s i fun vi=>match vi with
  |.d (.i _) j=>bBu m k ag j (fun a=>K a [] []) (unA v)
  |_=>none
 |.slsA m x lo hi=>w1 s x fun v=>bFh s m lo hi (fun a=>K a [] []) v
 |.newR zs=>match ty with
  |some t=>bAv zs (fun v b=>K v [b] []) s.own.length t
  |none=>none
 |.boxR x=>w1 s x fun v=>bA8 ty (fun v b=>K v [b] []) s.own.length v
 |.eqa neg k m x y=>w1 s x fun a=>w1 s y fun c=>bBm k m (fun q=>K (.d (.b) (match neg with
  |true=>!q
  |false=>q)) [] []) (unA a) (unA c)
 |.isnil neg x=>w1 s x fun v=>match rH s v with
  |true=>match aU3 false v with
   |some m=>if? (decide (0<m)) (K (.d .b neg) [] []) (K .ab [] [])
   |none=>none
  |false=>none
 |.nilc x=>w1 s x fun v=>match rH s v with
  |true=>aPr (fun a=>K a [] []) v
  |false=>none
 |.isp neg x=>w1 s x fun v=>match rH s v with
  |true=>bBq neg (fun a=>K a [] []) v
  |false=>none
 |.eqg neg sh x y=>w1 s x fun a=>w1 s y fun c=>match a,c with
  |.agg xs,.agg ys=>match aLa sh xs ys with
   |some q=>K (.d .b (match neg with
    |true=>!q
    |false=>q)) [] []
   |none=>none
  |_,_=>none
 |.newB T=>K (.mref (.O s.own.length)) [.sb T false []] []
 |.mkm kd=>none
 |.mkmW kd=>none
 |.mget kd z _ ok x y=>none
 |.mlen x=>none
 |.ent x=>none
 |.loadD ag x=>w1 s x fun v=>match v with
  |.rop t x off=>bB8 ag off (fun a=>K a [] []) t x
  |_=>none
 |.sllD k x lo hi mx=>w1 s x fun v=>match v with
  |.d (.sl t) xs=>aFq s k lo hi mx (fun a=>K a [] []) (.d (.sl t) xs)
  |.fl t xs=>aFq s k lo hi mx (fun a=>K a [] []) (.fl t xs)
  |_=>none
 |.iaddrD k x i=>w1 s x fun v=>w1 s i fun vi=>match vi,v with
  |.d (.i _) j,.d (.sl t) xs=>aEv k j (fun a=>K a [] []) (.d (.sl t) xs)
  |.d (.i _) j,.fl t xs=>aEv k j (fun a=>K a [] []) (.fl t xs)
  |_,_=>none
 |.mks k bytes zs x y=>w1 s x fun vx=>w1 s y fun vy=>match elT ty with
  |some t=>bCu t k bytes zs (fun v b=>K v [b] []) s.own.length vx vy
  |none=>none
 |.arrP m x=>w1 s x fun v=>match v with
  |.asl h off len=>match s.lk h with
   |some (.arr _ _ _ _)=>gd? (m<=len) (gd? (0<len) (K (.apt h off) [] []))
   |_=>none
  |.rsl h off l len=>match s.lk h with
   |some (.rb _ _ _)=>gd? (m<=len) (gd? (0<len) (K (.rpt h (off+l)) [] []))
   |_=>none
  |_=>none
 |.capK x=>w1 s x fun v=>match v with
  |.fl _ xs=>K (.d (.i .i64) (xs.length:Int)) [] []
  |.fln _=>K (.d (.i .i64) 0) [] []
  |_=>none
 |.appZ k bytes zs x y=>w1 s x fun vx=>w1 s y fun vy=>match vx,vy,elT ty with
  |.fln _,.d (.i _) j,some t=>match au t.n k,zeq (zs.map .D) ((t.ds t.z).map .D)with
   |true,true=>gd? (0<j) (gd? ((0+j.toNat)*bytes<=140737488355328) (K (.slw (.O s.own.length) t j.toNat) [.row true t (bn j.toNat t.z)] []))
   |_,_=>none
  |_,_,_=>none
 |.mkI t x=>w1 s x fun v=>match v with
  |.agg []=>K (.c (.iface t (.agg #[]))) [] []
  |_=>none
 |.isn neg x=>w1 s x fun v=>match v with
  |.c .nilIface=>K (.d .b (!neg)) [] []
  |.c (.iface _ _)=>K (.d .b neg) [] []
  |_=>none
 |.tas t x=>w1 s x fun v=>match v with
  |.c (.iface t' (.agg a))=>match au t' t,a.isEmpty with
   |true,true=>K (.tup [.agg [],.d .b true]) [] []
   |_,_=>none
  |_=>none
 |_=>none
theorem aS6{lk:aV}{KP:AV->Prop}(h:lG lk ag KP (.rop ds)):lG (fun _=>none) ag KP (.rop ds):=h
theorem bEi[YL]{T:List Sig}(hT:gJ P T){op:ROp}{K:XV->List XB->List Hd->Option R}{r:R}(h:xp T s ty op K=some r){KP:AV->List Blk->List Hd->Prop}
  (hK:∀v nbs fz,K v nbs fz=some r->KP v.er (nbs.map XB.er) fz):aO P s.er.lk s.er.nx s.er.ev op KP:=by
 unfold xp at h;split at h
 ·obtain⟨h,e⟩:=aM h;show KP (s.er.ev _) [] [];rw[e];exact hK _ _ _ h
 ·obtain⟨h,e1⟩:=aM h;obtain⟨h,e2⟩:=aM h;obtain⟨h,e3⟩:=aM h;split at h
  ·rename_i x hx;refine⟨x,by rw[e1,hx];rfl,?_⟩;rw[e2,e3];exact aTd (KP:=fun a=>KP a [] []) h fun v h=>hK _ _ _ h
  ·cases h
 ·split at h
  ·rename_i l hl;have:=hK _ _ _ h;show KP (.ptr (.O s.own.length) 0) [.box _] [];rw[<-aL9 hl];exact this
  ·cases h
 ·split at h
  ·rename_i l hl;have e:=bDs hl;exact aH4 (KP:=fun a=>KP a [] []) (fun l h=>aYz (KP:=fun a=>KP a [] []) h fun v h=>hK v [] [] h) (acc:=[]) e (by rw[e]) h
  ·cases h
 ·rename_i k ps;split at h
  ·exact hK _ _ _ h
  ·rename_i ps' hne;split at h
   ·rename_i t _;split at h
    ·rename_i hb;have hk:=η hb;obtain⟨vs,h,e⟩:=aBq h;obtain⟨xs,h,h1,h2⟩:=aOz hk e h;show if ps=[]then _ else _
     rw[if_neg hne];refine⟨_,h1,?_⟩;rw[h2,mZ];have:=hK _ _ _ h;have e2:([XB.row true t xs].map XB.er)=[Blk.row true k (xs.map t.ds)]:=by show[Blk.row true t.n (xs.map t.ds)]=_;rw[hk]
     have e3:(XV.slw (.O s.own.length) t ps.length).er=.sl (.O s.own.length) k 0 ps.length:=by show AV.sl (.O s.own.length) t.n 0 ps.length=_;rw[hk]
     rw[e2,e3]at this;exact this
    ·cases h
   ·cases h
 ·rename_i k ps;split at h
  ·exact .inl ⟨rfl,hK _ _ _ h⟩
  ·rename_i ps' hne;split at h
   ·rename_i t _;split at h
    ·rename_i hb;have hk:=η hb;obtain⟨vs,h,e⟩:=aBq h;have e':ps.map (XS.er ⟨s.env,[],[]⟩).ev=XV.erL vs:=by rw[<-e];apply List.map_congr_left;intro x _;cases x<;>rfl
     obtain⟨xs,h,h1,_⟩:=aOz hk e' h;refine .inr ⟨hne,xs.map t.ds,?_,hK _ _ _ h⟩;have e1:(XS.er ⟨s.env,[],[]⟩).lk=fun _=>none:=by funext x;cases x<;>rfl
     have e2:(XS.er ⟨s.env,[],[]⟩).ev=s.er.ev:=by funext x;cases x<;>rfl
     rw[e1,e2]at h1;exact h1
    ·cases h
   ·cases h
 ·obtain⟨h,e1⟩:=aM h;split at h
  ·rename_i cs hcs;exact⟨_,by rw[e1];exact kT hcs,hK _ _ _ h⟩
  ·cases h
 ·obtain⟨h,e1⟩:=aM h;show lG s.er.lk _ (fun a=>KP a [] []) (s.er.ev _);rw[e1];exact aEm h fun v h=>hK _ _ _ h
 ·obtain⟨h,e1⟩:=aM h;obtain⟨h,e2⟩:=aM h;show aRs _ (fun a=>KP a [] []) (s.er.ev _) (s.er.ev _);rw[e1,e2];exact aY6 h fun v h=>hK _ _ _ h
 ·obtain⟨h,e1⟩:=aM h;obtain⟨h,e2⟩:=aM h;split at h
  ·rename_i xs ys hx hy;split at h
   ·rename_i q hq;refine⟨XV.fcL xs,XV.fcL ys,q,by rw[e1,hx];rfl,by rw[e2,hy];rfl,aMe hq,?_⟩;have:=hK _ _ _ h;split at this<;>exact this
   ·cases h
  ·cases h
 ·obtain⟨h,e1⟩:=aM h;obtain⟨h,e2⟩:=aM h;split at h
  ·rename_i p q hx hy;refine⟨p,q,by rw[e1,hx];rfl,by rw[e2,hy];rfl,?_⟩;have:=hK _ _ _ h;split at this<;>exact this
  ·cases h
 ·obtain⟨h,e1⟩:=aM h;show aun _ (fun a=>KP a [] []) (s.er.ev _);rw[e1];exact bCp h fun v h=>hK _ _ _ h
 ·obtain⟨h,e1⟩:=aM h;split at h
  ·rename_i hl;show AV.live s.er.lk (s.er.ev _)=true/\_;rw[e1];exact⟨gC hl,aHp h (KP:=fun a=>KP a [] []) fun v h=>hK _ _ _ h⟩
  ·cases h
 ·obtain⟨h,e1⟩:=aM h;split at h
  ·rename_i cs hx;refine⟨XV.fcL cs,by rw[e1,hx];rfl,?_⟩;obtain⟨v,h1,h2⟩:=zC h;split
   ·exact⟨_,h2,hK _ _ _ h1⟩
   ·exact⟨h2.1,by rw[<-h2.2];exact hK _ _ _ h1⟩
  ·cases h
 ·obtain⟨h,e1⟩:=aM h;obtain⟨h,e2⟩:=aM h;split at h
  ·rename_i hl;split at h
   ·rename_i k j hj;obtain⟨h1,h2⟩:=aA6 h (KP:=fun a=>KP a [] []) fun v h=>hK _ _ _ h;show AV.live s.er.lk (s.er.ev _)=true/\_;rw[e1];exact⟨gC hl,k,j,by rw[e2,hj];rfl,h1,h2⟩
   ·cases h
  ·cases h
 ·obtain⟨h,e1⟩:=aM h;obtain⟨h,e2⟩:=aM h;split at h
  ·rename_i t k j hx hj;obtain⟨c,h0,hc,h⟩:=aMi h;exact⟨t,k,j,c,by rw[e1,hx];rfl,by rw[e2,hj];rfl,h0,hc,hK _ _ _ h⟩
  ·cases h
 ·obtain⟨h,e1⟩:=aM h;split at h
  ·rename_i t hx;refine⟨t,by rw[e1,hx];rfl,cH h fun hh h=>cH h fun l h=>?_⟩;obtain⟨h1,h⟩:=aQ h;obtain⟨h2,h⟩:=aQ h;exact⟨h1,h2,hK _ _ _ h⟩
  ·cases h
 ·obtain⟨h,e1⟩:=aM h;split at h
  ·rename_i hl;show AV.live s.er.lk (s.er.ev _)=true/\nG _ s.er.ev _ _ _ (fun a=>KP a [] []) (s.er.ev _);rw[e1];exact⟨gC hl,aAx h fun v h=>hK _ _ _ h⟩
  ·cases h
 ·obtain⟨h,e1⟩:=aM h;split at h
  ·rename_i vs hx;split at h
   ·rename_i a ha;exact⟨XV.erL vs,_,by rw[e1,hx];rfl,aVc ha,hK _ _ _ h⟩
   ·cases h
  ·cases h
 ·obtain⟨h,e1⟩:=aM h;obtain⟨vs,h,e2⟩:=aBq h;obtain⟨fn,caps,ks,z,rr,nbs,f1,fz,f2,f3⟩:=aT3 hT h hK;exact⟨fn,caps,ks,z,rr,nbs,by rw[e1];exact f1,fz,by rw[e2];exact f2,by rw[e2];exact f3⟩
 ·obtain⟨h,e1⟩:=aM h;split at h
  ·rename_i hl;split at h
   ·rename_i m hm;show AV.live s.er.lk (s.er.ev _)=true/\∃m,(s.er.ev _).len? _=some m/\_;rw[e1];exact⟨gC hl,m,aI5 hm,hK _ _ _ h⟩
   ·cases h
  ·cases h
 ·obtain⟨h,e1⟩:=aM h;obtain⟨h,e2⟩:=aM h;split at h
  ·rename_i k p k' q hx hy;rw[δ]at h;obtain⟨rfl,h⟩:=h;refine⟨k,p,q,by rw[e1,hx];rfl,by rw[e2,hy];rfl,?_⟩;have:=hK _ _ _ h;split at this<;>exact this
  ·cases h
 ·obtain⟨vs,h,e⟩:=aBq h;show KP (.clo _ (_:List AV)) [] [];rw[e];exact hK _ _ _ h
 ·obtain⟨h,e1⟩:=aM h;split at h
  ·rename_i k j hx;exact⟨k,j,by rw[e1,hx];rfl,hK _ _ _ h⟩
  ·cases h
 ·obtain⟨h,e1⟩:=aM h;obtain⟨xs,h,h1,h2⟩:=aBb h;refine⟨_,bF xs,by rw[e1];exact h1,?_,by rw[e1];exact h2,hK _ _ _ h⟩;exact aBk
 ·obtain⟨h,e1⟩:=aM h;split at h
  ·rename_i t hx;refine⟨t,by rw[e1,hx];rfl,?_⟩;have:=hK _ _ _ h;simp only[XV.er,gF,aG,e7]at this;exact this
  ·cases h
 ·obtain⟨h,e1⟩:=aM h;obtain⟨h,e2⟩:=aM h;split at h
  ·rename_i hl;split at h
   ·rename_i k j hj;obtain⟨h1,h2,h3⟩:=aYx h (KP:=fun a=>KP a [] []) fun v h=>hK _ _ _ h;show AV.live s.er.lk (s.er.ev _)=true/\_;rw[e1];exact⟨gC hl,k,j,by rw[e2,hj];rfl,h1,h2,h3⟩
   ·cases h
  ·cases h
 ·obtain⟨h,e1⟩:=aM h;obtain⟨h,e2⟩:=aM h;split at h
  ·rename_i k j hj;obtain⟨cs,h1,h2,h3,h4⟩:=aYp h (KP:=fun a=>KP a [] []) fun v h=>hK _ _ _ h;exact⟨cs,k,j,by rw[e1,<-aJ6,h1],by rw[e2,hj];rfl,h2,h3,h4⟩
  ·cases h
 ·obtain⟨h,e1⟩:=aM h;unfold bFh at h;split at h
  ·rename_i hd ix hx;split at h
   ·rename_i mt n kk y hl;split at h
    ·rename_i hb;have hb:=eo hb;refine⟨hd,ix,mt,y.l.map (arD kk),by rw[e1,hx];rfl,by rw[aN,hl];rfl,by rw[θ,y.len];exact hb,?_⟩;refine cH h fun hh h=>cH h fun l h=>?_;obtain⟨h1,h⟩:=aQ h;obtain⟨h2,h⟩:=aQ h;have:=hK _ _ _ h;rw[oW,cu]at this;exact⟨h1,h2,this⟩
    ·cases h
   ·cases h
  ·rename_i hd off hx;split at h
   ·rename_i mt t x hl;split at h
    ·rename_i a ha;split at h
     ·rename_i hb;have hb:=η hb;subst hb;obtain⟨c1,_⟩:=aC3 (l:=0) (len:=a.n) ha (by omega);refine⟨hd,off,mt,sgD (t.ds x),by rw[e1,hx];rfl,by rw[aN,hl];rfl,c1,?_⟩;refine cH h fun hh h=>cH h fun l h=>?_;obtain⟨h1,h⟩:=aQ h;obtain⟨h2,h⟩:=aQ h;exact⟨h1,h2,hK _ _ _ h⟩
     ·cases h
    ·cases h
   ·cases h
  ·cases h
 ·split at h
  ·rename_i t;unfold bAv at h;split at h
   ·rename_i n k;split at h
    ·rename_i hz;refine⟨bn n (DV.I k 0),by rw[bA6 hz];exact zR _,?_⟩;have:=hK _ _ _ h;have e:(bn n (DV.I k 0)).map (fun d=>[d])=(Arr.zero n).l.map (arD k):=by show _=(bn n (0:Int)).map (arD k);rw[fh,fh];rfl
     rw[e];exact this
    ·cases h
   ·split at h
    ·rename_i hz;exact⟨_,by rw[aF7 hz];exact zR _,hK _ _ _ h⟩
    ·cases h
  ·cases h
 ·obtain⟨h,e1⟩:=aM h;unfold bA8 at h;split at h
  ·rename_i n k y hx;refine⟨(y.l.map (DV.I k)).map .D,y.l.map (DV.I k),?_,zR _,?_⟩
   ·rw[e1,hx];show(if AV.allOne (((Ty.ar n k).ds y).map AV.D)=true then some (((Ty.ar n k).ds y).map AV.D)else none)=some (((Ty.ar n k).ds y).map AV.D);rw[if_pos (pF _ _)]
   have:=hK _ _ _ h;have e:(y.l.map (DV.I k)).map (fun d=>[d])=y.l.map (arD k):=by rw[e7];rfl
   rw[e];exact this
  ·rename_i cs hx;split at h
   ·rename_i t _;split at h
    ·rename_i x hp;obtain⟨l1,e2,e3⟩:=oY hp;rw[υ]at e2;subst e2;refine⟨(t.ds x).map .D,t.ds x,?_,zR _,hK _ _ _ h⟩;rw[e1,hx];show(if AV.allOne (XV.fcL cs)=true then some (XV.fcL cs)else none)=_;rw[e3,if_pos (pF _ _)]
    ·cases h
   ·cases h
  ·cases h
 ·obtain⟨h,e1⟩:=aM h;obtain⟨h,e2⟩:=aM h;obtain⟨xs,ys,p,q,h1,h2,h3,h4,h5,h6,h⟩:=aYw h;refine⟨xs,ys,p,q,by rw[e1,<-aJ6,h1],by rw[e2,<-aJ6,h2],h3,h4,h5,h6,?_⟩;have:=hK _ _ _ h;split at this<;>exact this
 ·obtain⟨h,e1⟩:=aM h;split at h
  ·rename_i hl;split at h
   ·rename_i m hm;show AV.live s.er.lk (s.er.ev _)=true/\∃m,(s.er.ev _).len? false=some m/\_;rw[e1];refine⟨gC hl,m,aI5 hm,?_⟩;rcases aJu h with⟨h0,h⟩|⟨h0,h⟩
    ·rw[if_neg (by have:=of_decide_eq_true h0;omega)];exact hK _ _ _ h
    ·rw[if_pos (by have:=of_decide_eq_false h0;omega)];exact hK _ _ _ h
   ·cases h
  ·cases h
 ·obtain⟨h,e1⟩:=aM h;split at h
  ·rename_i hl;show AV.live s.er.lk (s.er.ev _)=true/\_;rw[e1];exact⟨gC hl,aMb h (KP:=fun a=>KP a [] []) fun v h=>hK _ _ _ h⟩
  ·cases h
 ·obtain⟨h,e1⟩:=aM h;split at h
  ·rename_i hl;show AV.live s.er.lk (s.er.ev _)=true/\_;rw[e1];exact⟨gC hl,aZd h (KP:=fun a=>KP a [] []) fun v h=>hK _ _ _ h⟩
  ·cases h
 ·obtain⟨h,e1⟩:=aM h;obtain⟨h,e2⟩:=aM h;split at h
  ·rename_i xs ys hx hy;split at h
   ·rename_i q hq;refine⟨XV.fcL xs,XV.fcL ys,q,by rw[e1,hx];rfl,by rw[e2,hy];rfl,aJg hq,?_⟩;have:=hK _ _ _ h;split at this<;>exact this
   ·cases h
  ·cases h
 ·exact hK _ _ _ h
 ·cases h
 ·cases h
 ·cases h
 ·cases h
 ·cases h
 ·obtain⟨h,e1⟩:=aM h;split at h
  ·rename_i t x off hx;show lG (fun _=>none) _ (fun a=>KP a [] []) (s.er.ev _);rw[e1,hx];exact aS6 (aEm (s:=s) (a:=.rop t x off) h (KP:=fun a=>KP a [] []) fun v h=>hK _ _ _ h)
  ·cases h
 ·obtain⟨h,e1⟩:=aM h;show(match s.er.ev _ with
   |.D (.L es)=>nG _ s.er.ev _ _ _ (fun a=>KP a [] []) (.D (.L es))
   |.fl es=>nG _ s.er.ev _ _ _ (fun a=>KP a [] []) (.fl es)
   |_=>False)
  rw[e1];split at h
  ·rename_i t xs hx;rw[hx];exact aAx (v:=.d (.sl t) xs) h fun v h=>hK _ _ _ h
  ·rename_i t xs hx;rw[hx];exact aAx (v:=.fl t xs) h fun v h=>hK _ _ _ h
  ·cases h
 ·obtain⟨h,e1⟩:=aM h;obtain⟨h,e2⟩:=aM h;split at h
  ·rename_i k j t xs hj hx;obtain⟨h1,h2⟩:=aA6 h (KP:=fun a=>KP a [] []) fun v h=>hK _ _ _ h;exact⟨k,j,by rw[e2,hj];rfl,h1,by rw[e1,hx];exact h2⟩
  ·rename_i k j t xs hj hx;obtain⟨h1,h2⟩:=aA6 h (KP:=fun a=>KP a [] []) fun v h=>hK _ _ _ h;exact⟨k,j,by rw[e2,hj];rfl,h1,by rw[e1,hx];exact h2⟩
  ·cases h
 ·obtain⟨h,e1⟩:=aM h;obtain⟨h,e2⟩:=aM h;split at h
  ·rename_i t _;obtain⟨k1,k2,l,c,v,b,h1,h2,h3,h4,h5,h6,h7,h8,h9⟩:=aX1 h;refine⟨k1,k2,l,c,by rw[e1,h1],by rw[e2,h2],h3,h4,h5,h6,?_⟩;have:=hK _ _ _ h7;rw[h8]at this;rw[<-h9];exact this
  ·cases h
 ·obtain⟨h,e1⟩:=aM h;split at h
  ·rename_i hd off len hv;split at h
   ·rename_i mt n k x hl;obtain⟨h1,h⟩:=aQ h;obtain⟨h2,h⟩:=aQ h;exact⟨hd,off,len,mt,x.l.map (arD k),by rw[e1,hv];rfl,by rw[aN,hl];rfl,h1,h2,hK _ _ _ h⟩
   ·cases h
  ·rename_i hd off l len hv;split at h
   ·rename_i mt t x hl;obtain⟨h1,h⟩:=aQ h;obtain⟨h2,h⟩:=aQ h;exact⟨hd,off+l,len,mt,sgD (t.ds x),by rw[e1,hv];rfl,by rw[aN,hl];rfl,h1,h2,hK _ _ _ h⟩
   ·cases h
  ·cases h
 ·obtain⟨h,e1⟩:=aM h;split at h
  ·rename_i t xs hv;refine⟨by rw[e1,hv];rfl,xs.length,.inr ⟨xs.map t.ds,by rw[e1,hv];rfl,(θ _).symm⟩,hK _ _ _ h⟩
  ·rename_i t hv;refine⟨by rw[e1,hv];rfl,0,.inr ⟨[],by rw[e1,hv];rfl,rfl⟩,hK _ _ _ h⟩
  ·cases h
 ·obtain⟨h,e1⟩:=aM h;obtain⟨h,e2⟩:=aM h;split at h
  ·rename_i t0 kd j t hv hw ht;split at h
   ·rename_i hb hz;have hb:=η hb;obtain⟨h1,h⟩:=aQ h;obtain⟨h2,h⟩:=aQ h;have h1:(0:Int)<j:=h1;have hz:=kM (aF7 hz);have hq:=hK _ _ _ h;subst hb hz;have h1':(0:Int)<=j:=Int.le_of_lt h1;have h1'':0<0+Int.toNat j:=by omega
    refine⟨by rw[e1,hv];rfl,0,0,kd,j,[],.inr ⟨by rw[e1,hv];rfl,rfl,rfl,rfl⟩,by rw[e2,hw];rfl,h1',ω _,fun e he=>(by simp at he),h1'',h2,?_⟩;have e3:(XV.slw (.O s.own.length) t (Int.toNat j)).er=.sl (.O s.own.length) t.n 0 (0+Int.toNat j):=by show AV.sl _ t.n 0 _=_;rw[az]
    have e4:([XB.row true t (bn (Int.toNat j) t.z)].map XB.er:List Blk)=[.row true t.n (([]:List (List DV)).take 0++bn (Int.toNat j) (t.ds t.z))]:=by show[Blk.row true t.n ((bn _ t.z).map t.ds)]=_;rw[fh];rfl
    rw[e3,e4]at hq;exact hq
   ·cases h
  ·cases h
 ·obtain⟨h,e1⟩:=aM h;split at h
  ·rename_i hv;exact⟨by rw[e1,hv];rfl,hK _ _ _ h⟩
  ·cases h
 ·obtain⟨h,e1⟩:=aM h;split at h
  ·rename_i hv;exact⟨_,by rw[e1,hv];rfl,hK _ _ _ h⟩
  ·rename_i hv;exact⟨_,by rw[e1,hv];rfl,hK _ _ _ h⟩
  ·cases h
 ·obtain⟨h,e1⟩:=aM h;split at h
  ·rename_i t' a hv;split at h
   ·rename_i ht ha;refine⟨?_,hK _ _ _ h⟩;rw[e1,hv,η ht,Array.isEmpty_iff.1 ha];rfl
   ·cases h
  ·cases h
 ·cases h
end
section
variable{R:Type}
def aX7(s:XS)(sz:Nat)(v:XV)(K:XS->Option R)(h:Hd)(off:Nat):Option R:=match s.lk h with
 |some (.box cs)=>match oT v with
  |some ys=>match au (szL ys) sz with
   |true=>match aIm cs off ys sz with
    |some cs'=>K (s.setBlk h (some (.box cs')))
    |none=>none
   |false=>none
  |none=>none
 |_=>none
def aTw(k:IntKind):XV->Option Int
 |.d t c=>t.cst (.i k) c
 |_=>none
theorem aKk[YL]{k:IntKind}{c:Int}(h:aTw k v=some c):v.er=.D (.I k c):=by
 unfold aTw at h;split at h
 ·obtain⟨e,rfl⟩:=Ty.cst_ok h;subst e;rfl
 ·cases h
theorem aKf{l:List α}{i:Nat}{v:α}(h:i<l.length):l.take i++[v]++l.drop (i+1)=l.set i v:=by rw[List.set_eq_take_append_cons_drop,if_pos h,π];rfl
theorem aUu{l:List α}{j:Nat}{v:α}(h:off+n<=l.length)(hj:j<n):l.take off++((l.drop off).take n).set j v++l.drop (off+n)=l.set (off+j) v:=by
 apply List.ext_getElem?;intro i;rw[List.getElem?_set];have hl:(((l.drop off).take n).set j v).length=n:=by rw[List.length_set,cp,aw];omega
 have ht:(l.take off).length=off:=by rw[cp];omega
 rcases db i off with h1|h1
 ·rw[π,bg (by omega),dg h1,if_neg (by omega)]
 ·rcases db i (off+n)with h2|h2
  ·rw[bg (by rw[κ];omega),bw (by omega),ht,List.getElem?_set];by_cases e:off+j=i
   ·subst e;rw[if_pos (by omega),if_pos rfl,if_pos (by rw[cp,aw];omega),if_pos (by omega)]
   ·rw[if_neg (by omega),if_neg e,dg (by omega),dm];congr 1;omega
  ·rw[bw (by rw[κ];omega),κ,ht,hl,dm,if_neg (by omega)];congr 1;omega
def aQw(cs:List XV)(off j:Nat)(a:ArL)(c:Int):Option (List XV):=aIm cs off [.d (.ar a.n a.k) (a.x.set j c)] a.n
theorem aDh[YL]{cs:List XV}{j:Nat}{a:ArL}{c:Int}(ha:wB cs off=some a)(hj:j<a.n)(h:aQw cs off j a c=some l):off+j<(XV.fcL cs).length/\XV.fcL l=(XV.fcL cs).set (off+j) (.D (.I a.k c)):=by
 obtain⟨h1,h2⟩:=xY ha;obtain⟨_,h3⟩:=qT h;refine⟨by omega,?_⟩;rw[h3];have e:XV.fcL [XV.d (.ar a.n a.k) (a.x.set j c)]=(((XV.fcL cs).drop off).take a.n).set j (.D (.I a.k c)):=by rw[h1];show(((a.x.set j c).l.map (DV.I a.k)).map AV.D)++[]=_;rw[υ,Arr.l_set,gk,gk]
 rw[e];exact aUu h2 hj
def aOk(s:XS)(sz:Nat)(v:XV)(K:XS->Option R):XV->Option R
 |.ptr h off=>aX7 s sz v K h off
 |.pa h off j=>match s.lk h with
  |some (.box cs)=>match wB cs off,sz with
   |some a,1=>match aTw a.k v with
    |some c=>gd? (j<a.n) (match aQw cs off j a c with
     |some cs'=>K (s.setBlk h (some (.box cs')))
     |none=>none)
    |none=>none
   |none,sz=>aX7 s sz v K h (off+j)
   |_,_=>none
  |_=>none
 |.epa h t ix off j=>match s.lk h with
  |some (.row true t' xs)=>match t'.beq t,sz with
   |true,1=>gn? xs ix fun e=>match wB (lvs t' e) off with
    |some a=>match aTw a.k v with
     |some c=>gd? (j<a.n) (match aQw (lvs t' e) off j a c with
      |some l=>match pkD t' l with
       |some (y,[])=>K (s.setBlk h (some (.row true t' (xs.set ix y))))
       |_=>none
      |none=>none)
     |none=>none
    |none=>none
   |_,_=>none
  |_=>none
 |.ept h t ix off=>match s.lk h with
  |some (.row true t' xs)=>match t'.beq t,oT v with
   |true,some ys=>match au (szL ys) sz,(au sz 1|| !(au t'.n 1))with
    |true,true=>gn? xs ix fun e=>match aIm (lvs t' e) off ys sz with
     |some l=>match pkD t' l with
      |some (y,[])=>K (s.setBlk h (some (.row true t' (xs.set ix y))))
      |_=>none
     |none=>none
    |_,_=>none
   |_,_=>none
  |_=>none
 |.apt h ix=>match s.lk h with
  |some (.arr true n k x)=>match sz with
   |1=>match v with
    |.d t c=>match t.cst (.i k) c with
     |some c=>gd? (ix<n) (K (s.setBlk h (some (.arr true n k (x.set ix c)))))
     |none=>none
    |_=>none
   |sz=>match ix,v with
    |0,.d t y=>match t.cst (.ar n k) y,au sz n with
     |some y,true=>K (s.setBlk h (some (.arr true n k y)))
     |_,_=>none
    |0,.agg [.d t y]=>match t.cst (.ar n k) y,au sz n with
     |some y,true=>K (s.setBlk h (some (.arr true n k y)))
     |_,_=>none
    |ix,v=>match unA v with
     |.d t y=>match t.cst (.ar sz k) y with
      |some y=>gd? (ix+sz<=n) (K (s.setBlk h (some (.arr true n k (x.put ix y.l)))))
      |none=>none
     |_=>none
  |_=>none
 |.rpt h off=>match s.lk h with
  |some (.rb true t x)=>match oT v with
   |some ys=>match au (szL ys) sz&&j9 1 sz with
    |true=>match aIm (lvs t x) off ys sz with
     |some l=>match pkD t l with
      |some (y,[])=>K (s.setBlk h (some (.rb true t y)))
      |_=>none
     |none=>none
    |false=>none
   |none=>none
  |_=>none
 |.rpa h off j=>match s.lk h with
  |some (.rb true t x)=>match wB (lvs t x) off,sz with
   |some a,1=>match aTw a.k v with
    |some c=>gd? (j<a.n) (match aQw (lvs t x) off j a c with
     |some l=>match pkD t l with
      |some (y,[])=>K (s.setBlk h (some (.rb true t y)))
      |_=>none
     |none=>none)
    |none=>none
   |_,_=>none
  |_=>none
 |_=>none
theorem bGh[YL]{x y:t.T}{vs:List DV}{a:AV}(hl:s.lk hd=some (.rb true t x))(hc:a.cells?=some (vs.map .D))(hn:vs.length=sz)(hle:off+sz<=(t.ds x).length)
  (hlt:off<(t.ds x).length) (hds:t.ds y=(t.ds x).take off++vs++(t.ds x).drop (off+sz)) (hK:KP (s.setBlk hd (some (.rb true t y))).er):lN s.er sz a KP (.eptr hd 1 off 0):=by
 rw[bL hl]at hK;have hK:KP (s.er.setBlk hd (some (.row true 1 (sgD (t.ds y))))):=hK;rw[hds]at hK;by_cases h1:sz=1
 ·subst h1;obtain⟨d,rfl⟩:=List.length_eq_one_iff.1 hn;refine .inl ⟨.inr rfl,sgD (t.ds x),[(t.ds x)[off]],_,[d],by rw[aN,hl];rfl,aC2 (μ hlt),hc,rfl,rfl,ω _,?_⟩;have e:(sgD (t.ds x)).set off ([(t.ds x)[off]].take 0++[d]++[(t.ds x)[off]].drop (0+1))=sgD ((t.ds x).take off++[d]++(t.ds x).drop (off+1)):=by rw[aKf hlt];unfold sgD;rw[gk];rfl
  rw[e];exact hK
 ·refine .inr ⟨rfl,rfl,h1,sgD (t.ds x),_,vs,by rw[aN,hl];rfl,hc,rR _,hn,by rw[uL];exact hle,?_⟩;have e:(sgD (t.ds x)).take off++(vs.map fun d=>[d])++(sgD (t.ds x)).drop (off+sz)=sgD ((t.ds x).take off++vs++(t.ds x).drop (off+sz)):=by unfold sgD;rw[bo,bo,bp,bz]
  rw[e];exact hK
theorem xA{k:IntKind}{y:Arr n}:(AV.agg (((Ty.ar n k).ds y).map .D)).cells?=some (((Ty.ar n k).ds y).map .D):=by show(if AV.allOne (((Ty.ar n k).ds y).map .D)=true then some (((Ty.ar n k).ds y).map AV.D)else none)=_;rw[if_pos (pF _ _)]
theorem aE3[YL]{k:IntKind}{x y:Arr n}(hl:s.lk hd=some (.arr true n k x))(h1:sz≠1)(hb:sz=n)(hc:(s.er.ev xo).cells?=some (((Ty.ar n k).ds y).map .D))
  (hK:KP (s.setBlk hd (some (.arr true n k y))).er):lN s.er sz (s.er.ev xo) KP (.eptr hd 1 0 0):=by
 have e1:=x.len;have e2:=y.len;refine .inr ⟨rfl,rfl,h1,x.l.map (arD k),_,(Ty.ar n k).ds y,by rw[aN,hl];rfl,hc,rR _,by rw[Ty.ds_len];exact hb.symm,by rw[θ];omega,?_⟩;have e:(x.l.map (arD k)).take 0++(((Ty.ar n k).ds y).map fun d=>[d])++(x.l.map (arD k)).drop (0+sz)=y.l.map (arD k):=by rw[List.take_zero,cn,ez (by rw[θ];omega),υ];show((y.l.map (DV.I k)).map fun d=>[d])=_;rw[e7];rfl
 rw[e];rw[bL hl]at hK;exact hK
theorem aQd[YL]{K:XS->Option R}{r:R}(hv:s.er.ev xo=v.er)(h:aX7 s sz v K hd off=some r)(hK:∀s',K s'=some r->KP s'.er):lN s.er sz (s.er.ev xo) KP (.ptr hd off):=by
 unfold aX7 at h;split at h
 ·rename_i cs hl;split at h
  ·rename_i ys hy;split at h
   ·rename_i hb;split at h
    ·rename_i cs' hu;obtain⟨h1,h2⟩:=qT hu;have:=hK _ h;rw[bL hl]at this;refine⟨XV.fcL cs,XV.fcL ys,by rw[aN,hl];rfl,by rw[hv];exact kT hy,by rw[aAn];exact η hb,h1,?_⟩;rw[<-h2];exact this
    ·cases h
   ·cases h
  ·cases h
 ·cases h
theorem aS1[YL]{K:XS->Option R}{r:R}(hv:s.er.ev xo=v.er)(h:aOk s sz v K a=some r)(hK:∀s',K s'=some r->KP s'.er):lN s.er sz (s.er.ev xo) KP a.er:=by
 unfold aOk at h;split at h
 ·exact aQd hv h hK
 ·rename_i hd off j;split at h
  ·rename_i cs hl;split at h
   ·rename_i a ha;split at h
    ·rename_i c hc;obtain⟨hj,h⟩:=aQ h;split at h
     ·rename_i cs' hs;obtain⟨h1,h2⟩:=aDh ha hj hs;have:=hK _ h;rw[bL hl]at this;have e:s.er.ev xo=.D (.I a.k c):=by rw[hv];exact aKk hc
      refine⟨XV.fcL cs,[.D (.I a.k c)],by rw[aN,hl];rfl,by rw[e];rfl,rfl,by omega,?_⟩;rw[aKf h1,<-h2];exact this
     ·cases h
    ·cases h
   ·exact aQd hv h hK
   ·cases h
  ·cases h
 ·rename_i hd t ix off j;split at h
  ·rename_i t' xs hl;split at h
   ·rename_i hb;obtain rfl:=Ty.eq_of hb
    replace h:=aMa h
    obtain⟨e,he,h⟩:=h;split at h
    ·rename_i a ha;split at h
     ·rename_i c hc;obtain⟨hj,h⟩:=aQ h;split at h
      ·rename_i l hs;split at h
       ·rename_i y hp;obtain⟨h1,h2⟩:=aDh ha hj hs;obtain⟨l1,e1,e2⟩:=oY hp;rw[υ]at e1;subst e1;rw[cE]at h1 h2;rw[θ]at h1;have hds:t'.ds y=(t'.ds e).set (off+j) (.I a.k c):=by
         have h3:(t'.ds y).map AV.D=((t'.ds e).set (off+j) (.I a.k c)).map AV.D:=by rw[<-e2,h2,gk]
         exact kM h3
        have ev:s.er.ev xo=.D (.I a.k c):=by rw[hv];exact aKk hc
        refine .inl ⟨.inr rfl,xs.map t'.ds,t'.ds e,[.D (.I a.k c)],[.I a.k c],by rw[aN,hl];rfl,by rw[ao,he];rfl,by rw[ev];rfl,rfl,rfl,by omega,?_⟩;have:=hK _ h;rw[bL hl]at this;rw[aKf h1,<-hds];have e3:(xs.map t'.ds).set ix (t'.ds y)=(xs.set ix y).map t'.ds:=by rw[gk]
        rw[e3];exact this
       ·cases h
      ·cases h
     ·cases h
    ·cases h
   ·cases h
  ·cases h
 ·rename_i hd t ix off;split at h
  ·rename_i t' xs hl;split at h
   ·rename_i ys hb hy;obtain rfl:=Ty.eq_of hb;split at h
    ·rename_i hb1 hb2
     replace h:=aMa h
     obtain⟨e,he,h⟩:=h;split at h
     ·rename_i l hu;split at h
      ·rename_i y hp;obtain⟨h1,h2⟩:=qT hu;obtain⟨l1,e1,e2⟩:=oY hp;rw[υ]at e1;subst e1;rw[cE]at h1 h2;rw[θ]at h1;have hsz:=η hb1;have hlen:(XV.fcL ys).length=sz:=by rw[aAn];exact hsz
       have hys:XV.fcL ys=(((t'.ds y).drop off).take sz).map .D:=by
        have:(((XV.fcL l).drop off).take sz)=XV.fcL ys:=by rw[h2,π,fm (by rw[cp,θ];omega),ez (by rw[cp,θ];omega),cn,fk (by omega),bf (by omega)]
        rw[<-this,e2,bp,bz]
       have hds:t'.ds y=(t'.ds e).take off++((t'.ds y).drop off).take sz++(t'.ds e).drop (off+sz):=by
        have h3:(t'.ds y).map AV.D=((t'.ds e).take off++((t'.ds y).drop off).take sz++(t'.ds e).drop (off+sz)).map AV.D:=by rw[bo,bo,<-hys,bp,bz,<-h2,e2]
        have:=congrArg AV.data h3;rwa[rR,rR,Option.some.injEq]at this
       refine .inl ⟨?_,xs.map t'.ds,t'.ds e,XV.fcL ys,((t'.ds y).drop off).take sz,by rw[aN,hl];rfl,by rw[ao,he];rfl,by rw[hv];exact kT hy,by rw[hys];exact rR _,?_,h1,?_⟩
       ·rw[e9]at hb2;rcases hb2 with hb2|hb2
        ·exact .inr (η hb2)
        ·exact .inl fun e=>by rw[e]at hb2;cases hb2
       ·have:=congrArg List.length hys;rw[θ,hlen]at this;exact this.symm
       ·have:=hK _ h;rw[bL hl]at this;rw[<-hds];have e3:(xs.map t'.ds).set ix (t'.ds y)=(xs.set ix y).map t'.ds:=by rw[gk]
        rw[e3];exact this
      ·cases h
     ·cases h
    ·cases h
   ·cases h
  ·cases h
 ·rename_i hd ix;split at h
  ·rename_i n k x hl;split at h
   ·split at h
    ·rename_i t c;split at h
     ·rename_i c' hc;obtain⟨e,rfl⟩:=Ty.cst_ok hc;subst e;obtain⟨h1,h⟩:=aQ h;have e1:=x.len;refine .inl ⟨.inr rfl,x.l.map (arD k),arD k (x.l[ix]'(by omega)),[.D (.I k c)],[.I k c],by rw[aN,hl];rfl,by rw[ao,μ (by omega)];rfl,by rw[hv];rfl,rfl,rfl,ω _,?_⟩;have:=hK _ h;rw[bL hl]at this;have e3:(x.l.map (arD k)).set ix ((arD k (x.l[ix]'(by omega))).take 0++[.I k c]++(arD k (x.l[ix]'(by omega))).drop (0+1))=(x.set ix c).l.map (arD k):=by rw[Arr.l_set,gk];rfl
      rw[e3];exact this
     ·cases h
    ·cases h
   ·rename_i h1;split at h
    ·rename_i t y;split at h
     ·rename_i y' hy hb;obtain⟨e,rfl⟩:=Ty.cst_ok hy;subst e;exact aE3 hl h1 (η hb) (by rw[hv];exact xA) (hK _ h)
     ·cases h
    ·rename_i t y;split at h
     ·rename_i y' hy hb;obtain⟨e,rfl⟩:=Ty.cst_ok hy;subst e;exact aE3 hl h1 (η hb) (by
       rw[hv];show(AV.agg (((Ty.ar n k).ds _).map AV.D++[])).cells?=_;rw[υ];exact xA) (hK _ h)
     ·cases h
    ·split at h
     ·rename_i t y hu;split at h
      ·rename_i y' hy;obtain⟨e,rfl⟩:=Ty.cst_ok hy;subst e;obtain⟨h2,h⟩:=aQ h;have e1:=x.len;refine .inr ⟨rfl,rfl,h1,x.l.map (arD k),_,(Ty.ar sz k).ds y,by rw[aN,hl];rfl,by rw[hv,<-aJ6,hu];exact xA,rR _,by rw[Ty.ds_len];rfl,by rw[θ,e1];exact h2,?_⟩;have:=hK _ h;rw[bL hl]at this;have e3:(x.l.map (arD k)).take ix++(((Ty.ar sz k).ds y).map fun d=>[d])++(x.l.map (arD k)).drop (ix+sz)=(x.put ix y.l).l.map (arD k):=by rw[Arr.l_put (by rw[y.len];exact h2),bo,bo,bp,bz,y.len];congr 2;show((y.l.map (DV.I k)).map fun d=>[d])=_;rw[e7];rfl
       rw[e3];exact this
      ·cases h
     ·cases h
  ·cases h
 ·rename_i hd off;split at h
  ·rename_i t x hl;split at h
   ·rename_i ys hy;split at h
    ·rename_i hb;rw[ν]at hb;have hb0:=eo hb.2;split at h
     ·rename_i l hu;split at h
      ·rename_i y hp;obtain⟨h1,h2⟩:=qT hu;obtain⟨l1,e1,e2⟩:=oY hp;rw[υ]at e1;subst e1;rw[cE]at h1 h2;rw[θ]at h1;have hlen:(XV.fcL ys).length=sz:=by rw[aAn];exact η hb.1
       have hys:XV.fcL ys=(((t.ds y).drop off).take sz).map .D:=by
        have:(((XV.fcL l).drop off).take sz)=XV.fcL ys:=by rw[h2,π,fm (by rw[cp,θ];omega),ez (by rw[cp,θ];omega),cn,fk (by omega),bf (by omega)]
        rw[<-this,e2,bp,bz]
       have hds:t.ds y=(t.ds x).take off++((t.ds y).drop off).take sz++(t.ds x).drop (off+sz):=by
        have h3:(t.ds y).map AV.D=((t.ds x).take off++((t.ds y).drop off).take sz++(t.ds x).drop (off+sz)).map AV.D:=by rw[bo,bo,<-hys,bp,bz,<-h2,e2]
        exact kM h3
       have hn:(((t.ds y).drop off).take sz).length=sz:=by have:=congrArg List.length hys;rw[θ,hlen]at this;exact this.symm
       exact bGh hl (by rw[hv,<-hys];exact kT hy) hn h1 (by omega) hds (hK _ h)
      ·cases h
     ·cases h
    ·cases h
   ·cases h
  ·cases h
 ·rename_i hd off j;split at h
  ·rename_i t x hl;split at h
   ·rename_i a ha;split at h
    ·rename_i c hc;obtain⟨hj,h⟩:=aQ h;split at h
     ·rename_i l hs;split at h
      ·rename_i y hp;obtain⟨h1,h2⟩:=aDh ha hj hs;obtain⟨l1,e1,e2⟩:=oY hp;rw[υ]at e1;subst e1;rw[cE]at h1 h2;rw[θ]at h1;have hds:t.ds y=(t.ds x).set (off+j) (.I a.k c):=by
        have h3:(t.ds y).map AV.D=((t.ds x).set (off+j) (.I a.k c)).map AV.D:=by rw[<-e2,h2,gk]
        exact kM h3
       have ev:s.er.ev xo=.D (.I a.k c):=by rw[hv];exact aKk hc
       exact bGh (vs:=[.I a.k c]) hl (by rw[ev];rfl) rfl h1 h1 (by rw[aKf h1];exact hds) (hK _ h)
      ·cases h
     ·cases h
    ·cases h
   ·cases h
  ·cases h
 ·cases h
def bD1:List XV->Bool
 |[]=>true
 |.d _ _::l=>bD1 l
 |.nl _::l=>bD1 l
 |_::_=>false
def bGd(v a:XV):Bool:=match a with
 |.ept _ _ _ _=>match oT v with
  |some ys=>!(bD1 ys)
  |none=>false
 |_=>false
def bF1(s s1:XS)(sz:Nat)(v:XV)(K:XS->Option R)(h:Hd)(t:Ty)(ix off:Nat):Option R:=match s1.lk h with
 |some (.row true t' xs)=>match t'.beq t,oT v with
  |true,some ys=>match au (szL ys) sz,(au sz 1|| !(au t'.n 1))with
   |true,true=>gn? xs ix fun e=>match aIm (lvs t' e) off ys sz with
    |some l=>pkC s t' l fun y rest=>match rest with
     |[]=>K (s1.setBlk h (some (.row true t' (xs.set ix y))))
     |_::_=>none
    |none=>none
   |_,_=>none
  |_,_=>none
 |_=>none
def aKx(s:XS)(sz:Nat)(v:XV)(K:XS->Option R):XV->Option R
 |.ept h t ix off=>bF1 s (s.put none .un [] (xfz s v.hr)) sz v K h t ix off
 |_=>none
theorem aN0{lk:aV}{φ:Hd->Option Hd}{a:AV}{cs:List AV}(h:a.cells?=some cs)(hc:AV.convL lk φ cs=ds.map .D)(ho:AV.allOne (ds.map .D)=true):(AV.conv lk φ a).cells?=some (ds.map .D):=by
 have key:∀a:AV,(∀l,a≠.agg l)->a.cells?=some cs->(AV.conv lk φ a).cells?=some (ds.map .D):=fun a hn h=>by
  have h1:cs=[a]:=by
   unfold AV.cells? at h;split at h
   ·exact absurd rfl (hn _)
   ·split at h
    ·cases h;rfl
    ·cases h
  subst h1;have hc:[AV.conv lk φ a]=ds.map .D:=hc;cases ds with
  |nil=>cases hc
  |cons d ds=>
   cases ds with
   |cons _ _=>exact absurd (congrArg List.length hc) (by simp)
   |nil=>
    have hc:AV.conv lk φ a=.D d:=(List.cons.inj hc).1;rw[hc];have ho:(AV.one (.D d)&&true)=true:=ho;rw[fj]at ho;show(if AV.one (.D d)=true then some [AV.D d]else none)=_;rw[if_pos ho];rfl
 cases a with
 |agg l=>
  have h:(if AV.allOne l=true then some l else none)=some cs:=h;split at h
  ·have e:l=cs:=Option.some.inj h;rw[<-e]at hc;show(if AV.allOne (AV.convL lk φ l)=true then some (AV.convL lk φ l)else none)=_;rw[hc,if_pos ho]
  ·cases h
 |_=>exact key _ (fun _=>AV.noConfusion) h
theorem zO(lk:aV)(φ:Hd->Option Hd):∀l:List AV,(AV.convL lk φ l).length=l.length
 |[]=>rfl
 |x::l=>by show(AV.convL lk φ l).length+1=_;rw[zO lk φ l];rfl
theorem aPl[YL]{K:XS->Option R}{r:R}(hv:s.er.ev xo=v.er)(h:aKx s sz v K a=some r)(hK:∀s',K s'=some r->KP s'.er):
  lN (s.er.put none AV.un [] (fzL s.er.lk (AV.rows (s.er.ev xo)))) sz (AV.conv s.er.lk (fun _=>none) (s.er.ev xo)) KP a.er:=by
 unfold aKx at h;split at h
 ·rename_i hd t ix off;have hs1:s.er.put none AV.un [] (fzL s.er.lk (AV.rows (s.er.ev xo)))=(s.put none .un [] (xfz s v.hr)).er:=by rw[cK,hv,aBj,mZ];rfl
  rw[hs1,hv];revert h;generalize s.put none .un [] (xfz s v.hr)=s1;intro h;unfold bF1 at h;split at h
  ·rename_i t' xs hl;split at h
   ·rename_i ys hb hy;obtain rfl:=Ty.eq_of hb;split at h
    ·rename_i hb1 hb2
     replace h:=aMa h
     obtain⟨e,he,h⟩:=h;split at h
     ·rename_i l hu;obtain⟨y,l1,l2,rfl,h,ec⟩:=aUk (φ:=fun _=>none) (fun _ _ _=>rfl) h;split at h
      ·obtain⟨h1,h2⟩:=qT hu;rw[υ]at h2;rw[cE]at h1 h2;rw[θ]at h1;have hsz:=η hb1;have hlen:(XV.fcL ys).length=sz:=by rw[aAn];exact hsz
       have hC:((t'.ds e).take off).map AV.D++AV.convL s.er.lk (fun _=>none) (XV.fcL ys)++((t'.ds e).drop (off+sz)).map AV.D=(t'.ds y).map .D:=by rw[<-ec,h2,pT,pT,<-bp,<-bz,zY,zY]
       have hcl:(AV.convL s.er.lk (fun _=>none) (XV.fcL ys)).length=sz:=by rw[zO,hlen]
       have hys:AV.convL s.er.lk (fun _=>none) (XV.fcL ys)=(((t'.ds y).drop off).take sz).map .D:=by rw[bp,bz,<-hC,π,fm (by rw[θ,cp];omega),ez (by rw[θ,cp];omega),cn,fk (by omega),bf (by omega)]
       have hds:t'.ds y=(t'.ds e).take off++((t'.ds y).drop off).take sz++(t'.ds e).drop (off+sz):=by
        have h3:(t'.ds y).map AV.D=((t'.ds e).take off++((t'.ds y).drop off).take sz++(t'.ds e).drop (off+sz)).map AV.D:=by rw[bo,bo,<-hys,hC]
        have:=congrArg AV.data h3;rwa[rR,rR,Option.some.injEq]at this
       have hone:AV.allOne ((((t'.ds y).drop off).take sz).map .D)=true:=by
        have h4:=pF t' y;have h6:(t'.ds y).map AV.D=((t'.ds e).take off).map AV.D++(((t'.ds y).drop off).take sz).map AV.D++((t'.ds e).drop (off+sz)).map AV.D:=by rw[<-bo,<-bo,<-hds]
        rw[h6,yV,yV,ν,ν]at h4;exact h4.1.2
       refine .inl ⟨?_,xs.map t'.ds,t'.ds e,(((t'.ds y).drop off).take sz).map .D,((t'.ds y).drop off).take sz,by rw[aN,hl];rfl,by rw[ao,he];rfl,aN0 (kT hy) hys hone,rR _,?_,h1,?_⟩
       ·rw[e9]at hb2;rcases hb2 with hb2|hb2
        ·exact .inr (η hb2)
        ·exact .inl fun e=>by rw[e]at hb2;cases hb2
       ·have:=congrArg List.length hys;rw[θ,hcl]at this;exact this.symm
       ·have:=hK _ h;rw[bL hl]at this;rw[<-hds];have e3:(xs.map t'.ds).set ix (t'.ds y)=(xs.set ix y).map t'.ds:=by rw[gk]
        rw[e3];exact this
      ·cases h
     ·cases h
    ·cases h
   ·cases h
  ·cases h
 ·cases h
end
section
variable{R:Type}
def mY(s:XS)(t:Ty)(v:XV)(K:List t.T->Option R):Option R:=match v with
 |.d .s b=>match(Ty.sl (.i .u8)).cst (.sl t) (aG b)with
  |some y=>K y
  |none=>none
 |v=>lR s (.sl t) v K
theorem jB[YL]{K:List t.T->Option R}{r:R}(h:mY s t v K=some r):∃xs:List t.T,K xs=some r/\AV.content s.er.lk v.er=some (xs.map t.ds):=by
 unfold mY at h;split at h
 ·rename_i b;split at h
  ·rename_i y hy;obtain⟨e,rfl⟩:=Ty.cst_ok hy;cases e;refine⟨_,h,?_⟩;show some (b.map fun c=>[DV.I .u8 c.toNat])=_;simp only[aG,e7];rfl
  ·cases h
 ·obtain⟨xs,h,h1,_⟩:=aBb h;exact⟨xs,h,h1⟩
def bHe(s:XS)(t:Ty)(xs:List t.T)(k bytes:Nat)(y:XV)(K:XV->List XB->List Hd->Option R):Option R:=match au t.n k with
 |true=>mY s t y fun ys=>match xs,ys with
  |[],ys=>gd? (ys.length*bytes<=140737488355328) (K (.slw (.O s.own.length) t ys.length) [.row true t ys] (xfz s y.hr))
  |xs,y0::yr=>gd? ((xs.length+(y0::yr).length)*bytes<=140737488355328) (K (.slw (.O s.own.length) t (xs++y0::yr).length) [.row true t (xs++y0::yr)] (xfz s y.hr))
  |_,_=>none
 |false=>none
def aI7(s:XS)(ty:Option Ty)(k bytes:Nat)(y:XV)(dst:Option Nat)(K:XS->Option R):XV->Option R
 |.slw h t len=>match s.lk h with
  |some (.row mt t' xs)=>match t'.beq t,au t'.n k with
   |true,true=>gl? len xs (mY s t' y fun ys=>gd? ((xs.length+ys.length)*bytes<=140737488355328) (K ((s.setBlk h none).put dst (.slw (.O s.own.length) t' (xs++ys).length) [.row mt t' (xs++ys)] [])))
   |_,_=>none
  |_=>none
 |.fln _=>match elT ty,dst with
  |some t,some d=>match au t.n k with
   |true=>mY s t y fun ys=>gd? (ys.length*bytes<=140737488355328) (K (s.put (some d) (.slw (.O s.own.length) t ys.length) [.row true t ys] (xfz s y.hr)))
   |false=>none
  |_,_=>none
 |.fl t xs=>match au t.n k,dst with
  |true,some d=>mY s t y fun ys=>match ys with
   |[]=>none
   |y0::yr=>gd? ((xs.length+(y0::yr).length)*bytes<=140737488355328) (K (s.put (some d) (.slw (.O s.own.length) t (xs++y0::yr).length) [.row true t (xs++y0::yr)] (xfz s y.hr)))
  |_,_=>none
 |_=>none
theorem aPa[YL]{K:XS->Option R}{r:R}(hy:s.er.ev yo=y.er)(h:aI7 s ty k bytes y dst K a=some r)(hK:∀s',K s'=some r->KP s'.er):nV s.er k bytes yo dst KP a.er:=by
 unfold aI7 at h;split at h
 ·rename_i hd t len;split at h
  ·rename_i mt t' xs hl;split at h
   ·rename_i hb hb2;obtain rfl:=Ty.eq_of hb;have hk:=η hb2
    replace h:=aUb h
    obtain⟨rfl,h⟩:=h;obtain⟨ys,h,hc⟩:=jB h;obtain⟨hsz,h⟩:=aQ h;refine⟨hk,rfl,mt,xs.map t'.ds,ys.map t'.ds,by rw[aN,hl,<-hk];rfl,by rw[θ],by rw[hy];exact hc,hk▸pJ t' xs,hk▸pJ t' ys,aPt t' ys,by rw[θ];exact hsz,?_⟩;have:=hK _ h;rw[cK,bL hl]at this;have e:(XV.slw (.O s.own.length) t' (xs++ys).length).er=.sl (.O s.own.length) k 0 (xs.length+(ys.map t'.ds).length):=by show AV.sl (.O s.own.length) t'.n 0 (xs++ys).length=_;rw[hk,κ,θ]
    rw[e]at this;have e2:([XB.row mt t' (xs++ys)].map XB.er)=[Blk.row mt k (xs.map t'.ds++ys.map t'.ds)]:=by show[Blk.row mt t'.n ((xs++ys).map t'.ds)]=_;rw[hk,bo]
    rw[e2]at this;exact this
   ·cases h
  ·cases h
 ·split at h
  ·rename_i t d _;split at h
   ·rename_i hb;have hk:=η hb;obtain⟨ys,h,hc⟩:=jB h;obtain⟨hsz,h⟩:=aQ h;refine⟨rfl,ys.map t.ds,by rw[hy];exact hc,hk▸pJ t ys,by rw[θ];exact hsz,?_⟩;have:=hK _ h;rw[cK]at this;have e:(XV.slw (.O s.own.length) t ys.length).er=.sl (.O s.own.length) k 0 (ys.map t.ds).length:=by show AV.sl (.O s.own.length) t.n 0 ys.length=_;rw[hk,θ]
    rw[e]at this;have e2:([XB.row true t ys].map XB.er)=[Blk.row true k (ys.map t.ds)]:=by show[Blk.row true t.n (ys.map t.ds)]=_;rw[hk]
    rw[e2]at this;rw[hy,aBj,mZ];exact this
   ·cases h
  ·cases h
 ·rename_i t xs;split at h
  ·rename_i d hb;have hk:=η hb;obtain⟨ys,h,hc⟩:=jB h;split at h
   ·cases h
   ·rename_i y0 yr;obtain⟨hsz,h⟩:=aQ h;have:=hK _ h;rw[cK]at this;have e2:([XB.row true t (xs++y0::yr)].map XB.er)=[Blk.row true k (xs.map t.ds++(y0::yr).map t.ds)]:=by show[Blk.row true t.n ((xs++y0::yr).map t.ds)]=_;rw[hk,bo]
    have e:(XV.slw (.O s.own.length) t (xs++y0::yr).length).er=.sl (.O s.own.length) k 0 (xs.length+(y0::yr).length):=by show AV.sl (.O s.own.length) t.n 0 (xs++y0::yr).length=_;rw[hk,κ]
    rw[e,e2,show s.own.length=s.er.nx from rfl]at this;cases xs with
    |nil=>
     refine⟨rfl,(y0::yr).map t.ds,by rw[hy];exact hc,hk▸pJ t _,by rw[θ];simpa using hsz,?_⟩;rw[hy,aBj,mZ,θ];simpa using this
    |cons x0 xr=>
     refine⟨(y0::yr).map t.ds,by rw[hy];exact hc,hk▸pJ t (x0::xr),hk▸pJ t _,by simpa using hsz,?_⟩;rw[if_neg (by simp),hy,aBj,mZ];simpa using this
  ·cases h
 ·cases h
def bDp(s:XS)(ty:Option Ty)(k bytes:Nat)(y:XV)(K:XV->List XB->List Hd->Option R):XV->Option R
 |.fln _=>match elT ty with
  |some t=>match au t.n k with
   |true=>mY s t y fun ys=>gd? (ys.length*bytes<=140737488355328) (K (.slw (.O s.own.length) t ys.length) [.row true t ys] (xfz s y.hr))
   |false=>none
  |none=>none
 |.fl t xs=>match au t.n k with
  |true=>mY s t y fun ys=>match ys with
   |[]=>none
   |y0::yr=>gd? ((xs.length+(y0::yr).length)*bytes<=140737488355328) (K (.slw (.O s.own.length) t (xs++y0::yr).length) [.row true t (xs++y0::yr)] (xfz s y.hr))
  |false=>none
 |_=>none
theorem aXl[YL]{K:XV->List XB->List Hd->Option R}{r:R}(hy:s.er.ev yo=y.er)(h:bDp s ty k bytes y K a=some r){KP:AV->List Blk->List Hd->Prop}(hK:∀v nbs fz,K v nbs fz=some r->KP v.er (nbs.map XB.er) fz):
  ∃es,a.er=.fl es/\∃ys,AV.content s.er.lk (s.er.ev yo)=some ys/\Uni k es/\Uni k ys/\(es.length+ys.length)*bytes<=140737488355328/\
   (if ys=[]/\es≠[]then KP (.fl es) [] []else KP (.sl (.O s.er.nx) k 0 (es.length+ys.length)) [.row true k (es++ys)] (fzL s.er.lk (AV.rows (s.er.ev yo)))):=by
 unfold bDp at h;split at h
 ·split at h
  ·rename_i t _;split at h
   ·rename_i hb;have hk:=η hb;obtain⟨ys,h,hc⟩:=jB h;obtain⟨hsz,h⟩:=aQ h;refine⟨[],rfl,ys.map t.ds,by rw[hy];exact hc,fun _ h=>(by cases h),hk▸pJ t ys,by rw[θ];simpa using hsz,?_⟩;rw[if_neg (fun h=>h.2 rfl),hy,aBj,mZ];have:=hK _ _ _ h;have e:(XV.slw (.O s.own.length) t ys.length).er=.sl (.O s.own.length) k 0 (([]:List (List DV)).length+(ys.map t.ds).length):=by show AV.sl (.O s.own.length) t.n 0 ys.length=_;rw[hk,θ,List.length_nil,az]
    rw[e]at this;have e2:([XB.row true t ys].map XB.er)=[Blk.row true k ([]++ys.map t.ds)]:=by show[Blk.row true t.n (ys.map t.ds)]=_;rw[hk];rfl
    rw[e2]at this;exact this
   ·cases h
  ·cases h
 ·rename_i t xs;split at h
  ·rename_i hb;have hk:=η hb;obtain⟨ys,h,hc⟩:=jB h;split at h
   ·cases h
   ·rename_i y0 yr;obtain⟨hsz,h⟩:=aQ h;refine⟨xs.map t.ds,rfl,(y0::yr).map t.ds,by rw[hy];exact hc,hk▸pJ t xs,hk▸pJ t (y0::yr),by rw[θ,θ];exact hsz,?_⟩;rw[if_neg (fun h=>by cases h.1),hy,aBj,mZ];have:=hK _ _ _ h;have e:(XV.slw (.O s.own.length) t (xs++y0::yr).length).er=.sl (.O s.own.length) k 0 ((xs.map t.ds).length+((y0::yr).map t.ds).length):=by show AV.sl (.O s.own.length) t.n 0 (xs++y0::yr).length=_;rw[hk,θ,θ,κ]
    rw[e]at this;have e2:([XB.row true t (xs++y0::yr)].map XB.er)=[Blk.row true k (xs.map t.ds++(y0::yr).map t.ds)]:=by show[Blk.row true t.n ((xs++y0::yr).map t.ds)]=_;rw[hk,bo]
    rw[e2]at this;exact this
  ·cases h
 ·cases h
def aXy{α:Type}(xs:List α)(off len:Nat)(ys:List α):List α:=xs.take off++ys.take (min ys.length len)++xs.drop (off+min ys.length len)
def aKo(s:XS)(k:Nat)(vy:XV)(dst:Option Nat)(K:XS->Option R)(h:Hd)(t:Ty)(off len:Nat):Option R:=match s.lk h with
 |some (.row true t' xs)=>match t'.beq t,au t'.n k with
  |true,true=>gd? (off+len<=xs.length) (mY s t' vy fun ys=>K ((s.setBlk h (some (.row true t' (aXy xs off len ys)))).put dst (.d (.i .i64) (min ys.length len:Nat)) [] []))
  |_,_=>none
 |_=>none
def aTy(s:XS)(k:Nat)(vy:XV)(dst:Option Nat)(K:XS->Option R):XV->Option R
 |.slw h t len=>aKo s k vy dst K h t 0 len
 |.sl h t off len=>aKo s k vy dst K h t off len
 |.asl h off len=>match s.lk h with
  |some (.arr true n kd x)=>match au 1 k with
   |true=>gd? (off+len<=n) (mY s (.i kd) vy fun ys=>K ((s.setBlk h (some (.arr true n kd (x.put off (ys.take (min ys.length len)))))).put dst (.d (.i .i64) (min ys.length len:Nat)) [] []))
   |false=>none
  |_=>none
 |.rsl h off l len=>match s.lk h with
  |some (.rb true t x)=>match au 1 k,wB (lvs t x) off with
   |true,some a=>gd? (l+len<=a.n) (mY s (.i a.k) vy fun ys=>match aIm (lvs t x) off [.d (.ar a.n a.k) (a.x.put l (ys.take (min ys.length len)))] a.n with
    |some q=>match pkD t q with
     |some (y,[])=>K ((s.setBlk h (some (.rb true t y))).put dst (.d (.i .i64) (min ys.length len:Nat)) [] [])
     |_=>none
    |none=>none)
   |_,_=>none
  |_=>none
 |_=>none
theorem aTi{l p:List α}{i:Nat}(h:off+n<=l.length)(hi:i+p.length<=n):l.take off++(((l.drop off).take n).take i++p++((l.drop off).take n).drop (i+p.length))++l.drop (off+n)=l.take (off+i)++p++l.drop (off+i+p.length):=by
 have e1:l.take (off+i)=l.take off++(l.drop off).take i:=by rw[List.take_add]
 have e2:((l.drop off).take n).take i=(l.drop off).take i:=by rw[List.take_take,Nat.min_eq_left (by omega)]
 have e3:l.drop (off+i+p.length)=((l.drop off).take n).drop (i+p.length)++l.drop (off+n):=by
  have h1:l.drop (off+i+p.length)=(l.drop off).drop (i+p.length):=by rw[di,ei]
  have h2:l.drop (off+n)=(l.drop off).drop n:=by rw[di]
  rw[h1,h2];have h3:l.drop off=(l.drop off).take n++(l.drop off).drop n:=(List.take_append_drop _ _).symm;have h4:((l.drop off).take n).length=n:=by rw[cp,aw];omega
  conv=>lhs;rw[h3]
  rw[fm (by omega)]
 rw[e1,e2,e3];simp only[π]
theorem aHk[YL]{K:XS->Option R}{r:R}{len:Nat}(hy:s.er.ev yo=vy.er)(h:aKo s k vy dst K hd t off len=some r)(hK:∀s',K s'=some r->KP s'.er):aId s.er k yo dst KP (.sl hd t.n off len):=by
 unfold aKo at h;split at h
 ·rename_i t' xs hl;split at h
  ·rename_i hb hb2;obtain rfl:=Ty.eq_of hb;have hk:=η hb2;obtain⟨h1,h⟩:=aQ h;obtain⟨ys,h,hc⟩:=jB h;refine⟨hk,xs.map t'.ds,ys.map t'.ds,by rw[aN,hl,<-hk];rfl,by rw[θ];exact h1,by rw[hy];exact hc,hk▸pJ t' ys,by rw[<-bp];exact aPt t' _,?_⟩;have:=hK _ h;rw[cK,bL hl]at this;have e:(some (XB.row true t' (aXy xs off len ys))).map XB.er=some (.row true k ((xs.map t'.ds).take off++(ys.map t'.ds).take (min (ys.map t'.ds).length len)++(xs.map t'.ds).drop (off+min (ys.map t'.ds).length len))):=by show some (Blk.row true t'.n ((aXy xs off len ys).map t'.ds))=_;unfold aXy;rw[hk,bo,bo,bp,bp,bz,θ]
   rw[e]at this;have e2:(XV.d (.i .i64) ((min ys.length len:Nat):Int)).er=.D (.I .i64 (min (ys.map t'.ds).length len:Nat)):=by rw[θ];rfl
   rw[e2]at this;exact this
  ·cases h
 ·cases h
theorem aVq[YL]{K:XS->Option R}{r:R}(hy:s.er.ev yo=vy.er)(h:aTy s k vy dst K a=some r)(hK:∀s',K s'=some r->KP s'.er):aId s.er k yo dst KP a.er:=by
 unfold aTy at h;split at h
 ·exact aHk hy h hK
 ·exact aHk hy h hK
 ·rename_i hd off len;split at h
  ·rename_i n kd x hl;split at h
   ·rename_i hb;obtain rfl:=η hb;obtain⟨h1,h⟩:=aQ h;obtain⟨ys,h,hc⟩:=jB h;refine⟨rfl,x.l.map (arD kd),ys.map (Ty.i kd).ds,by rw[aN,hl];rfl,by rw[θ,x.len];exact h1,by rw[hy];exact hc,pJ (.i kd) ys,by rw[<-bp];exact aPt (.i kd) _,?_⟩;have:=hK _ h;rw[cK,bL hl]at this;have hm:(ys.take (min ys.length len)).length=min ys.length len:=by rw[cp];omega
    have e:(some (XB.arr true n kd (x.put off (ys.take (min ys.length len))))).map XB.er=some (.row true 1 ((x.l.map (arD kd)).take off++(ys.map (Ty.i kd).ds).take (min (ys.map (Ty.i kd).ds).length len)++(x.l.map (arD kd)).drop (off+min (ys.map (Ty.i kd).ds).length len))):=by show some (Blk.row true 1 ((x.put off (ys.take (min ys.length len))).l.map (arD kd)))=_;rw[Arr.l_put (by rw[hm];omega),bo,bo,hm,bp,bp,bz,θ];rfl
    rw[e]at this;have e2:(XV.d (.i .i64) ((min ys.length len:Nat):Int)).er=.D (.I .i64 (min (ys.map (Ty.i kd).ds).length len:Nat)):=by rw[θ];rfl
    rw[e2]at this;exact this
   ·cases h
  ·cases h
 ·rename_i hd off l len;split at h
  ·rename_i t x hl;split at h
   ·rename_i a hb ha;obtain rfl:=η hb;obtain⟨h1,h⟩:=aQ h;obtain⟨ys,h,hc⟩:=jB h;split at h
    ·rename_i q hu;split at h
     ·rename_i y hp;obtain⟨c1,c2⟩:=qT hu;obtain⟨d1,d2⟩:=xY ha;obtain⟨l1,e1,e2⟩:=oY hp;rw[υ]at e1;subst e1;have hm:(ys.take (min ys.length len)).length=min ys.length len:=by rw[cp];omega
      have hp1:(((ys.take (min ys.length len)).map (DV.I a.k)).map AV.D).length=min ys.length len:=by rw[θ,θ,hm]
      have e3:XV.fcL [XV.d (.ar a.n a.k) (a.x.put l (ys.take (min ys.length len)))]=((((XV.fcL (lvs t x)).drop off).take a.n).take l++((ys.take (min ys.length len)).map (DV.I a.k)).map .D++(((XV.fcL (lvs t x)).drop off).take a.n).drop (l+(((ys.take (min ys.length len)).map (DV.I a.k)).map AV.D).length)):=by rw[d1,hp1];show(((a.x.put l (ys.take (min ys.length len))).l.map (DV.I a.k)).map AV.D)++[]=_;rw[υ,Arr.l_put (by rw[hm];omega),hm];simp only[bo,bp,bz]
      have e4:=aTi (p:=((ys.take (min ys.length len)).map (DV.I a.k)).map AV.D) d2 (i:=l) (by rw[hp1];omega);rw[<-e3,<-c2,hp1,cE]at e4;have e5:t.ds y=(t.ds x).take (off+l)++(ys.take (min ys.length len)).map (DV.I a.k)++(t.ds x).drop (off+l+min ys.length len):=by refine kM ?_;rw[<-e2,e4];simp only[bo,bp,bz]
      rw[cE,θ]at d2;refine⟨rfl,sgD (t.ds x),ys.map (Ty.i a.k).ds,by rw[aN,hl];rfl,by rw[uL];omega,by rw[hy];exact hc,pJ (.i a.k) ys,by rw[<-bp];exact aPt (.i a.k) _,?_⟩;have:=hK _ h;rw[cK,bL hl]at this;have e:(some (XB.rb true t y)).map XB.er=some (.row true 1 ((sgD (t.ds x)).take (off+l)++(ys.map (Ty.i a.k).ds).take (min (ys.map (Ty.i a.k).ds).length len)++(sgD (t.ds x)).drop (off+l+min (ys.map (Ty.i a.k).ds).length len))):=by show some (Blk.row true 1 (sgD (t.ds y)))=_;rw[e5,θ];unfold sgD;simp only[bo,bp,bz,e7];rfl
      rw[e]at this;have e6:(XV.d (.i .i64) ((min ys.length len:Nat):Int)).er=.D (.I .i64 (min (ys.map (Ty.i a.k).ds).length len:Nat)):=by rw[θ];rfl
      rw[e6]at this;exact this
     ·cases h
    ·cases h
   ·cases h
  ·cases h
 ·cases h
def aQr(s:XS)(k:Nat)(zs:List DV)(dst:Option Nat)(K:XS->Option R)(h:Hd)(t:Ty)(off len:Nat):Option R:=match s.lk h with
 |some (.row true t' xs)=>match t'.beq t,au t'.n k,zeq (zs.map .D) ((t'.ds t'.z).map .D)with
  |true,true,true=>gd? (off+len<=xs.length) (K ((s.setBlk h (some (.row true t' (xs.take off++bn len t'.z++xs.drop (off+len))))).put dst .any [] []))
  |_,_,_=>none
 |_=>none
def bDo(s:XS)(k:Nat)(zs:List DV)(dst:Option Nat)(K:XS->Option R):XV->Option R
 |.slw h t len=>aQr s k zs dst K h t 0 len
 |.sl h t off len=>aQr s k zs dst K h t off len
 |_=>none
theorem aLv[YL]{zs:List DV}{K:XS->Option R}{r:R}{len:Nat}(h:aQr s k zs dst K hd t off len=some r)(hK:∀s',K s'=some r->KP s'.er):aAh s.er k zs dst KP (.sl hd t.n off len):=by
 unfold aQr at h;split at h
 ·rename_i t' xs hl;split at h
  ·rename_i hb hb2 hz;obtain rfl:=Ty.eq_of hb;have hk:=η hb2;have hz:=kM (aF7 hz);obtain⟨h1,h⟩:=aQ h;refine⟨hk,xs.map t'.ds,by rw[aN,hl,<-hk];rfl,by rw[θ];exact h1,?_⟩;have:=hK _ h;rw[cK,bL hl]at this;have e:(some (XB.row true t' (xs.take off++bn len t'.z++xs.drop (off+len)))).map XB.er=some (.row true k ((xs.map t'.ds).take off++bn len zs++(xs.map t'.ds).drop (off+len))):=by show some (Blk.row true t'.n ((xs.take off++bn len t'.z++xs.drop (off+len)).map t'.ds))=_;rw[hk,bo,bo,fh,bp,bz,hz]
   rw[e]at this;exact this
  ·cases h
 ·cases h
theorem aY8[YL]{zs:List DV}{K:XS->Option R}{r:R}(h:bDo s k zs dst K a=some r)(hK:∀s',K s'=some r->KP s'.er):aAh s.er k zs dst KP a.er:=by
 unfold bDo at h;split at h
 ·exact aLv h hK
 ·exact aLv h hK
 ·cases h
def bDw{α:Type}[DecidableEq α]:List α->α->List α
 |[],_=>[]
 |x::l,y=>if x=y then bDw l y else x::bDw l y
def bEg(V:Ty):XV->Option V.T
 |.d t x=>t.cst V x
 |.agg cs=>match kR V with
  |true=>none
  |false=>match pkD V cs with
   |some (x,[])=>some x
   |_=>none
 |_=>none
def isO:Ty->Bool
 |.o _=>true
 |_=>false
def bEe{α:Type}[DecidableEq α](hole:Option α)(y:α)(K:Option R):Option R:=match hole with
 |none=>K
 |some z=>gd? (z=y) K
def bGy(s:XS)(wr:Bool)(V:Ty)(vz:XV)(K:V.T->Option Hd->Option R):Option R:=match V,K with
 |.o t,K=>match vz with
  |.slw hr t' len=>match s.lk hr with
   |some (.row mt t2 xs)=>match t2.beq t'&&(!wr||mt),(Ty.sl t2).cst (.sl t) xs with
    |true,some x=>gl? len xs (K x (some hr))
    |_,_=>none
   |_=>none
  |_=>none
 |V,K=>match bEg V vz with
  |some x=>K x none
  |none=>none
def bE4(s:XS)(h:Hd)(b:XB)(hr:Option Hd)(K:XS->Option R):Option R:=match hr with
 |none=>K (s.setBlk h (some b))
 |some a=>match a.eqb h with
  |true=>none
  |false=>K ((s.setBlk a none).setBlk h (some b))
def bBj(s:XS)(h:Hd)(wr:Bool)(K0 V:Ty)(es:List (K0.T×V.T))(hole:Option K0.T)(y:K0.T)(vz:XV)(K:XS->Option R):Option R:=
 bGy s wr V vz fun x hr=>bEe hole y (bE4 s h (.mp wr K0 V (bEn es y x) none none) hr K)
def bHi(s:XS)(kd:KD)(vy vz:XV)(K:XS->Option R):XV->Option R
 |.mref h=>match s.lk h with
  |some (.mp wr K0 V es hole i)=>match aB2 K0&&kdB K0.kd kd&&bGb wr i,aP0 K0 vy with
   |true,some y=>bBj s h wr K0 V es hole y vz K
   |_,_=>none
  |_=>none
 |_=>none
def bD6{α:Type}[DecidableEq α](y:α):Option (Hd×Option α×List α)->Option (Hd×Option α×List α)
 |none=>none
 |some (hi,_,rem)=>some (hi,none,bDw rem y)
def bHj(s:XS)(kd:KD)(vy:XV)(K:XS->Option R):XV->Option R
 |.mref h=>match s.lk h with
  |some (.mp false K0 V es none i)=>match aB2 K0&&kdB K0.kd kd,aP0 K0 vy with
   |true,some y=>K (s.setBlk h (some (.mp false K0 V (bE7 es y) none (bD6 y i))))
   |_,_=>none
  |_=>none
 |_=>none
def bHn(s:XS)(kd:KD)(dst:Option Nat)(K:XS->Option R):XV->Option R
 |.mref h=>match s.lk h with
  |some (.mp wr K0 V es hole i)=>match kdB K0.kd kd&&(!wr||(i.isNone&&hole.isNone))with
   |true=>K ((s.setBlk h (some (.mp wr K0 V es hole (some (.O s.own.length,none,es.map (·.1)))))).put dst (.itr h (.O s.own.length)) [.it] [])
   |false=>none
  |_=>none
 |_=>none
def bGo(s:XS)(kd:KD)(z:AV)(k:Nat)(ok:Bool)(vy:XV)(dst:Option Nat)(K:XS->Option R):XV->Option R
 |.mref h=>match ok,s.lk h with
  |false,some (.mp wr K0 (.o t) es none i)=>match aB2 K0&&kdB K0.kd kd&&zeq [z] [.D (.L [])]&&au t.n k&&bGb wr i,aP0 K0 vy with
   |true,some y=>K ((s.setBlk h (some (.mp wr K0 (.o t) es (some y) i))).put dst (.slw (.O s.own.length) t ((zV es y).getD []).length) [.row wr t ((zV es y).getD [])] [])
   |_,_=>none
  |_,_=>none
 |_=>none
def bHk(s:XS)(dst:Option Nat)(K:XS->Option R):XV->Option R
 |.itr h hi=>match s.lk h,s.lk hi with
  |some (.mp true K0 (.o t) es none (some (hi',some cur,rem))),some _=>match aB2 K0&&hi.eqb hi' with
   |true=>gd? (¬cur∈rem)<|bd? (zV es cur) fun v=>K ((s.setBlk h (some (.mp true K0 (.o t) es none (some (hi,none,rem))))).put dst (.tup [aGf K0 cur,.slw (.O s.own.length) t v.length]) [.row true t v] [])
   |false=>none
  |_,_=>none
 |_=>none
end
section
variable{R:Type}
def bC8(vr:Hd->Option Nat)(s:XS):Nat->List (Option XB)->List (Option Hd)->List (Option Hd)
 |_,[],l=>l
 |i,m::r,l=>bC8 vr s (i+1) r (match bCx l i,m with
  |some h,some (.box ms)=>match s.lk h with
   |some (.box cs)=>aT2 vr ms cs l
   |_=>l
  |_,_=>l)
def aV1:List (Option Hd)->Option (List Hd)
 |[]=>some []
 |some h::r=>match aV1 r with
  |some l=>some (h::l)
  |none=>none
 |none::_=>none
def aKh:List Hd->Bool
 |[]=>true
 |h::r=>!(hin h r)&&aKh r
theorem aHt:∀{l:List Hd},aKh l=true->l.Nodup
 |[],_=>jb
 |h::r,e=>by unfold aKh at e;rw[ν,cz]at e;exact dw.2 ⟨fun q=>(by rw[qC.2 q]at e;cases e.1),aHt e.2⟩
def aKu(s:XS):List Hd->List (Option XB)
 |[]=>[]
 |h::r=>s.lk h::aKu s r
theorem aPx[YL](s:XS):∀hs:List Hd,erB (aKu s hs)=hs.map s.er.lk
 |[]=>rfl
 |h::r=>by show(s.lk h).map XB.er::erB (aKu s r)=s.er.lk h::r.map s.er.lk;rw[aN,aPx s r]
theorem aL5(s:XS):∀(hs:List Hd) (i:Nat),aW (aKu s hs) i=(hs[i]?).bind s.lk
 |[],_=>by simp[aKu,aW]
 |h::r,0=>rfl
 |h::r,i+1=>by show aW (aKu s r) i=_;rw[aL5 s r i];simp
def okH(s:XS):List Hd->Bool
 |[]=>true
 |h::r=>(match s.lk h with
  |some .it=>false
  |some _=>true
  |none=>false)&&okH s r
theorem aTq[YL]{s:XS}:∀{hs:List Hd},okH s hs=true->∀h∈hs,∃b,s.lk h=some b/\b.er.isIt=false
 |[],_,_,h=>by cases h
 |x::r,e,h,hh=>by
  unfold okH at e;rw[ν]at e;rcases br.1 hh with rfl|hh
  ·have e:=e.1;split at e
   ·cases e
   ·rename_i b hn hl;refine⟨b,hl,?_⟩;cases b with
    |it=>exact(hn rfl).elim
    |_=>rfl
   ·cases e
  ·exact aTq e.2 h hh
def XB.hr:XB->List Hd
 |.box cs=>XV.hrL cs
 |_=>[]
theorem bDr[YL](b:XB):b.er.rows=b.hr:=by
 cases b with
 |box cs=>exact aI8 cs
 |_=>rfl
def rZ(s:XS):List Hd->List Hd
 |[]=>[]
 |h::r=>(match s.lk h with
  |some b=>b.hr
  |none=>[])++rZ s r
theorem aBh[YL](s:XS):∀hs:List Hd,qG s.er.lk hs=rZ s hs
 |[]=>rfl
 |h::r=>by
  unfold qG rZ;rw[aBh s r,aN];cases s.lk h with
  |none=>rfl
  |some b=>exact congrArg (· ++_) (bDr b)
def aHx(hs:List Hd):List Hd->List Hd
 |[]=>[]
 |h::r=>match hin h hs with
  |true=>aHx hs r
  |false=>h::aHx hs r
theorem aEg(hs:List Hd):∀l:List Hd,l.filter (fun h=>decide (h∉hs))=aHx hs l
 |[]=>rfl
 |h::r=>by
  rw[List.filter_cons];unfold aHx;cases hq:hin h hs with
  |true=>rw[if_neg (by simp[qC.1 hq])];exact aEg hs r
  |false=>rw[if_pos (by simp only[decide_eq_true_eq];exact fun q=>by rw[qC.2 q]at hq;cases hq),aEg hs r]
def pK(ψ:Hd->Hd):List Hd->List (Option XB)->XS->XS
 |h::hs,b::bs,s=>pK ψ hs bs (s.setBlk h (match b with
  |some b=>some (b.ren ψ)
  |none=>none))
 |_,_,s=>s
def inR(s:XS):Hd->Prop
 |.B i=>i<s.bs.length
 |.O i=>i<s.own.length
theorem bB6{b:XB}(hl:s.lk h=some b):inR s h:=by
 cases h with
 |B i=>exact oJ (l:=s.bs) hl
 |O i=>exact oJ (l:=s.own) hl
theorem aPg[YL](hl:inR s h)(b:Option XB):(s.setBlk h b).er=s.er.setBlk h (b.map XB.er):=by
 cases h with
 |B i=>
  refine AState.ext' (fun _=>rfl) (fun j=>?_) (fun _=>rfl) rfl;show(aW (sW s.bs i b) j).map XB.er=if j=i then b.map XB.er else(aW s.bs j).map XB.er
  rw[nK _ _ _ _ hl];split<;>rfl
 |O i=>
  refine AState.ext' (fun _=>rfl) (fun _=>rfl) (fun j=>?_) (sG _ _ _);show(aW (sW s.own i b) j).map XB.er=if j=i then b.map XB.er else(aW s.own j).map XB.er
  rw[nK _ _ _ _ hl];split<;>rfl
theorem aZm{h':Hd}(hl:inR s h')(b:Option XB):inR (s.setBlk h b) h':=by
 cases h with
 |B i=>cases h' with
  |B j=>show j<(sW s.bs i b).length;rw[sG];exact hl
  |O j=>exact hl
 |O i=>cases h' with
  |B j=>exact hl
  |O j=>show j<(sW s.own i b).length;rw[sG];exact hl
theorem aBv[YL](ψ:Hd->Hd):∀(hs:List Hd) (bs:List (Option XB)) (s:XS),(∀h∈hs,inR s h)->(pK ψ hs bs s).er=bI s.er ψ hs (erB bs)
 |[],bs,s,_=>by unfold pK bI;rfl
 |h::hs,[],s,_=>by unfold pK bI;rfl
 |h::hs,b::bs,s,hr=>by
  have h1:=hr h ga;show(pK ψ hs bs (s.setBlk h _)).er=bI (s.er.setBlk h ((b.map XB.er).map (Blk.ren ψ))) ψ hs (erB bs);rw[aBv ψ hs bs _ (fun x hx=>aZm (hr x (gy _ hx)) _),aPg h1];cases b with
  |none=>rfl
  |some b=>
   show bI (s.er.setBlk h (some (b.ren ψ).er)) ψ hs (erB bs)=_;rw[aI1];rfl
def aGb(s:XS)(hs:List Hd)(vs:List XV)(dst:Option Nat)(o:XS)(bl:List XB):XS:=
 (pK (aX hs s.own.length) hs o.bs (s.put none .un [] (aHx hs (xfz s (XV.hrL vs++rZ s hs))))).put dst ((XV.val o.env).ren (aX hs s.own.length)) (bl.map (XB.ren (aX hs s.own.length))) []
theorem aY7(hl:inR s h)(fz:List Hd):inR (s.put none .un [] fz) h:=by
 cases h with
 |B i=>
  show i<(match fz with|[]=>s.bs|fz=>uW .B fz 0 s.bs).length;cases fz with
  |nil=>exact hl
  |cons x r=>show i<(uW .B (x::r) 0 s.bs).length;rw[tP];exact hl
 |O i=>
  show i<((match fz with|[]=>s.own|fz=>uW .O fz 0 s.own)++([]:List XB).map some).length;rw[κ];cases fz with
  |nil=>exact dn hl (fy _ _)
  |cons x r=>
   show i<(uW .O (x::r) 0 s.own).length+_;rw[tP];exact dn hl (fy _ _)
theorem aR6[YL](hr:∀h∈hs,inR s h)(vs:List XV)(dst:Option Nat)(o:XS)(bl:List XB):(aGb s hs vs dst o bl).er=dV s.er hs (XV.erL vs) dst (XV.val o.env).er (erB o.bs) (bl.map XB.er):=by
 have e:fzE s.er.lk hs (XV.erL vs)=aHx hs (xfz s (XV.hrL vs++rZ s hs)):=by unfold fzE;rw[aEg,wS,aBh,mZ]
 unfold aGb dV;rw[cK,aBv _ _ _ _ (fun h hh=>aY7 (hr h hh) _),cK,aJn,bAq,e];rfl
def aQc(s:XS)(hs:List Hd)(vs:List XV)(dst:Option Nat)(K:XS->Option R)(o:XS):Option R:=match au o.bs.length hs.length,aMp o.own,o.pv with
 |true,some bl,none=>K (aGb s hs vs dst o bl)
 |_,_,_=>none
def aC7(s:XS)(g:Sig)(vs:List XV)(dst:Option Nat)(K:XS->Option R)(hs:List Hd):Option R:=match aKh hs&&aG6 s.own.length hs&&okH s hs&&vS 0 g.ent.env vs,g.ent.own with
 |true,[]=>rdK s (vB hs) g.ent (pP vs) (aKu s hs) [] fun v=>bd? (apF g.ent.tys g.F v) fun r=>aYr g.out r (aQc s hs vs dst K)
 |_,_=>none
def aN8(T:List Sig)(s:XS)(vs:List XV)(dst:Option Nat)(K:XS->Option R):XV->Option R
 |.clo fn caps=>match aRv T fn (vs++caps)with
  |some g=>match aV1 (bC8 vrB s 0 g.ent.bs (aT0 vrB (pP (vs++caps)) g.ent.env (aNe g.ent.bs)))with
   |some hs=>aC7 s g (vs++caps) dst K hs
   |none=>none
  |none=>none
 |_=>none
theorem aSa:∀h h' b,vB hs h=some h'->s.lk h=some b->match h' with|.B i=>aW (aKu s hs) i=some b|.O i=>aW [] i=some b:=fun h h' b e hl=>by have e:(aAk h hs 0).map Hd.B=some h':=e;rw[ζ]at e;obtain⟨i,hi,rfl⟩:=e;obtain⟨_,h2⟩:=uE hi;show aW (aKu s hs) i=some b;rw[aL5,show hs[i]?=some h from h2];exact hl
theorem aDv[YL]{g:Sig}{K:XS->Option R}{r:R}{hds:List Hd}(h:aC7 s g vs dst K hds=some r):
  ∃v rr bl,apF g.ent.tys g.F v=some rr/\(bl.map XB.er).map some=erB (cJ g.out rr).own/\(cJ g.out rr).pv=none/\(g.ent.fill v).env.map (fun p=>p.2.er)=AV.convL s.er.lk (vB hds) (XV.erL vs)/\oP s.er.lk hds=erB (g.ent.fill v).bs/\
   hds.Nodup/\aG6 s.er.nx hds=true/\(∀h∈hds,(s.er.lk h).isSome=true)/\(∀h∈hds,(s.er.lk h).any Blk.isIt=false)/\(erB (cJ g.out rr).bs).length=hds.length/\
   K (aGb s hds vs dst (cJ g.out rr) bl)=some r/\(aGb s hds vs dst (cJ g.out rr) bl).er=dV s.er hds (XV.erL vs) dst (XV.val (cJ g.out rr).env).er (erB (cJ g.out rr).bs) (bl.map XB.er):=by
 unfold aC7 at h;split at h
 case h_2=>cases h
 rename_i hb ho;rw[ν,ν,ν]at hb;obtain⟨⟨⟨b1,b2⟩,b3⟩,b4⟩:=hb;obtain⟨v,h,e1,e2,_⟩:=aWb aSa h;obtain⟨rr,hr,h⟩:=bD0 h;have h:=aJ7 h;unfold aQc at h;split at h
 case h_2=>cases h
 rename_i bl hlen hbl hpv;have hlen:=η hlen;have hargs:(g.ent.fill v).env.map (fun p=>p.2.er)=AV.convL s.er.lk (vB hds) (XV.erL vs):=by have:=congrArg (fun l=>l.map (fun p:Nat×AV=>p.2)) e1;simp only[e7]at this;rw[aDj,<-aAj (f:=fun v=>AV.conv s.er.lk (vB hds) v.er) b4 (ev:=pP vs) fun i _=>by rw[az]];exact this
 have hh:oP s.er.lk hds=erB (g.ent.fill v).bs:=by rw[e2,aPx,e7];rfl
 have hlive:=aTq b3;refine⟨v,rr,bl,hr,aD2 hbl,hpv,hargs,hh,aHt b1,b2,fun x hx=>?_,fun x hx=>?_,?_,h,?_⟩
 ·obtain⟨b,q,_⟩:=hlive x hx;rw[aN,q];rfl
 ·obtain⟨b,q,q2⟩:=hlive x hx;rw[aN,q];exact q2
 ·show(List.map _ _).length=_;rw[θ];exact hlen
 ·rw[aR6 (fun x hx=>by obtain⟨b,q,_⟩:=hlive x hx;exact bB6 q)]
theorem aSd[YL]{T:List Sig}(hT:gJ P T){K:XS->Option R}{r:R}(h:aN8 T s vs dst K vf=some r)(hK:∀s',K s'=some r->KP s'.er):aEe P s.er dst KP (XV.erL vs) vf.er:=by
 unfold aN8 at h;split at h
 case h_2=>cases h
 rename_i fn caps;split at h
 case h_2=>cases h
 rename_i g hg;obtain⟨hs,hfn⟩:=aC0 hT hg;split at h
 case h_2=>cases h
 rename_i hds _;obtain⟨v,rr,bl,hr,hbl,hpv,hargs,hh,c1,c2,c3,c4,c5,hk,he⟩:=aDv h;have hcall:=hs v rr hr (bl.map XB.er) hbl;unfold yZ at hcall;rw[hpv]at hcall;rw[hargs,hfn,<-hh,lZ]at hcall;refine⟨hds,_,_,_,c1,c2,c3,c4,c5,hcall,?_⟩;have:=hK _ hk;rw[he,lZ]at this;exact this
structure XRO where
 ro:RO
 ty:Option Ty
def aEc(T:List Sig)(s:XS)(o:XRO)(K:XS->Option R):Option R:=
 match o.ro.op with
 |.store sz a x=>w1 s a fun va=>w1 s x fun vx=>match bGd vx va with
  |true=>aKx s sz vx K va
  |false=>aOk s sz vx K va
 |.appE k bytes x y=>w1 s x fun vx=>w1 s y fun vy=>aI7 s o.ty k bytes vy o.ro.dst K vx
 |.app k bytes x y=>w1 s x fun vx=>w1 s y fun vy=>bDp s o.ty k bytes vy (fun v nbs fz=>K (s.put o.ro.dst v nbs fz)) vx
 |.callE f args=>w1 s f fun vf=>wL s args fun vs=>aN8 T s vs o.ro.dst K vf
 |.clr k zs x=>w1 s x (bDo s k zs o.ro.dst K)
 |.cpy k x y=>w1 s x fun vx=>w1 s y fun vy=>aTy s k vy o.ro.dst K vx
 |.mtake kd z k ok x y=>none
 |.mput kd x y z=>none
 |.mdel kd x y=>none
 |.rng kd x=>none
 |.entT x=>none
 |op=>xp T s o.ty op fun v nbs fz=>K (s.put o.ro.dst v nbs fz)
theorem aA9[YL]{T:List Sig}(hT:gJ P T){o:XRO}{K:XS->Option R}{r:R}(h:aEc T s o K=some r)(hK:∀s',K s'=some r->KP s'.er):lV P s.er o.ro KP:=by
 have hput:∀v nbs fz,K (s.put o.ro.dst v nbs fz)=some r->KP (s.er.put o.ro.dst v.er (nbs.map XB.er) fz):=fun v nbs fz h=>by rw[<-cK];exact hK _ h
 unfold aEc at h;unfold lV;split at h
 ·rename_i sz a x e;obtain⟨h,e1⟩:=aM h;obtain⟨h,e2⟩:=aM h;rw[e];show lN s.er sz (s.er.ev x) KP (s.er.ev a)\/lN (s.er.put none .un [] (fzL s.er.lk (AV.rows (s.er.ev x)))) sz (AV.conv s.er.lk (fun _=>none) (s.er.ev x)) KP (s.er.ev a);split at h
  ·right;rw[e1];exact aPl e2 h hK
  ·left;rw[e1];exact aS1 e2 h hK
 ·rename_i k bytes x y e;obtain⟨h,e1⟩:=aM h;obtain⟨h,e2⟩:=aM h;rw[e];show nV s.er k bytes y o.ro.dst KP (s.er.ev x);rw[e1];exact aPa e2 h hK
 ·rename_i k bytes x y e;obtain⟨h,e1⟩:=aM h;obtain⟨h,e2⟩:=aM h;rw[e];show∃es,s.er.ev x=.fl es/\_;rw[e1];exact aXl e2 h (KP:=fun a nbs fz=>KP (s.er.put o.ro.dst a nbs fz)) hput
 ·rename_i f args e;obtain⟨h,e1⟩:=aM h;obtain⟨vs,h,e2⟩:=aBq h;rw[e];show aEe P s.er o.ro.dst KP (args.map s.er.ev) (s.er.ev f);rw[e1,e2];exact aSd hT h hK
 ·rename_i k zs x e;obtain⟨h,e1⟩:=aM h;rw[e];show aAh s.er k zs o.ro.dst KP (s.er.ev x);rw[e1];exact aY8 h hK
 ·rename_i k x y e;obtain⟨h,e1⟩:=aM h;obtain⟨h,e2⟩:=aM h;rw[e];show aId s.er k y o.ro.dst KP (s.er.ev x);rw[e1];exact aVq e2 h hK
 ·cases h
 ·cases h
 ·cases h
 ·cases h
 ·cases h
 ·rename_i n1 n2 n3 n4 n5 n6 n7 n8 n9 n10 n11;have:=bEi hT h (KP:=fun a nbs fz=>KP (s.er.put o.ro.dst a nbs fz)) hput;split
  ·rename_i e;exact absurd e (n1 _ _ _)
  ·rename_i e;exact absurd e (n2 _ _ _ _)
  ·rename_i e;exact absurd e (n4 _ _)
  ·rename_i e;exact absurd e (n5 _ _ _)
  ·rename_i e;exact absurd e (n6 _ _ _)
  ·rename_i e;exact absurd e (n7 _ _ _ _ _ _)
  ·rename_i e;exact absurd e (n8 _ _ _ _)
  ·rename_i e;exact absurd e (n9 _ _ _)
  ·rename_i e;exact absurd e (n10 _ _)
  ·rename_i e;exact absurd e (n11 _)
  ·exact this
def lQ(s:XS)(t:Nat)(q:Bool):XS:={s with env:=(t,.d .b q)::s.env}
theorem gT[YL]{t:Nat}{c:Bool}(h:cA s.env t=.d .b c)(e:c=q):(lQ s t q).er=s.er:=by
 subst e;refine AState.ext' (fun i=>?_) (fun _=>rfl) (fun _=>rfl) rfl;show(if au i t=true then XV.d .b c else cA s.env i).er=(cA s.env i).er;by_cases hi:i=t
 ·rw[if_pos (by rw[fg];exact hi),hi,h]
 ·rw[if_neg (by rw[fg];exact hi)]
def xM(T:List Sig):List XRO->XS->(XS->Option R)->Option R
 |[],s,K=>K s
 |o::r,s,K=>match o.ro.guard with
  |none=>aEc T s o fun s'=>xM T r s' K
  |some (t,want)=>match cA s.env t with
   |.d .b c=>match want with
    |true=>if? c (aEc T (lQ s t true) o fun s'=>xM T r s' K) (xM T r ((lQ s t false).put o.ro.dst .un [] []) K)
    |false=>if? c (xM T r ((lQ s t true).put o.ro.dst .un [] []) K) (aEc T (lQ s t false) o fun s'=>xM T r s' K)
   |.un=>xM T r (s.put o.ro.dst .un [] []) K
   |_=>none
theorem iO[YL]{P:Program}{T:List Sig}(hT:gJ P T){r:R}:∀{os:List XRO} {s:XS} {K:XS->Option R},xM T os s K=some r->∀{KP:AState->Prop},(∀s',K s'=some r->KP s'.er)->iD P (os.map XRO.ro) s.er KP
 |[],s,K,h,KP,hK=>hK _ h
 |o::os,s,K,h,KP,hK=>by
  unfold xM at h;show iD P (o.ro::os.map XRO.ro) s.er KP;unfold iD;split at h
  ·rename_i hg;rw[hg];exact aA9 hT h fun s' h=>iO hT h hK
  ·rename_i t want hg;rw[hg];split at h
   ·rename_i c hc;have ht:s.er.env t=.D (.B c):=by show(cA s.env t).er=_;rw[hc];rfl
    show match s.er.env t with
     |.D (.B c)=>(c=want->_)/\(¬c=want->_)
     |.D (.C (.tuple _))=>_
     |_=>False
    rw[ht];split at h
    ·rcases aJu h with⟨e,h⟩|⟨e,h⟩
     ·have:=aA9 hT h (KP:=fun s'=>iD P (os.map XRO.ro) s' KP) fun s' h=>iO hT h hK;rw[gT hc e]at this;exact⟨fun _=>this,fun h=>absurd e h⟩
     ·have:=iO hT h hK;rw[cK,gT hc e]at this;exact⟨fun h=>cr (e.symm.trans h),fun _=>this⟩
    ·rcases aJu h with⟨e,h⟩|⟨e,h⟩
     ·have:=iO hT h hK;rw[cK,gT hc e]at this;exact⟨fun h=>cr (e.symm.trans h),fun _=>this⟩
     ·have:=aA9 hT h (KP:=fun s'=>iD P (os.map XRO.ro) s' KP) fun s' h=>iO hT h hK;rw[gT hc e]at this;exact⟨fun _=>this,fun h=>absurd e h⟩
   ·rename_i hc;have ht:s.er.env t=.D (.C undef):=by show(cA s.env t).er=_;rw[hc];rfl
    have:=iO hT h hK;rw[cK]at this;show match s.er.env t with
     |.D (.B c)=>(c=want->_)/\(¬c=want->_)
     |.D (.C (.tuple _))=>_
     |_=>False
    rw[ht];exact this
   ·cases h
def aYb:Option XB->Option XB->Bool
 |some (.arr _ n _ _),some (.arr _ m _ _)=>au n m
 |some (.rb _ t _),some (.rb _ t' _)=>t.beq t'
 |_,_=>false
theorem aXc[YL]{c:Option XB}(h:aYb b c=true):keepB false (b.map XB.er) (c.map XB.er):=by
 unfold aYb at h;split at h
 ·rename_i mt n k x mt' m k' y;have h:=η h;subst h;show shp (some (Blk.row mt' 1 (y.l.map (arD k'))))=shp (some (Blk.row mt 1 (x.l.map (arD k))));unfold shp;simp only[θ,x.len,y.len]
 ·rename_i mt t x mt' t' y;obtain rfl:=Ty.eq_of h;show shp (some (Blk.row mt' 1 (sgD (t.ds y))))=shp (some (Blk.row mt 1 (sgD (t.ds x))));unfold shp;simp only[uL,Ty.ds_len]
 ·cases h
def aQu(s s':XS):List Hd->Bool
 |[]=>true
 |h::r=>aYb (s.lk h) (s'.lk h)&&aQu s s' r
theorem aNk[YL]{s s':XS}:∀{hs:List Hd},aQu s s' hs=true->aHh false hs s.er s'.er
 |[],_=>fun _ h=>by cases h
 |h::r,e=>by
  have e:(aYb (s.lk h) (s'.lk h)&&aQu s s' r)=true:=e;rw[ν]at e;intro x hx;rcases br.1 hx with rfl|hx
  ·rw[aN,aN];exact aXc e.1
  ·exact aNk e.2 x hx
def xhd:XV->Option Hd
 |.apt h _=>some h
 |.asl h _ _=>some h
 |.rpt h _=>some h
 |.rpa h _ _=>some h
 |.rsl h _ _ _=>some h
 |.ptr h _=>some h
 |.pa h _ _=>some h
 |.ept h _ _ _=>some h
 |.epa h _ _ _ _=>some h
 |.slw h _ _=>some h
 |.sl h _ _ _=>some h
 |_=>none
theorem aEq[YL](e:xhd v=some h):v.er.hd?=some h:=by unfold xhd at e;split at e<;>first|exact e|cases e
def ldX(hs:List Hd)(s:XS)(op:ROp):Bool:=match op.sArg with
 |none=>true
 |some x=>match xhd (s.ev x)with
  |some h=>hin h hs
  |none=>noG x
theorem aVf[YL](e:xhd v=none):v.er.hd?=none:=by
 cases v<;>first|rfl|(cases e;done)|skip
 rename_i t x;cases t<;>rfl
theorem aO4[YL]{op:ROp}(h:ldX hs s op=true):aUd hs op s.er.ev:=by
 unfold ldX at h;unfold aUd;split at h
 ·rename_i e;rw[e];trivial
 ·rename_i x e;rw[e];split at h
  ·rename_i hd hx;intro h' e';rw[aBr s rfl,aEq hx]at e';cases e';exact qC.1 h
  ·rename_i hx;intro h' e';rw[aBr s rfl,aVf hx]at e';cases e'
def aKv(s:XS)(x:Operand)(K:List Hd):List Hd:=match xhd (s.ev x)with
 |some h=>match hin h K with
  |true=>K
  |false=>h::K
 |none=>K
def aN3:List XV->Nat->Option XV
 |[],_=>none
 |v::_,0=>some v
 |.d t _::r,off+1=>match j9 t.n (off+1)with
  |true=>aN3 r (off+1-t.n)
  |false=>none
 |_::r,off+1=>aN3 r off
def ldP(s:XS)(ag:Option Nat)(dst:Option Nat)(x:Operand):XS:=match ag,s.ev x with
 |none,.ptr h off=>match s.lk h with
  |some (.box cs)=>match aN3 cs off with
   |some v=>s.put dst v [] []
   |none=>s
  |_=>s
 |_,_=>s
def sO(s:XS):List XRO->List Hd
 |[]=>[]
 |o::r=>match o.ro.op with
  |.mv x=>sO (s.put o.ro.dst (s.ev x) [] []) r
  |.nilcS x=>aKv s x (sO (s.put o.ro.dst (s.ev x) [] []) r)
  |.loadS ag x=>aKv s x (sO (ldP s ag o.ro.dst x) r)
  |.faddrS _ x=>aKv s x (sO (s.put o.ro.dst (s.ev x) [] []) r)
  |.iaddr _ x _=>sO (s.put o.ro.dst (s.ev x) [] []) r
  |.faddr _ x=>sO (s.put o.ro.dst (s.ev x) [] []) r
  |.iaddrA _ _ x _=>sO (s.put o.ro.dst (s.ev x) [] []) r
  |op=>match op.sArg with
   |some x=>aKv s x (sO s r)
   |none=>sO s r
def aXu(v w:XV)(K:Option R):Option R:=match v,w with
 |.d t x,.d t' y=>match t'.cst t y with
  |some y=>gd? (x=y) K
  |none=>none
 |.slw h t n,.slw h' t' n'=>match h.eqb h',t.beq t' with
  |true,true=>gd? (n=n') K
  |_,_=>none
 |.ptr h o,.ptr h' o'=>match h.eqb h',au o o' with
  |true,true=>K
  |_,_=>none
 |.apt h o,.apt h' o'=>match h.eqb h',au o o' with
  |true,true=>K
  |_,_=>none
 |.rpt h o,.rpt h' o'=>match h.eqb h',au o o' with
  |true,true=>K
  |_,_=>none
 |.mref h,.mref h'=>match h.eqb h' with
  |true=>K
  |false=>none
 |.fln _,.fln _=>K
 |.nl _,.nl _=>K
 |.sc,.sc=>K
 |.c x,.c y=>match cEq x y with
  |true=>K
  |false=>none
 |_,_=>none
theorem aQv[YL]{w:XV}{K:Option R}{r:R}(h:aXu v w K=some r):(v.fc=w.fc/\v.er=w.er)/\K=some r:=by
 unfold aXu at h;split at h
 ·split at h
  ·rename_i y hy;obtain⟨e,rfl⟩:=Ty.cst_ok hy;subst e;obtain⟨rfl,h⟩:=aQ h;exact⟨⟨rfl,rfl⟩,by assumption⟩
  ·cases h
 ·split at h
  ·rename_i h1 h2;obtain rfl:=Hd.eqb_iff.1 h1;obtain rfl:=Ty.eq_of h2
   replace h:=aQ h
   obtain⟨e,h⟩:=h;subst e;exact⟨⟨rfl,rfl⟩,h⟩
  ·cases h
 ·split at h
  ·rename_i h1 h2;obtain rfl:=Hd.eqb_iff.1 h1;obtain rfl:=η h2;exact⟨⟨rfl,rfl⟩,h⟩
  ·cases h
 ·split at h
  ·rename_i h1 h2;obtain rfl:=Hd.eqb_iff.1 h1;obtain rfl:=η h2;exact⟨⟨rfl,rfl⟩,h⟩
  ·cases h
 ·split at h
  ·rename_i h1 h2;obtain rfl:=Hd.eqb_iff.1 h1;obtain rfl:=η h2;exact⟨⟨rfl,rfl⟩,h⟩
  ·cases h
 ·split at h
  ·rename_i h1;obtain rfl:=Hd.eqb_iff.1 h1;exact⟨⟨rfl,rfl⟩,h⟩
  ·cases h
 ·exact⟨⟨rfl,rfl⟩,h⟩
 ·exact⟨⟨rfl,rfl⟩,h⟩
 ·exact⟨⟨rfl,rfl⟩,h⟩
 ·split at h
  ·rename_i h1;obtain rfl:=aW2 h1;exact⟨⟨rfl,rfl⟩,h⟩
  ·cases h
 ·cases h
def aRh:List XV->List XV->Option R->Option R
 |[],[],K=>K
 |v::vs,w::ws,K=>aXu v w (aRh vs ws K)
 |_,_,_=>none
theorem aLx[YL]{r:R}:∀{vs ws:List XV} {K:Option R},aRh vs ws K=some r->XV.erL vs=XV.erL ws/\K=some r
 |[],[],_,h=>⟨rfl,h⟩
 |v::vs,w::ws,K,h=>by
  obtain⟨⟨_,e⟩,h⟩:=aQv (K:=aRh vs ws K) h;obtain⟨e2,h⟩:=aLx h;exact⟨by show v.er::XV.erL vs=w.er::XV.erL ws;rw[e,e2],h⟩
 |[],_::_,_,h=>by cases h
 |_::_,[],_,h=>by cases h
def eqX(v w:XV)(K:Option R):Option R:=match v,w with
 |.clo f vs,.clo f' ws=>match au f f' with
  |true=>aRh vs ws K
  |false=>none
 |v,w=>aXu v w K
theorem bBp[YL]{w:XV}{K:Option R}{r:R}(h:eqX v w K=some r):v.fc=w.fc/\K=some r:=by
 unfold eqX at h;split at h
 ·split at h
  ·rename_i hf;obtain rfl:=η hf;obtain⟨e,h⟩:=aLx h;exact⟨by show[AV.clo _ (XV.erL _)]=[AV.clo _ (XV.erL _)];rw[e],h⟩
  ·cases h
 ·obtain⟨⟨e,_⟩,h⟩:=aQv h;exact⟨e,h⟩
def aYu:List XV->List XV->Option R->Option R
 |[],[],K=>K
 |v::vs,w::ws,K=>eqX v w (aYu vs ws K)
 |_,_,_=>none
theorem aPz[YL]{r:R}:∀{vs ws:List XV} {K:Option R},aYu vs ws K=some r->XV.fcL vs=XV.fcL ws/\K=some r
 |[],[],_,h=>⟨rfl,h⟩
 |v::vs,w::ws,K,h=>by
  obtain⟨e,h⟩:=bBp (K:=aYu vs ws K) h;obtain⟨e2,h⟩:=aPz h;exact⟨by show v.fc++XV.fcL vs=w.fc++XV.fcL ws;rw[e,e2],h⟩
 |[],_::_,_,h=>by cases h
 |_::_,[],_,h=>by cases h
def bB4(b c:Option XB)(K:Option R):Option R:=match b,c with
 |some (.box vs),some (.box ws)=>aYu vs ws K
 |some (.row mt t xs),some (.row mt' t' ys)=>match mt==mt',(Ty.sl t').cst (.sl t) ys with
  |true,some ys=>gd? (xs=ys) K
  |_,_=>none
 |some (.arr mt n k x),some (.arr mt' n' k' y)=>match mt==mt',(Ty.ar n' k').cst (.ar n k) y with
  |true,some y=>gd? (x=y) K
  |_,_=>none
 |some (.rb mt t x),some (.rb mt' t' y)=>match mt==mt',t'.cst t y with
  |true,some y=>gd? (x=y) K
  |_,_=>none
 |_,_=>none
theorem aZs[YL]{c:Option XB}{K:Option R}{r:R}(h:bB4 b c K=some r):b.map XB.er=c.map XB.er/\K=some r:=by
 unfold bB4 at h;split at h
 ·obtain⟨e,h⟩:=aPz h;exact⟨congrArg (fun l=>some (Blk.box l)) e,h⟩
 ·split at h
  ·rename_i ys h1 hy;obtain⟨e,hy⟩:=Ty.cst_ok hy;cases e;cases hy
   replace h:=aQ h
   obtain⟨e,h⟩:=h;cases e;exact⟨by rw[eq_of_beq h1],h⟩
  ·cases h
 ·split at h
  ·rename_i y h1 hy;obtain⟨e,hy⟩:=Ty.cst_ok hy;cases e;cases hy
   replace h:=aQ h
   obtain⟨e,h⟩:=h;cases e;exact⟨by rw[eq_of_beq h1],h⟩
  ·cases h
 ·split at h
  ·rename_i y h1 hy;obtain⟨e,hy⟩:=Ty.cst_ok hy;subst e;cases hy
   replace h:=aQ h
   obtain⟨e,h⟩:=h;cases e;exact⟨by rw[eq_of_beq h1],h⟩
  ·cases h
 ·cases h
def aIr(s s':XS):List Hd->Option R->Option R
 |[],K=>K
 |h::r,K=>bB4 (s.lk h) (s'.lk h) (aIr s s' r K)
theorem aIf[YL]{s s':XS}{r:R}:∀{hs:List Hd} {K:Option R},aIr s s' hs K=some r->aHh true hs s.er s'.er/\K=some r
 |[],_,h=>⟨fun _ h=>(by cases h),h⟩
 |x::hs,K,h=>by
  obtain⟨e,h⟩:=aZs (K:=aIr s s' hs K) h;obtain⟨e2,h⟩:=aIf h;refine⟨fun y hy=>?_,h⟩;rcases br.1 hy with rfl|hy
  ·show s'.er.lk y=s.er.lk y;rw[aN,aN,e]
  ·exact e2 y hy
def aV9(ld:Bool)(s s':XS)(hs:List Hd)(K:Option R):Option R:=match ld with
 |true=>aIr s s' hs K
 |false=>match aQu s s' hs with
  |true=>K
  |false=>none
theorem aTv[YL]{ld:Bool}{K:Option R}{r:R}(h:aV9 ld s s' hs K=some r):aHh ld hs s.er s'.er/\K=some r:=by
 unfold aV9 at h;split at h
 ·exact aIf h
 ·split at h
  ·rename_i e;exact⟨aNk e,h⟩
  ·cases h
def xJ(s:XS)(o:XRO)(K:XS->Option R):Option R:=match o.ro.op with
 |.loadS ag x=>w1 s x fun v=>match xhd v with
  |some _=>aRa s ag (fun a=>K (s.put o.ro.dst a [] [])) v
  |none=>none
 |.faddrS off x=>w1 s x fun v=>match xhd v,rH s v with
  |some _,true=>aJ8 off (fun a=>K (s.put o.ro.dst a [] [])) v
  |_,_=>none
 |.lenS str x=>w1 s x fun v=>match xhd v,rH s v,aU3 str v with
  |some _,true,some m=>K (s.put o.ro.dst (.d (.i .i64) (m:Int)) [] [])
  |_,_,_=>none
 |.nilcS x=>w1 s x fun v=>match xhd v,rH s v with
  |some _,true=>aPr (fun a=>K (s.put o.ro.dst a [] [])) v
  |_,_=>none
 |_=>none
theorem aCw(s:XS)(dst:Option Nat)(v:XV)(h:Hd):(s.put dst v [] []).lk h=s.lk h:=by
 cases h with
 |B i=>rfl
 |O i=>show aW (s.own++[]) i=aW s.own i;rw[υ]
theorem wZ[YL]{o:XRO}{K:XS->Option R}{r:R}(h:xJ s o K=some r)(hK:∀s',(∀h,s'.lk h=s.lk h)->K s'=some r->KP s'.er):lV P s.er o.ro KP:=by
 have hput:∀v,K (s.put o.ro.dst v [] [])=some r->KP (s.er.put o.ro.dst v.er [] []):=fun v h=>by have:=hK _ (aCw s _ v) h;rw[cK]at this;exact this
 unfold xJ at h;split at h
 ·rename_i ag x e;obtain⟨h,e1⟩:=aM h;split at h
  ·rename_i hd hh;unfold lV;rw[e];show(s.er.ev x).hd?.isSome=true/\lG s.er.lk ag _ (s.er.ev x);rw[e1,aEq hh];exact⟨rfl,aEm h fun v h=>hput v h⟩
  ·cases h
 ·rename_i off x e;obtain⟨h,e1⟩:=aM h;split at h
  ·rename_i hd hh hl;unfold lV;rw[e];show(s.er.ev x).hd?.isSome=true/\AV.live s.er.lk (s.er.ev x)=true/\_;rw[e1,aEq hh];exact⟨rfl,gC hl,aHp h (KP:=fun a=>KP (s.er.put o.ro.dst a [] [])) fun v h=>hput v h⟩
  ·cases h
 ·rename_i str x e;obtain⟨h,e1⟩:=aM h;split at h
  ·rename_i hd m hh hl hm;unfold lV;rw[e];show(s.er.ev x).hd?.isSome=true/\AV.live s.er.lk (s.er.ev x)=true/\_;rw[e1,aEq hh];exact⟨rfl,gC hl,m,aI5 hm,hput _ h⟩
  ·cases h
 ·rename_i x e;obtain⟨h,e1⟩:=aM h;split at h
  ·rename_i hd hh hl;unfold lV;rw[e];show(s.er.ev x).hd?.isSome=true/\AV.live s.er.lk (s.er.ev x)=true/\_;rw[e1,aEq hh];exact⟨rfl,gC hl,aMb h (KP:=fun a=>KP (s.er.put o.ro.dst a [] [])) fun v h=>hput v h⟩
  ·cases h
 ·cases h
def aNr(s:XS)(o:XRO)(K:XS->Option R):Option R:=match o.ro.guard with
 |none=>xJ s o K
 |some (t,want)=>match cA s.env t with
  |.d .b c=>match want with
   |true=>if? c (xJ (lQ s t true) o K) (K ((lQ s t false).put o.ro.dst .un [] []))
   |false=>if? c (K ((lQ s t true).put o.ro.dst .un [] [])) (xJ (lQ s t false) o K)
  |.un=>K (s.put o.ro.dst .un [] [])
  |_=>none
theorem aSb[YL]{o:XRO}{K:XS->Option R}{r:R}(h:aNr s o K=some r)(hK:∀s',(∀h,s'.lk h=s.lk h)->K s'=some r->KP s'.er):iD P [o.ro] s.er KP:=by
 unfold aNr at h;unfold iD;split at h
 ·rename_i hg;rw[hg];exact wZ h hK
 ·rename_i t want hg;rw[hg];split at h
  ·rename_i c hc;have ht:s.er.env t=.D (.B c):=by show(cA s.env t).er=_;rw[hc];rfl
   show match s.er.env t with
    |.D (.B c)=>(c=want->_)/\(¬c=want->_)
    |.D (.C (.tuple _))=>_
    |_=>False
   rw[ht];split at h
   ·rcases aJu h with⟨e,h⟩|⟨e,h⟩
    ·have:=wZ (P:=P) h fun s' e=>hK s' e;rw[gT hc e]at this;exact⟨fun _=>this,fun h=>absurd e h⟩
    ·have:=hK _ (fun x=>aCw (lQ s t false) _ _ x) h;rw[cK,gT hc e]at this;exact⟨fun h=>cr (e.symm.trans h),fun _=>this⟩
   ·rcases aJu h with⟨e,h⟩|⟨e,h⟩
    ·have:=hK _ (fun x=>aCw (lQ s t true) _ _ x) h;rw[cK,gT hc e]at this;exact⟨fun h=>cr (e.symm.trans h),fun _=>this⟩
    ·have:=wZ (P:=P) h fun s' e=>hK s' e;rw[gT hc e]at this;exact⟨fun _=>this,fun h=>absurd e h⟩
  ·rename_i hc;have ht:s.er.env t=.D (.C undef):=by show(cA s.env t).er=_;rw[hc];rfl
   show match s.er.env t with
    |.D (.B c)=>(c=want->_)/\(¬c=want->_)
    |.D (.C (.tuple _))=>_
    |_=>False
   rw[ht];have:=hK _ (fun x=>aCw s _ _ x) h;rw[cK]at this;exact this
  ·cases h
def bEj:ROp->Bool
 |.loadS _ _=>true
 |.faddrS _ _=>true
 |.nilcS _=>true
 |.lenS _ _=>true
 |_=>false
def aRf:Bool->List XRO->Bool
 |true,[]=>true
 |_,_=>false
theorem aWi{l:Bool}{os:List XRO}(h:aRf l os=true):¬(l=false\/os.map XRO.ro≠[]):=by
 unfold aRf at h;split at h
 ·simp
 ·cases h
def aH9(T:List Sig)(ld:Bool)(hs:List Hd)(lst:Bool):List XRO->XS->(XS->Option R)->Option R
 |[],s,K=>K s
 |o::r,s,K=>match ldX hs s o.ro.op with
  |true=>match bEj o.ro.op with
   |true=>aNr s o fun s'=>aH9 T ld hs lst r s' K
   |false=>match o.ro.op.ht,aRf lst r with
    |true,false=>xM T [o] s fun s'=>aV9 ld s s' hs (aH9 T ld hs lst r s' K)
    |_,_=>xM T [o] s fun s'=>aH9 T ld hs lst r s' K
  |false=>none
theorem xZ[YL]{P:Program}{T:List Sig}(hT:gJ P T){ld:Bool}{hs:List Hd}{lst:Bool}{r:R}:∀{os:List XRO} {s:XS} {K:XS->Option R},aH9 T ld hs lst os s K=some r->∀{KP:AState->Prop},(∀s',K s'=some r->KP s'.er)->aRk P ld hs lst (os.map XRO.ro) s.er KP
 |[],s,K,h,KP,hK=>hK _ h
 |o::os,s,K,h,KP,hK=>by
  unfold aH9 at h;split at h
  ·rename_i e;split at h
   ·refine⟨aO4 e,aSb h fun s' e2 h=>⟨fun _ _ x hx=>?_,xZ hT h hK⟩⟩;rw[aN,aN,e2];exact keepB.refl _ _
   ·split at h
    ·refine⟨aO4 e,iO (os:=[o]) hT h fun s' h=>?_⟩;obtain⟨e2,h⟩:=aTv h;exact⟨fun _ _=>e2,xZ hT h hK⟩
    ·rename_i hn;refine⟨aO4 e,iO (os:=[o]) hT h fun s' h=>⟨fun e1 e2=>?_,xZ hT h hK⟩⟩;cases e3:aRf lst os with
     |true=>exact absurd e2 (aWi e3)
     |false=>exact absurd e3 (hn e1)
  ·cases h
theorem AV.flat_renE{ψ:Hd->Hd}:∀(a:AV),AV.flat (AV.ren ψ a)=AV.flat a:=by
 intro a;apply AV.rec (motive_1:=fun a=>AV.flat (AV.ren ψ a)=AV.flat a) (motive_2:=fun as=>AV.flatL (AV.renL ψ as)=AV.flatL as)
 all_goals intros
 all_goals simp_all[AV.flat,AV.ren,AV.flatL,AV.renL]
def aDs(T:List Sig)(dr:Bool):List XRO->XS->(XS->Option R)->(Value->XS->Option R)->Option R
 |[],s,K,_=>K s
 |o::r,s,K,Kp=>match o.ro.op with
  |.callP f args=>match o.ro.guard with
   |none=>w1 s f fun vf=>wL s args fun vs=>aN6 T s vs (fun v nbs fz=>match dr,flX v,nbs with
    |false,_,_=>aDs T dr r (s.put o.ro.dst v nbs fz) K Kp
    |true,true,[]=>aDs T dr r (s.put o.ro.dst v nbs fz) K Kp
    |true,_,_=>none) (fun pv=>Kp pv (s.put none .any [] [])) vf
   |some _=>none
  |.pan x=>match o.ro.guard with
   |none=>w1 s x fun v=>match v with
    |.c (.iface t u)=>Kp (.iface t u) s
    |_=>none
   |some _=>none
  |_=>xM T [o] s fun s'=>aDs T dr r s' K Kp
theorem rL[YL]{P:Program}{T:List Sig}(hT:gJ P T){dr:Bool}{r:R}{Pn:Value->AState->Prop}:∀{os:List XRO} {s:XS} {K:XS->Option R} {Kp:Value->XS->Option R},aDs T dr os s K Kp=some r->∀{KP:AState->Prop},(∀s',K s'=some r->KP s'.er)->(∀pv s',Kp pv s'=some r->Pn pv s'.er)->mT P dr (os.map XRO.ro) s.er KP Pn
 |[],s,K,_,h,KP,hK,_=>hK _ h
 |o::os,s,K,Kp,h,KP,hK,hP=>by
  unfold aDs at h;show mT P dr (o.ro::os.map XRO.ro) s.er KP Pn;unfold mT;split at h
  ·rename_i f args e;rw[e];split at h
   ·rename_i hg;refine⟨hg,?_⟩;obtain⟨h,e1⟩:=aM h;obtain⟨vs,h,e2⟩:=aBq h;obtain⟨fn,caps,h1,h2⟩:=aSq hT h (KP:=fun a nbs fz=>(dr=true->AV.flat a=true/\nbs=[])/\mT P dr (os.map XRO.ro) (s.er.put o.ro.dst a nbs fz) KP Pn) fun v nbs fz h=>by
     rw[<-cK];split at h
     ·exact⟨fun h=>cr h,rL hT h hK hP⟩
     ·exact⟨fun _=>⟨(aOq v).trans (by assumption),rfl⟩,rL hT h hK hP⟩
     ·cases h
    refine⟨fn,caps,e1.trans h1,?_⟩;rw[e2];rcases h2 with⟨rr,nbs,h2,h3,h4⟩|⟨pv,h2,h3⟩
    ·exact .inl ⟨rr,nbs,fun hd=>by
      obtain⟨a1,a2⟩:=h3 hd;rw[AV.flat_renE]at a1;exact⟨a1,jq.1 a2⟩,h2,h4⟩
    ·refine .inr ⟨pv,h2,?_⟩;have:=hP _ _ h3;rw[cK]at this;exact this
   ·cases h
  ·rename_i x e;rw[e];split at h
   ·rename_i hg;refine⟨hg,?_⟩;obtain⟨h,e1⟩:=aM h;split at h
    ·rename_i t u hv;rw[hv]at e1;exact⟨t,u,e1,hP _ _ h⟩
    ·cases h
   ·cases h
  ·rename_i n1 n2;split
   ·rename_i f args e;exact absurd e (n1 f args)
   ·rename_i x e;exact absurd e (n2 x)
   ·exact iO (os:=[o]) hT h fun s' h=>rL hT h hK hP
def aP4:List XRO->XS->XS
 |[],s=>s
 |o::os,s=>aP4 os (s.put o.ro.dst .any [] [])
theorem aNc[YL]:∀(os:List XRO) (s:XS),(aP4 os s).er=vP (os.map XRO.ro) s.er
 |[],_=>rfl
 |o::os,s=>by show(aP4 os _).er=vP (os.map XRO.ro) (s.er.put o.ro.dst .any [] []);rw[aNc os,cK];rfl
end
section
variable{R:Type}
end
section
variable{R:Type}
instance rtyDeq:(ts:List Ty)->DecidableEq (rty ts)
 |[]=>inferInstanceAs (DecidableEq Unit)
 |[t]=>t.deq
 |t::t2::ts=>@instDecidableEqProd _ _ t.deq (rtyDeq (t2::ts))
instance rtDeq:(l:List XS)->DecidableEq (RT l)
 |[]=>inferInstanceAs (DecidableEq Unit)
 |[m]=>rtyDeq m.tys
 |m::m2::l=>@instDecidableEqSum _ _ (rtyDeq m.tys) (rtDeq (m2::l))
inductive XC where
 |skip
 |reg (dr:Bool) (os:List XRO)
 |regS (lst:Bool) (os:List XRO)
 |regP (os:List XRO)
 |regDP (os:List XRO)
 |regN (os:List XRO)
 |regM (os:List XRO) (x:MA)
 |seq (a b:XC)
 |join (pure:Bool) (m:XS) (a b:XC)
 |cond (c:Operand) (a b:XC)
 |block (id:Nat) (b:XC)
 |loop (m:XS) (b:XC)
 |exit (id:Nat)
 |scope (b:XC)
 |ret
 |regY (os:List XRO)
 |rangeF (N0:Nat) (g:Operand) (ps:Array Tmp) (ca cb:Code) (f N2:Nat) (a b it:XC)
 |bad (rc:RCode)
def XC.rc:XC->RCode
 |.skip=>.skip
 |.reg dr os=>.reg dr (os.map XRO.ro)
 |.regS lst os=>.regS lst (os.map XRO.ro)
 |.regP os=>.regP (os.map XRO.ro)
 |.regDP os=>.regDP (os.map XRO.ro)
 |.regN os=>.regN (os.map XRO.ro)
 |.regM os x=>.regM (os.map XRO.ro) x
 |.seq a b=>.seq a.rc (.wkr b.rc)
 |.join _ _ a b=>.seq a.rc (.wkr b.rc)
 |.cond c a b=>.cond c a.rc b.rc
 |.block id b=>.block id b.rc
 |.loop _ b=>.loop b.rc
 |.exit id=>.exit id
 |.scope b=>.scope b.rc
 |.ret=>.ret
 |.regY os=>.regY (os.map XRO.ro)
 |.rangeF N0 g ps ca cb _ _ _ _ _=>.sem N0 (.rangeFunc g ps ca cb)
 |.bad rc=>rc
def XC.Wf(P:Program):XC->Prop
 |.seq a b=>a.Wf P/\b.Wf P
 |.join _ _ a b=>a.Wf P/\b.Wf P
 |.cond _ a b=>a.Wf P/\b.Wf P
 |.block _ b=>b.Wf P
 |.loop _ b=>b.Wf P
 |.scope b=>b.Wf P
 | .rangeF N0 g _ ca cb f N2 a b it => (∃ fl flB fn c2, P.funcs[f]? = some fn /\ fn.body = some c2 /\ (fn.name == "runtime.NumGoroutine") = false /\ P.follows .mixedOrders = true /\ aE P fl N2 c2 = some it.rc /\ aE P flB N0 ca = some a.rc /\ aE P flB N0 cb = some b.rc /\
   fn.results=#[]/\g.inN N0=true/\fn.ntmps=N2)/\a.Wf P/\b.Wf P/\it.Wf P
 |_=>True
def aRx(f:XS->Option R)(K:Exit->XS->Option R):Exit->XS->Option R
 |.normal,s=>f s
 |e,s=>K e s
def aOv(id:Nat)(K:Exit->XS->Option R):Exit->XS->Option R
 |.exit i,s=>match au i id with
  |true=>K .normal s
  |false=>K (.exit i) s
 |e,s=>K e s
def aW1(K:Exit->XS->Option R):Exit->XS->Option R
 |.goto _,_=>none
 |e,s=>K e s
def jE{α β:Type}(a:Option β):Option (β⊕α):=match a with
 |some r=>some (.inl r)
 |none=>none
def jn?{α β:Type}(a:Option (β⊕α))(f:α->Option β):Option β:=match a with
 |some (.inl r)=>some r
 |some (.inr x)=>f x
 |none=>none
theorem bAa{β:Type}{a:Option β}{r:β⊕α}(h:jE a=some r):∃x,a=some x/\r=.inl x:=by
 unfold jE at h;split at h
 ·cases h;exact⟨_,rfl,rfl⟩
 ·cases h
theorem bG7{β:Type}{a:Option (β⊕α)}{f:α->Option β}{r:β}(h:jn? a f=some r):a=some (.inl r)\/∃x,a=some (.inr x)/\f x=some r:=by
 unfold jn? at h;split at h
 ·cases h;exact .inl rfl
 ·exact .inr ⟨_,rfl,h⟩
 ·cases h
def bBc(m:XS)(K:Exit->XS->Option R):Exit->XS->Option (R⊕rty m.tys)
 |.normal,s=>rd m s fun v=>some (.inr (toR m.tys v))
 |e,s=>jE (K e s)
def aWr(m:XS):Exit->XS->Option (rty m.tys)
 |.normal,s=>rd m s fun v=>some (toR m.tys v)
 |_,_=>none
def bCd(s:XS)(c:Operand)(q:Bool):XS:=match c with
 |.tmp t=>lQ s t q
 |_=>s
def aZ(ts:List Ty)(f:fty ts R->fty ts R):Nat->fty ts R
 |0=>cuN ts
 |n+1=>f (aZ ts f n)
where cuN (ts:List Ty):fty ts R:=cuF ts fun _=>none
theorem bCn(ts:List Ty)(v:tup ts):apF ts (aZ.cuN (R:=R) ts) v=none:=by show apF ts (cuF ts _) v=none;rw[cF]
structure YX where
 plain:Bool
 f:{R:Type}->[DecidableEq R]->List XV->XS->(Bool->XS->Option R)->Option R
def noX:YX:=⟨true,fun _ _ _=>none⟩
def oL:YX:=⟨false,fun _ _ _=>none⟩
def aU2(s:XS)(o:XRO):Option (List XV):=match o.ro.op with
 |.callE f args=>match s.ev f with
  |.yld=>some (args.map s.ev)
  |_=>none
 |_=>none
def rD[DecidableEq R](T:List Sig)(Y:YX):List XRO->XS->(XS->Option R)->Option R
 |[],s,K=>K s
 |o::r,s,K=>match aU2 s o with
  |none=>xM T [o] s fun s'=>rD T Y r s' K
  |some args=>match o.ro.guard with
   |none=>Y.f args s fun c s'=>rD T Y r (s'.put o.ro.dst (.d .b c) [] []) K
   |some (t,want)=>match cA s.env t with
    |.d .b x=>match want with
     |true=>if? x (Y.f args s fun c s'=>rD T Y r (s'.put o.ro.dst (.d .b c) [] []) K) (rD T Y r (s.put o.ro.dst .un [] []) K)
     |false=>if? x (rD T Y r (s.put o.ro.dst .un [] []) K) (Y.f args s fun c s'=>rD T Y r (s'.put o.ro.dst (.d .b c) [] []) K)
    |.un=>rD T Y r (s.put o.ro.dst .un [] []) K
    |_=>none
mutual
def XV.cln:XV->Bool
 |.yld=>false
 |.agg cs=>XV.clnL cs
 |.tup cs=>XV.clnL cs
 |.clo _ cs=>XV.clnL cs
 |_=>true
def XV.clnL:List XV->Bool
 |[]=>true
 |v::r=>v.cln&&XV.clnL r
end
def XB.cln:XB->Bool
 |.box cs=>XV.clnL cs
 |_=>true
def bF3:List (Nat×XV)->Bool
 |[]=>true
 |(_,v)::r=>v.cln&&bF3 r
def aYi:List (Option XB)->Bool
 |[]=>true
 |none::r=>aYi r
 |some b::r=>b.cln&&aYi r
def XS.cln(s:XS):Bool:=bF3 s.env&&aYi s.bs&&aYi s.own
def bEa(n:Nat):List (Nat×XV)->List (Nat×XV)
 |[]=>[]
 |(k,v)::r=>match j9 n k with
  |true=>(k-n,v)::bEa n r
  |false=>bEa n r
def ltE(n:Nat):List (Nat×XV)->List (Nat×XV)
 |[]=>[]
 |(k,v)::r=>match Nat.blt k n with
  |true=>(k,v)::ltE n r
  |false=>ltE n r
def noE(n:Nat):List (Nat×XV)->List (Nat×XV)
 |[]=>[]
 |(k,v)::r=>match au k n with
  |true=>noE n r
  |false=>(k,v)::noE n r
def aJt(N0 N2:Nat)(s:XS):XS:={s with env:=noE N0 (bEa (N2+1) s.env)}
def bHl(N0 N2:Nat)(K:Exit->XS->Option R)(s:XS):Option R:=match(aJt N0 N2 s).cln,cA s.env N2 with
 |true,.gst .go=>K .normal (aJt N0 N2 s)
 |true,.gst (.exit id)=>K (.exit id) (aJt N0 N2 s)
 |true,.gst .ret=>K .ret (aJt N0 N2 s)
 |_,_=>none
def dT(N:Nat)(T:List Sig):XC->YX->{R:Type}->[DecidableEq R]->XS->(Exit->XS->Option R)->Option R
 |.skip,_,_,_,s,K=>K .normal s
 |.reg _ os,_,_,_,s,K=>xM T os s (K .normal)
 |.regP os,_,_,_,s,K=>aDs T false os s (K .normal) fun v s'=>K (.panic [{v:=v,recovered:=false}]) s'
 |.regDP os,_,_,_,s,K=>aDs T true os s (K .normal) fun v s'=>K (.panic [{v:=v,recovered:=false}]) (aP4 os s')
 |.regS lst os,_,_,_,s,K=>aH9 T (aTb (os.map XRO.ro)) (sO s os) lst os s (K .normal)
 |.regN _,_,_,_,_,_=>none
 |.regM _ _,_,_,_,_,_=>none
 |.regY os,Y,_,_,s,K=>rD T Y os s (K .normal)
 |.rangeF ..,_,_,_,_,_=>none
 |.seq a b,Y,_,_,s,K=>dT N T a Y s (aRx (fun s'=>dT N T b Y s' K) K)
 |.join true m a b,Y,_,_,s,K=>bd? (dT N T a Y (R:=rty m.tys) s (aWr m)) fun v=>dT N T b Y (m.fill (ofR m.tys v)) K
 |.join false m a b,Y,R,_,s,K=>jn? (dT N T a Y (R:=R⊕rty m.tys) s (bBc m K)) fun v=>dT N T b Y (m.fill (ofR m.tys v)) K
 |.cond c a b,Y,_,_,s,K=>w1 s c fun v=>match v with
  |.d .b x=>if? x (dT N T a Y (bCd s c true) K) (dT N T b Y (bCd s c false) K)
  |.ab=>ab? (dT N T a Y s K) (dT N T b Y s K)
  |_=>none
 |.block id b,Y,_,_,s,K=>dT N T b Y s (aOv id K)
 |.loop m b,Y,_,_,s,K=>rd m s fun v=>apF m.tys (aZ m.tys (fun rec=>cuF m.tys fun v=>dT N T b Y (m.fill v) (aRx (fun s'=>rd m s' (apF m.tys rec)) K)) N) v
 |.exit id,_,_,_,s,K=>K (.exit id) s
 |.scope b,Y,_,_,s,K=>dT N T b Y s (aW1 K)
 |.ret,_,_,_,s,K=>K .ret s
 |.bad _,_,_,_,_,_=>none
theorem aQ3[YL]{c:Operand}{x:Bool}(h:s.ev c=.d .b x)(e:x=q):(bCd s c q).er=s.er:=by
 cases c with
 |tmp t=>exact gT h e
 |_=>rfl
theorem bCa[YL]{l:Nat}(h:v.er=.yld l):v=.yld:=by
 cases v with
 |yld=>rfl
 |d t x=>exfalso;cases t<;>cases h
 |_=>exfalso;cases h
theorem bCr[YL]{o:XRO}{args:List XV}(h:aU2 s o=some args):yst s.er o.ro=some (YL.l,XV.erL args):=by
 unfold aU2 at h;unfold yst;split at h
 ·rename_i f as e;rw[e];show(match s.er.ev f with|.yld l=>some (l,as.map s.er.ev)|_=>none)=_;split at h
  ·rename_i e2;cases h;have:s.er.ev f=.yld YL.l:=by rw[aBr s rfl,e2];rfl
   rw[this];show some (YL.l,as.map s.er.ev)=_;congr 2
   induction as with
   |nil=>rfl
   |cons a as ih=>
    show s.er.ev a::as.map s.er.ev=(s.ev a).er::XV.erL (as.map s.ev);rw[aBr s rfl];congr 1;clear e ih this
    induction as with
    |nil=>rfl
    |cons b as ih=>
     show s.er.ev b::as.map s.er.ev=(s.ev b).er::XV.erL (as.map s.ev);rw[aBr s rfl,ih]
  ·cases h
 ·cases h
theorem bCf[YL]{o:XRO}(h:aU2 s o=none):yst s.er o.ro=none:=by
 unfold aU2 at h;unfold yst;split
 ·rename_i f as e;rw[e]at h;simp only at h;split
  ·rename_i l e2;rw[aBr s rfl]at e2;rw[bCa e2]at h;cases h
  ·rfl
 ·rfl
def YRel[YL](Yx:YX)(Y:Yh):Prop:=(Yx.plain=true->Y.plain=true)/\∀{R:Type} [DecidableEq R] {r:R} {args:List XV} {s:XS} {K:Bool->XS->Option R},Yx.f args s K=some r->∀{KP:Bool->AState->Prop},(∀c s',K c s'=some r->KP c s'.er)->Y.f YL.l (XV.erL args) s.er KP
theorem YRel.no[YL]:YRel noX noY:=⟨fun h=>h,fun h=>by cases h⟩
theorem YRel.body[YL]:YRel oL iC:=⟨fun h=>h,fun h=>by cases h⟩
theorem xC[YL]{P:Program}{T:List Sig}(hT:gJ P T){Yx:YX}{Y:Yh}(hY:YRel Yx Y)[DecidableEq R]{r:R}:∀{os:List XRO} {s:XS} {K:XS->Option R},rD T Yx os s K=some r->∀{KP:AState->Prop},(∀s',K s'=some r->KP s'.er)->mS P Y (os.map XRO.ro) s.er KP
 |[],s,K,h,KP,hK=>hK _ h
 |o::os,s,K,h,KP,hK=>by
  unfold rD at h;show mS P Y (o.ro::os.map XRO.ro) s.er KP;unfold mS;split at h
  ·rename_i e;rw[bCf e];exact iO (os:=[o]) hT h fun s' h=>xC hT hY h hK
  ·rename_i args e;rw[bCr e];have go:∀{h0:Unit},(Yx.f args s fun c s'=>rD T Yx os (s'.put o.ro.dst (.d .b c) [] []) K)=some r->Y.f YL.l (XV.erL args) s.er fun c s'=>mS P Y (os.map XRO.ro) (s'.put o.ro.dst (.D (.B c)) [] []) KP:=fun h=>hY.2 h fun c s' h=>by have:=xC hT hY h hK;rw[cK]at this;exact this
   have un:∀{h0:Unit},rD T Yx os (s.put o.ro.dst .un [] []) K=some r->mS P Y (os.map XRO.ro) (s.er.put o.ro.dst .un [] []) KP:=fun h=>by have:=xC hT hY h hK;rw[cK]at this;exact this
   simp only;split at h
   ·rename_i hg;rw[hg];exact go (h0:=()) h
   ·rename_i t want hg;rw[hg];simp only;split at h
    ·rename_i x hx;have ht:s.er.env t=.D (.B x):=by show(cA s.env t).er=_;rw[hx];rfl
     rw[ht];split at h
     ·rcases aJu h with⟨e,h⟩|⟨e,h⟩
      ·exact⟨fun _=>go (h0:=()) h,fun h=>absurd e h⟩
      ·exact⟨fun h=>cr (e.symm.trans h),fun _=>un (h0:=()) h⟩
     ·rcases aJu h with⟨e,h⟩|⟨e,h⟩
      ·exact⟨fun h=>cr (e.symm.trans h),fun _=>un (h0:=()) h⟩
      ·exact⟨fun _=>go (h0:=()) h,fun h=>absurd e h⟩
    ·rename_i hx;have ht:s.er.env t=.D (.C (.tuple #[])):=by show(cA s.env t).er=_;rw[hx];rfl
     rw[ht];exact un (h0:=()) h
    ·cases h
def bDy(P:Program)(N:Nat)(T:List Sig)(c:XC):Prop:=∀(y:YL) (Yx:YX) (Y:Yh),YRel Yx Y->∀{R:Type} [DecidableEq R] {r:R} {s:XS} {K:Exit->XS->Option R},dT N T c Yx s K=some r->∀{Q:Exit->AState->Prop},(∀e s',K e s'=some r->Q e s'.er)->dK P Y c.rc Q s.er
theorem bM{P:Program}{N:Nat}{T:List Sig}(hT:gJ P T):∀{c:XC},c.Wf P->bDy P N T c
 |.skip,hw,y,Yx,Y,hY,R,_,r,s,K,h,Q,hK=>hK _ _ h
 |.reg _ os,hw,y,Yx,Y,hY,R,_,r,s,K,h,Q,hK=>iO hT h (KP:=Q .normal) fun s' h=>hK _ _ h
 |.regP os,hw,y,Yx,Y,hY,R,_,r,s,K,h,Q,hK=>rL hT h (KP:=Q .normal) (fun s' h=>hK _ _ h) fun v s' h=>hK _ _ h
 | .regDP os,hw,y,Yx,Y,hY,R,_,r,s,K,h,Q,hK=>rL hT h (KP:=Q .normal) (fun s' h=>hK _ _ h) fun v s' h=>by
   have:=hK _ _ h;rw[aNc]at this;exact this
 |.regN os,hw,y,Yx,Y,hY,R,_,r,s,K,h,Q,hK=>by cases h
 |.regM os x,hw,y,Yx,Y,hY,R,_,r,s,K,h,Q,hK=>by cases h
 |.regS _ os,hw,y,Yx,Y,hY,R,_,r,s,K,h,Q,hK=>⟨sO s os,xZ hT h (KP:=Q .normal) fun s' h=>hK _ _ h⟩
 |.regY os,hw,y,Yx,Y,hY,R,_,r,s,K,h,Q,hK=>xC hT hY h (KP:=Q .normal) fun s' h=>hK _ _ h
 |.rangeF ..,hw,y,Yx,Y,hY,R,_,r,s,K,h,Q,hK=>by cases h
 |.seq a b,hw,y,Yx,Y,hY,R,_,r,s,K,h,Q,hK=>by
  refine bM hT (c:=a) hw.1 y Yx Y hY h (Q:=rV (dK P Y (.wkr b.rc) Q) Q) fun e s' h=>?_;cases e with
  |normal=>exact⟨s'.er,Wk.refl _,bM hT (c:=b) hw.2 y Yx Y hY h hK⟩
  |_=>exact hK _ _ h
 |.join true m a b,hw,y,Yx,Y,hY,R,_,r,s,K,h,Q,hK=>by
  obtain⟨x,h1,h2⟩:=bD0 (show bd? (dT N T a Yx (R:=rty m.tys) s (aWr m)) (fun v=>dT N T b Yx (m.fill (ofR m.tys v)) K)=some r from h);refine bM hT (c:=a) hw.1 y Yx Y hY h1 (Q:=rV (dK P Y (.wkr b.rc) Q) Q) fun e s' h=>?_;cases e with
  |normal=>
   obtain⟨v,hv,hw'⟩:=aK9 (show rd m s' _=some x from h);cases hv;rw[qR]at h2;exact⟨_,hw',bM hT (c:=b) hw.2 y Yx Y hY h2 hK⟩
  |_=>cases h
 |.join false m a b,hw,y,Yx,Y,hY,R,_,r,s,K,h,Q,hK=>by
  rcases bG7 (show jn? (dT N T a Yx (R:=R⊕rty m.tys) s (bBc m K)) (fun v=>dT N T b Yx (m.fill (ofR m.tys v)) K)=some r from h)with h1|⟨x,h1,h2⟩
  ·refine bM hT (c:=a) hw.1 y Yx Y hY h1 (Q:=rV (dK P Y (.wkr b.rc) Q) Q) fun e s' h=>?_;cases e with
   |normal=>
    obtain⟨v,hv,_⟩:=aK9 (show rd m s' _=_ from h);cases hv
   |_=>
    obtain⟨y,hy,e⟩:=bAa (show jE _=_ from h);cases e;exact hK _ _ hy
  ·refine bM hT (c:=a) hw.1 y Yx Y hY h1 (Q:=rV (dK P Y (.wkr b.rc) Q) Q) fun e s' h=>?_;cases e with
   |normal=>
    obtain⟨v,hv,hw'⟩:=aK9 (show rd m s' _=_ from h);cases hv;rw[qR]at h2;exact⟨_,hw',bM hT (c:=b) hw.2 y Yx Y hY h2 hK⟩
   |_=>
    obtain⟨y,hy,e⟩:=bAa (show jE _=_ from h);cases e
 |.cond c a b,hw,y,Yx,Y,hY,R,_,r,s,K,h,Q,hK=>by
  obtain⟨h,e1⟩:=aM (show w1 s c _=some r from h);show aQl (dK P Y a.rc Q s.er) (dK P Y b.rc Q s.er) (s.er.ev c);rw[e1];split at h
  ·rename_i x hx;rw[hx];rcases aJu h with⟨e,h⟩|⟨e,h⟩
   ·have:=bM hT (c:=a) hw.1 y Yx Y hY h hK;rw[aQ3 hx e]at this;exact⟨fun _=>this,fun h=>cr (e.symm.trans h)⟩
   ·have:=bM hT (c:=b) hw.2 y Yx Y hY h hK;rw[aQ3 hx e]at this;exact⟨fun h=>cr (e.symm.trans h),fun _=>this⟩
  ·rename_i hx;rw[hx];obtain⟨h1,h2⟩:=bGz h;exact⟨bM hT (c:=a) hw.1 y Yx Y hY h1 hK,bM hT (c:=b) hw.2 y Yx Y hY h2 hK⟩
  ·cases h
 |.block id b,hw,y,Yx,Y,hY,R,_,r,s,K,h,Q,hK=>by
  refine bM hT (c:=b) hw y Yx Y hY (show dT N T b Yx s (aOv id K)=some r from h) (Q:=aJ9 id Q) fun e s' h=>?_;cases e with
  |exit i=>
   unfold aOv at h;simp only at h;show if i=id then Q .normal s'.er else Q (.exit i) s'.er
   split at h
   ·rename_i hb;rw[if_pos (η hb)];exact hK _ _ h
   ·rename_i hb;rw[if_neg (fun e=>by rw[e]at hb;simp at hb)];exact hK _ _ h
  |_=>exact hK _ _ h
 |.loop m b,hw,y,Yx,Y,hY,R,_,r,s,K,h,Q,hK=>by
  obtain⟨v0,h,hw'⟩:=aK9 (show rd m s _=some r from h);refine .inl ⟨fun n s1=>∃v,apF m.tys (aZ m.tys (fun rec=>cuF m.tys fun v=>dT N T b Yx (m.fill v) (aRx (fun s'=>rd m s' (apF m.tys rec)) K)) n) v=some r/\s1=(m.fill v).er,N,_,hw',⟨v0,h,rfl⟩,?_⟩;rintro n s1 ⟨v,hv,rfl⟩;cases n with
  |zero=>rw[show aZ m.tys _ 0=aZ.cuN m.tys from rfl,bCn]at hv;cases hv
  |succ n=>
   rw[show aZ m.tys _ (n+1)=cuF m.tys _ from rfl,cF]at hv;refine bM hT (c:=b) hw y Yx Y hY hv (Q:=rV _ Q) fun e s' h=>?_;cases e with
   |normal=>
    obtain⟨v',h,hw'⟩:=aK9 (show rd m s' _=some r from h);exact⟨n,_,Nat.lt_succ_self n,hw',v',h,rfl⟩
   |_=>exact hK _ _ h
 |.exit id,hw,y,Yx,Y,hY,R,_,r,s,K,h,Q,hK=>hK _ _ h
 |.scope b,hw,y,Yx,Y,hY,R,_,r,s,K,h,Q,hK=>by
  refine bM hT (c:=b) hw y Yx Y hY (show dT N T b Yx s (aW1 K)=some r from h) (Q:=aPo Q) fun e s' h=>?_;cases e with
  |goto _=>cases h
  |_=>exact hK _ _ h
 |.ret,hw,y,Yx,Y,hY,R,_,r,s,K,h,Q,hK=>hK _ _ h
 |.bad _,hw,y,Yx,Y,hY,R,_,r,s,K,h,Q,hK=>by cases h
def rK:List RO->List (Option Ty)->List XRO
 |[],_=>[]
 |ro::r,[]=>⟨ro,none⟩::rK r []
 |ro::r,t::ts=>⟨ro,t⟩::rK r ts
theorem kX:∀(r:List RO) (ts:List (Option Ty)),(rK r ts).map XRO.ro=r
 |[],_=>rfl
 |ro::r,[]=>congrArg (ro::·) (kX r [])
 |ro::r,_::ts=>congrArg (ro::·) (kX r ts)
def pTy:List Ty->Ty
 |[]=>.u
 |[t]=>t
 |t::r=>.p t (pTy r)
def bEz(f:TypeId->Option Ty):List TypeId->Option (List Ty)
 |[]=>some []
 |t::r=>match f t,bEz f r with
  |some a,some l=>some (a::l)
  |_,_=>none
def aL8(P:Program):Nat->TypeId->Option Ty
 |0,_=>none
 |n+1,t=>match P.underlying t with
  |some (.int k)=>some (.i k)
  |some .bool=>some .b
  |some .string=>some .s
  |some (.slice e)=>(aL8 P n e).map .sl
  |some (.array len e)=>match aL8 P n e with
   |some (.i k)=>some (.ar len k)
   |some (.ar m k)=>some (.ar (len*m) k)
   |some t=>some (.w (pTy (bn len t)))
   |none=>none
  |some (.struct fs)=>(bEz (aL8 P n) (fs.toList.map (·.type))).map fun l=>.w (pTy l)
  |_=>none
def sK(P:Program)(o:Oper):Option Ty:=match o.op with
 |.alloc T=>aL8 P 20 T
 |.box T _=>aL8 P 20 T
 |.makeMap T _=>match P.underlying T with
  |some (.map k e)=>match aL8 P 20 k,aL8 P 20 e with
   |some k,some (.sl t)=>some (.p k (.o t))
   |some k,some t=>some (.p k t)
   |_,_=>none
  |_=>none
 |_=>aL8 P 20 o.type
structure Ann where
 at_:Nat
 pure:Bool
 m:XS
def aLs:List Ann->Nat->Option Ann
 |[],_=>none
 |a::r,n=>match au a.at_ n with
  |true=>some a
  |false=>aLs r n
def XC.cnt:XC->Nat
 |.seq a b=>a.cnt+b.cnt+1
 |.join _ _ a b=>a.cnt+b.cnt+1
 |.cond _ a b=>a.cnt+b.cnt
 |.block _ b=>b.cnt
 |.loop _ b=>b.cnt+1
 |.scope b=>b.cnt
 |.bad _=>1
 |_=>0
def xs0:XS:=⟨[],[],[]⟩
def bDc(P:Program)(d:Nat):List Oper->Option Ty
 |[]=>none
 |o::r=>match o.dst with
  |some d'=>match au d' d with
   |true=>sK P o
   |false=>bDc P d r
  |none=>bDc P d r
def bF4(P:Program)(ops:List Oper):List RO->List (Option Ty)
 |[]=>[]
 |ro::r=>(match ro.dst with
  |some d=>bDc P d ops
  |none=>none)::bF4 P ops r
def jD(P:Program):Code->RCode->XC
 |.skip,.skip=>.skip
 |.region _ ops _,.reg dr ros=>.reg dr (rK ros (ops.toList.map (sK P)))
 |.region _ ops _,.regP ros=>.regP (rK ros (ops.toList.map (sK P)))
 |.region _ ops _,.regDP ros=>.regDP (rK ros (bF4 P ops.toList ros))
 |.region _ ops _,.regS lst ros=>.regS lst (rK ros (ops.toList.map (sK P)))
 |.region _ ops _,.regN ros=>.regN (rK ros (ops.toList.map (sK P)))
 |.region _ ops _,.regY ros=>.regY (rK ros (ops.toList.map (sK P)))
 |.region _ ops _,.regM ros x=>.regM (rK ros (ops.toList.map (sK P))) x
 |.seq a b,.seq x (.wkr y)=>.seq (jD P a x) (jD P b y)
 |.cond _ a b,.cond c x y=>.cond c (jD P a x) (jD P b y)
 |.block _ b,.block id x=>.block id (jD P b x)
 |.loop b,.loop x=>.loop xs0 (jD P b x)
 |.exit _,.exit id=>.exit id
 |.scope b,.scope x=>.scope (jD P b x)
 |.ret,.ret=>.ret
 |_,.skip=>.skip
 |_,rc=>.bad rc
theorem aC4(P:Program):∀(c:Code) (rc:RCode),(jD P c rc).rc=rc:=by
 intro c
 induction c with
 |seq a b ih1 ih2=>
  intro rc;unfold jD;split<;>first
   |rfl
   |(rename_i e;cases e;show RCode.seq (jD P _ _).rc (.wkr (jD P _ _).rc)=_;rw[ih1,ih2];done)
   |(rename_i e;cases e;done)
   |(rename_i e _;cases e;done)
 |cond c0 a b ih1 ih2=>
  intro rc;unfold jD;split<;>first
   |rfl
   |(rename_i e;cases e;show RCode.cond _ (jD P _ _).rc (jD P _ _).rc=_;rw[ih1,ih2];done)
   |(rename_i e;cases e;done)
   |(rename_i e _;cases e;done)
 |block id b ih=>
  intro rc;unfold jD;split<;>first
   |rfl
   |(rename_i e;cases e;show RCode.block _ (jD P _ _).rc=_;rw[ih];done)
   |(rename_i e;cases e;done)
   |(rename_i e _;cases e;done)
 |loop b ih=>
  intro rc;unfold jD;split<;>first
   |rfl
   |(rename_i e;cases e;show RCode.loop (jD P _ _).rc=_;rw[ih];done)
   |(rename_i e;cases e;done)
   |(rename_i e _;cases e;done)
 |scope b ih=>
  intro rc;unfold jD;split<;>first
   |rfl
   |(rename_i e;cases e;show RCode.scope (jD P _ _).rc=_;rw[ih];done)
   |(rename_i e;cases e;done)
   |(rename_i e _;cases e;done)
 |region id ops dr=>
  intro rc;cases rc<;>first|rfl|(show RCode.reg _ ((rK _ _).map XRO.ro)=_;rw[kX];done)|(show RCode.regP ((rK _ _).map XRO.ro)=_;rw[kX];done)|(show RCode.regDP ((rK _ _).map XRO.ro)=_;rw[kX];done)|(show RCode.regS _ ((rK _ _).map XRO.ro)=_;rw[kX];done)|(show RCode.regN ((rK _ _).map XRO.ro)=_;rw[kX];done)|(show RCode.regY ((rK _ _).map XRO.ro)=_;rw[kX];done)|(show RCode.regM ((rK _ _).map XRO.ro) _=_;rw[kX];done)
 |_=>intro rc;cases rc<;>rfl
def jM(A:List Ann):Nat->XC->XC
 |n,.seq a b=>match aLs A n with
  |some x=>.join x.pure x.m (jM A (n+1) a) (jM A (n+1+a.cnt) b)
  |none=>.seq (jM A (n+1) a) (jM A (n+1+a.cnt) b)
 |n,.cond c a b=>.cond c (jM A n a) (jM A (n+a.cnt) b)
 |n,.block id b=>.block id (jM A n b)
 |n,.loop m b=>match aLs A n with
  |some x=>.loop x.m (jM A (n+1) b)
  |none=>.loop m (jM A (n+1) b)
 |n,.scope b=>.scope (jM A n b)
 |_,c=>c
theorem gO(A:List Ann):∀(c:XC) (n:Nat),(jM A n c).rc=c.rc
 |.seq a b,n=>by
  unfold jM;split
  ·show RCode.seq (jM A _ a).rc (.wkr (jM A _ b).rc)=_;rw[gO A a,gO A b];rfl
  ·show RCode.seq (jM A _ a).rc (.wkr (jM A _ b).rc)=_;rw[gO A a,gO A b];rfl
 |.cond c a b,n=>by show RCode.cond c (jM A _ a).rc (jM A _ b).rc=_;rw[gO A a,gO A b];rfl
 |.block id b,n=>by show RCode.block id (jM A _ b).rc=_;rw[gO A b];rfl
 |.loop m b,n=>by
  unfold jM;split
  ·show RCode.loop (jM A _ b).rc=_;rw[gO A b];rfl
  ·show RCode.loop (jM A _ b).rc=_;rw[gO A b];rfl
 |.scope b,n=>by show RCode.scope (jM A _ b).rc=_;rw[gO A b];rfl
 |.join _ _ _ _,_=>rfl
 |.skip,_=>rfl
 |.reg _ _,_=>rfl
 |.regS _ _,_=>rfl
 |.regP _,_=>rfl
 |.regDP _,_=>rfl
 |.regN _,_=>rfl
 |.regY _,_=>rfl
 |.regM _ _,_=>rfl
 |.rangeF ..,_=>rfl
 |.exit _,_=>rfl
 |.ret,_=>rfl
 |.bad _,_=>rfl
theorem xX(P:Program):∀(c:Code) (rc:RCode),(jD P c rc).Wf P:=by
 intro c
 induction c with
 |seq a b ih1 ih2=>
  intro rc;unfold jD;split<;>first
   |trivial
   |(rename_i e;cases e;exact⟨ih1 _,ih2 _⟩)
   |(rename_i e;cases e;done)
   |(rename_i e _;cases e;done)
 |cond c0 a b ih1 ih2=>
  intro rc;unfold jD;split<;>first
   |trivial
   |(rename_i e;cases e;exact⟨ih1 _,ih2 _⟩)
   |(rename_i e;cases e;done)
   |(rename_i e _;cases e;done)
 |block id b ih=>
  intro rc;unfold jD;split<;>first
   |trivial
   |(rename_i e;cases e;exact ih _)
   |(rename_i e;cases e;done)
   |(rename_i e _;cases e;done)
 |loop b ih=>
  intro rc;unfold jD;split<;>first
   |trivial
   |(rename_i e;cases e;exact ih _)
   |(rename_i e;cases e;done)
   |(rename_i e _;cases e;done)
 |scope b ih=>
  intro rc;unfold jD;split<;>first
   |trivial
   |(rename_i e;cases e;exact ih _)
   |(rename_i e;cases e;done)
   |(rename_i e _;cases e;done)
 |_=>intro rc;cases rc<;>trivial
theorem gQ(P:Program)(A:List Ann):∀(c:XC) (n:Nat),c.Wf P->(jM A n c).Wf P
 |.seq a b,n,h=>by
  unfold jM;split
  ·exact⟨gQ P A a _ h.1,gQ P A b _ h.2⟩
  ·exact⟨gQ P A a _ h.1,gQ P A b _ h.2⟩
 |.cond c a b,n,h=>⟨gQ P A a _ h.1,gQ P A b _ h.2⟩
 |.block id b,n,h=>gQ P A b n h
 |.loop m b,n,h=>by
  unfold jM;split
  ·exact gQ P A b (n+1) h
  ·exact gQ P A b (n+1) h
 |.scope b,n,h=>gQ P A b n h
 |.join _ _ _ _,_,h=>h
 |.skip,_,h=>h
 |.reg _ _,_,h=>h
 |.regS _ _,_,h=>h
 |.regP _,_,h=>h
 |.regDP _,_,h=>h
 |.regN _,_,h=>h
 |.regY _,_,h=>h
 |.regM _ _,_,h=>h
 |.rangeF ..,_,h=>h
 |.exit _,_,h=>h
 |.ret,_,h=>h
 |.bad _,_,h=>h
def bEh:List (Nat×Nat×List Nat)->Nat->Option (Nat×List Nat)
 |[],_=>none
 |(p,f)::r,n=>match au p n with
  |true=>some f
  |false=>bEh r n
def bE5(P:Program)(fn:Func)(g:Operand)(N0:Nat):Bool:= !(fn.name== "runtime.NumGoroutine")&&P.follows .mixedOrders&&au fn.results.size 0&&g.inN N0
def aZ4(P:Program)(fl:List Nat)(A:List Ann)(n N0:Nat)(g:Operand)(ps:Array Tmp)(ca cb:Code)(f:Nat)(fl2:List Nat)(rc:RCode):XC:=match P.funcs[f]?with
 |some fn=>match fn.body with
  |some c2=>match aE P fl2 fn.ntmps c2,aE P fl N0 ca,aE P fl N0 cb,bE5 P fn g N0 with
   |some it,some a,some b,true=>.rangeF N0 g ps ca cb f fn.ntmps (jM A (100000*(n+1)+30000) (jD P ca a)) (jM A (100000*(n+1)+60000) (jD P cb b)) (jM A (100000*(n+1)) (jD P c2 it))
   |_,_,_,_=>.bad rc
  |none=>.bad rc
 |none=>.bad rc
def aXe(P:Program)(fl:List Nat)(A:List Ann)(n:Nat)(q:Option (Nat×List Nat))(rc:RCode):XC:=match rc,q with
 |.sem N0 (.rangeFunc g ps ca cb),some (f,fl2)=>aZ4 P fl A n N0 g ps ca cb f fl2 rc
 |rc,_=>.bad rc
theorem aZb(P:Program)(fl:List Nat)(A:List Ann)(n:Nat)(q:Option (Nat×List Nat))(rc:RCode):(aXe P fl A n q rc).rc=rc/\(aXe P fl A n q rc).Wf P:=by
 unfold aXe;split
 case h_2=>exact⟨rfl,trivial⟩
 unfold aZ4;split
 case h_2=>exact⟨rfl,trivial⟩
 rename_i fn hf;split
 case h_2=>exact⟨rfl,trivial⟩
 rename_i c2 hc;split
 case h_2=>exact⟨rfl,trivial⟩
 rename_i it a b h1 h2 h3 h4;refine⟨rfl,⟨_,fl,fn,c2,hf,hc,?_,?_,by rw[gO,aC4];exact h1,by rw[gO,aC4];exact h2,by rw[gO,aC4];exact h3,?_,?_,rfl⟩,gQ P A _ _ (xX P _ _),gQ P A _ _ (xX P _ _),gQ P A _ _ (xX P _ _)⟩<;>unfold bE5 at h4<;>simp only[ν,cz]at h4
 ·exact h4.1.1.1
 ·exact h4.1.1.2
 ·exact Array.eq_empty_of_size_eq_zero (η h4.1.2)
 ·exact h4.2
def wJ(P:Program)(fl:List Nat)(F:List (Nat×Nat×List Nat))(A:List Ann):Nat->XC->XC
 |n,.seq a b=>match aLs A n with
  |some x=>.join x.pure x.m (wJ P fl F A (n+1) a) (wJ P fl F A (n+1+a.cnt) b)
  |none=>.seq (wJ P fl F A (n+1) a) (wJ P fl F A (n+1+a.cnt) b)
 |n,.cond c a b=>.cond c (wJ P fl F A n a) (wJ P fl F A (n+a.cnt) b)
 |n,.block id b=>.block id (wJ P fl F A n b)
 |n,.loop m b=>match aLs A n with
  |some x=>.loop x.m (wJ P fl F A (n+1) b)
  |none=>.loop m (wJ P fl F A (n+1) b)
 |n,.scope b=>.scope (wJ P fl F A n b)
 |n,.bad rc=>aXe P fl A n (bEh F n) rc
 |_,c=>c
theorem mG(P:Program)(fl:List Nat)(F:List (Nat×Nat×List Nat))(A:List Ann):∀(c:XC) (n:Nat),c.Wf P->(wJ P fl F A n c).rc=c.rc/\(wJ P fl F A n c).Wf P
 |.seq a b,n,h=>by
  have h1:=mG P fl F A a (n+1) h.1;have h2:=mG P fl F A b (n+1+a.cnt) h.2;unfold wJ;split
  ·exact⟨by show RCode.seq _ (.wkr _)=_;rw[h1.1,h2.1];rfl,h1.2,h2.2⟩
  ·exact⟨by show RCode.seq _ (.wkr _)=_;rw[h1.1,h2.1];rfl,h1.2,h2.2⟩
 |.cond c a b,n,h=>by
  have h1:=mG P fl F A a n h.1;have h2:=mG P fl F A b (n+a.cnt) h.2;exact⟨by show RCode.cond c _ _=_;rw[h1.1,h2.1];rfl,h1.2,h2.2⟩
 |.block id b,n,h=>by
  have h1:=mG P fl F A b n h;exact⟨by show RCode.block id _=_;rw[h1.1];rfl,h1.2⟩
 |.loop m b,n,h=>by
  have h1:=mG P fl F A b (n+1) h;unfold wJ;split
  ·exact⟨by show RCode.loop _=_;rw[h1.1];rfl,h1.2⟩
  ·exact⟨by show RCode.loop _=_;rw[h1.1];rfl,h1.2⟩
 |.scope b,n,h=>by
  have h1:=mG P fl F A b n h;exact⟨by show RCode.scope _=_;rw[h1.1];rfl,h1.2⟩
 |.bad rc,n,_=>aZb P fl A n _ rc
 |.join _ _ _ _,_,h=>⟨rfl,h⟩
 |.skip,_,h=>⟨rfl,h⟩
 |.reg _ _,_,h=>⟨rfl,h⟩
 |.regS _ _,_,h=>⟨rfl,h⟩
 |.regP _,_,h=>⟨rfl,h⟩
 |.regDP _,_,h=>⟨rfl,h⟩
 |.regN _,_,h=>⟨rfl,h⟩
 |.regY _,_,h=>⟨rfl,h⟩
 |.regM _ _,_,h=>⟨rfl,h⟩
 |.rangeF ..,_,h=>⟨rfl,h⟩
 |.exit _,_,h=>⟨rfl,h⟩
 |.ret,_,h=>⟨rfl,h⟩
def mkX(P:Program)(fl:List Nat)(F:List (Nat×Nat×List Nat))(A:List Ann)(c:Code)(rc:RCode):XC:=wJ P fl F A 0 (jD P c rc)
theorem wA(P:Program)(fl:List Nat)(F:List (Nat×Nat×List Nat))(A:List Ann)(c:Code)(rc:RCode):(mkX P fl F A c rc).rc=rc:=by unfold mkX;rw[(mG P fl F A _ 0 (xX P c rc)).1,aC4]
theorem wH(P:Program)(fl:List Nat)(F:List (Nat×Nat×List Nat))(A:List Ann)(c:Code)(rc:RCode):(mkX P fl F A c rc).Wf P:=(mG P fl F A _ 0 (xX P c rc)).2
end
section
variable{R:Type}
theorem Wk.any{s s':AState}(hb:∀i,s'.bs i=s.bs i)(ho:∀i,s'.own i=s.own i)(hn:s'.nx=s.nx)(he:∀t,s'.env t=s.env t\/s'.env t=.any):Wk s s':=fun E a w ⟨G,m,h⟩=>by
 have hlk:s'.lk=s.lk:=by funext x;cases x with|B i=>exact hb i|O i=>exact ho i
 refine⟨G,m,hlk▸h.sim,fun t=>?_,h.size,h.defers,?_,fun i hi=>h.fresh i (hn▸hi),h.frame,h.base,h.own,h.noO,fun i hi=>(ho i).trans (h.nxOk i (hn▸hi))⟩
 ·rcases he t with e|e
  ·rw[e];exact h.env t
  ·rw[e];unfold AV.Rep;trivial
 ·rcases he E.N with e|e
  ·rw[e];exact h.jok
  ·rw[e];exact E.Jany _ _ h.jok
def wG:Nat->List XV->List (Nat×XV)
 |_,[]=>[]
 |n,v::vs=>(n,v)::wG (n+1) vs
theorem rU:∀(vs:List XV) (n t:Nat),cA (wG n vs) t=if n<=t then pP vs (t-n)else .any
 |[],n,t=>by
  show XV.any=_;split
  ·cases t-n<;>rfl
  ·rfl
 |v::vs,n,t=>by
  show(if au t n=true then v else cA (wG (n+1) vs) t)=_;rw[rU vs (n+1) t];by_cases h:t=n
  ·rw[if_pos (by rw[fg];exact h),if_pos (by omega),show t-n=0 by omega];rfl
  ·rw[if_neg (by rw[fg];exact h)];by_cases h2:n+1<=t
   ·rw[if_pos h2,if_pos (by omega),show t-n=(t-(n+1))+1 by omega];rfl
   ·rw[if_neg h2,if_neg (by omega)]
def vU:Nat->Nat->List Nat
 |_,0=>[]
 |n,k+1=>n::vU (n+1) k
theorem aLg:∀(k n i:Nat),(vU n k)[i]?=if i<k then some (n+i)else none
 |0,n,i=>by simp[vU]
 |k+1,n,0=>by simp[vU]
 |k+1,n,i+1=>by
  show(vU (n+1) k)[i]?=_;rw[aLg k (n+1) i];by_cases h:i<k
  ·rw[if_pos h,if_pos (by omega),show n+1+i=n+(i+1) by omega]
  ·rw[if_neg h,if_neg (by omega)]
theorem yI{j:Nat}:j∈vU n k↔n<=j/\j<n+k:=by
 induction k generalizing n with
 |zero=>simp[vU]
 |succ k ih=>
  show j∈n::vU (n+1) k↔_;rw[br,ih];omega
theorem aF5:∀(k n:Nat),(vU n k).Nodup
 |0,_=>jb
 |k+1,n=>dw.2 ⟨fun h=>by have:=(yI.1 h).1;omega,aF5 k (n+1)⟩
theorem aLk:∀(k n:Nat),(vU n k).length=k
 |0,_=>rfl
 |k+1,n=>congrArg (· +1) (aLk k (n+1))
def aIg(ψ:Hd->Hd):List XV->List XV
 |[]=>[]
 |v::vs=>v.ren ψ::aIg ψ vs
def xL(ψ:Hd->Hd):List (Option XB)->List (Option XB)
 |[]=>[]
 |none::r=>none::xL ψ r
 |some b::r=>some (b.ren ψ)::xL ψ r
theorem uM[YL](ψ:Hd->Hd):∀(l:List (Option XB)) (i:Nat),(aW (xL ψ l) i).map XB.er=((aW l i).map XB.er).map (Blk.ren ψ)
 |[],_=>rfl
 |none::_,0=>rfl
 |some b::_,0=>congrArg some (aI1 ψ b)
 |none::r,i+1=>uM ψ r i
 |some _::r,i+1=>uM ψ r i
def aDm:Nat->List (Option XB)->List (Option XB)
 |_,[]=>[]
 |0,_::r=>none::aDm 0 r
 |d+1,b::r=>b::aDm d r
def zU:Nat->List (Option XB)->List (Option XB)
 |0,l=>l
 |_+1,[]=>[]
 |d+1,_::r=>zU d r
theorem aA2:∀(d:Nat) (l:List (Option XB)) (i:Nat),aW (aDm d l) i=if i<d then aW l i else none
 |0,[],_=>rfl
 |d+1,[],i=>by show none=if i<d+1 then none else none;split<;>rfl
 |0,_::r,0=>rfl
 |0,_::r,i+1=>by
  show aW (aDm 0 r) i=_;rw[aA2 0 r i];simp
 |d+1,b::r,0=>rfl
 |d+1,b::r,i+1=>by
  show aW (aDm d r) i=_;rw[aA2 d r i];by_cases h:i<d
  ·rw[if_pos h,if_pos (by omega)];rfl
  ·rw[if_neg h,if_neg (by omega)]
theorem aH3:∀(d:Nat) (l:List (Option XB)) (i:Nat),aW (zU d l) i=aW l (d+i)
 |0,l,i=>by rw[az];rfl
 |d+1,[],i=>by
  show none=aW [] _;cases d+1+i<;>rfl
 |d+1,b::r,i=>by show aW (zU d r) i=_;rw[aH3 d r i,show d+1+i=(d+i)+1 by omega];rfl
theorem aHu:∀(d:Nat) (l:List (Option XB)),(zU d l).length=l.length-d
 |0,l=>rfl
 |d+1,[]=>by simp[zU]
 |d+1,b::r=>by show(zU d r).length=_;rw[aHu d r];simp
def stS(d:Nat)(s:XS):XS:=
 let ψ:=pV (vU d (s.bs.length-d))
 {env:=wG 0 (aIg ψ (qP s.env)),bs:=xL ψ (aDm d s.bs),own:=xL ψ (zU d s.bs)}
theorem aM6[YL](ψ:Hd->Hd):∀(vs:List XV) (i:Nat),i<vs.length->(pP (aIg ψ vs) i).er=AV.ren ψ (pP vs i).er
 |[],_,h=>by simp at h
 |v::_,0,_=>aJn ψ v
 |_::vs,i+1,h=>aM6 ψ vs i (by simpa using h)
theorem aIa(ψ:Hd->Hd):∀vs:List XV,(aIg ψ vs).length=vs.length
 |[]=>rfl
 |_::vs=>congrArg (· +1) (aIa ψ vs)
theorem aQs:∀(vs:List XV) (i:Nat),vs.length<=i->pP vs i=.any
 |[],i,_=>by cases i<;>rfl
 |_::_,0,h=>by simp at h
 |_::vs,i+1,h=>aQs vs i (by simpa using h)
theorem aMl{α:Type}(f:XV->α):∀l:List (Nat×XV),(qP l).map f=l.map fun p=>f p.2
 |[]=>rfl
 |p::l=>congrArg (f p.2::·) (aMl f l)
theorem aAv(ψ:Hd->Hd):∀l:List (Option XB),(xL ψ l).length=l.length
 |[]=>rfl
 |none::l=>congrArg (· +1) (aAv ψ l)
 |some _::l=>congrArg (· +1) (aAv ψ l)
theorem aTr[YL](d:Nat)(s:XS):Wk (entry (s.env.map fun p=>p.2.er) (erB s.bs)) (stS d s).er:=by
 have h1:=aSr (s.env.map fun p=>p.2.er) (erB s.bs) (vU d (s.bs.length-d)) (aF5 _ _);refine h1.trans (Wk.any (fun i=>?_) (fun i=>?_) ?_ fun t=>?_)
 ·show(aW (xL _ (aDm d s.bs)) i).map XB.er=if i∈vU d (s.bs.length-d)then none else(((erB s.bs)[i]?).join).map _
  rw[uM,aA2,lB];by_cases hd:i<d
  ·rw[if_pos hd,if_neg (fun h=>by have:=(yI.1 h).1;omega)]
  ·rw[if_neg hd];by_cases h2:i<s.bs.length
   ·rw[if_pos (yI.2 ⟨by omega,by omega⟩)];rfl
   ·rw[if_neg (fun h=>by have:=(yI.1 h).2;omega),aC1 _ _ (by omega)]
 ·show(aW (xL _ (zU d s.bs)) i).map XB.er=((vU d (s.bs.length-d))[i]?).bind fun j=>(((erB s.bs)[j]?).join).map _;rw[uM,aH3,aLg];by_cases h:i<s.bs.length-d
  ·rw[if_pos h];show _=(((erB s.bs)[d+i]?).join).map _;rw[lB]
  ·rw[if_neg h,aC1 _ _ (by omega)];rfl
 ·show(xL _ (zU d s.bs)).length=(vU d (s.bs.length-d)).length;rw[aAv,aHu,aLk]
 ·show(cA (wG 0 (aIg _ (qP s.env))) t).er=(AV.renL _ (s.env.map fun p=>p.2.er)).getD t .un\/(cA (wG 0 (aIg _ (qP s.env))) t).er=.any;rw[rU,if_pos (fw _),Nat.sub_zero];by_cases h:t<(qP s.env).length
  ·left;rw[aM6 _ _ _ h,aAb,<-aMl XV.er];congr 1;have:∀(l:List XV) (i:Nat),i<l.length->(pP l i).er=(l.map XV.er).getD i .un:=fun l=>by
    induction l with
    |nil=>intro i h;simp at h
    |cons v l ih=>
     intro i h;cases i with
     |zero=>rfl
     |succ i=>
      have:=ih i (by simpa using h);show(pP l i).er=(v.er::l.map XV.er).getD (i+1) .un;rw[this,jr]
   exact this _ _ h
  ·right;rw[aQs _ _ (by rw[aIa];omega)];rfl
def aJ4(s:XS):RRes->Option XV
 |.tmp t=>some (cA s.env t)
 |.cell ag t=>match cA s.env t with
  |.ptr h off=>match s.lk h with
   |some (.box cs)=>aN4 ag cs off some
   |_=>none
  |.apt h 0=>match s.lk h,ag with
   |some (.arr _ n k x),some m=>match au m n with
    |true=>some (.d (.ar n k) x)
    |false=>none
   |_,_=>none
  |.rpt h off=>match s.lk h,ag with
   |some (.rb _ t x),some m=>aN4 (some m) (lvs t x) off some
   |_,_=>none
  |_=>none
def pI(s:XS):List RRes->Option (List XV)
 |[]=>some []
 |r::rs=>match aJ4 s r,pI s rs with
  |some v,some vs=>some (v::vs)
  |_,_=>none
theorem aPk[YL]{r:RRes}(h:aJ4 s r=some v):oE s.er r=some v.er:=by
 unfold aJ4 at h;split at h
 ·cases h;rfl
 ·rename_i ag t;split at h
  ·rename_i hd off ht;split at h
   ·rename_i cs hl;obtain⟨v',h1,h2⟩:=zC h;cases h1;have e1:s.er.env t=.ptr hd off:=by show(cA s.env t).er=_;rw[ht];rfl
    have e2:s.er.lk hd=some (.box (XV.fcL cs)):=by rw[aN,hl];rfl
    simp only[oE,e1,e2];cases ag with
    |none=>exact h2
    |some n=>
     obtain⟨h3,h4⟩:=h2;simp only;rw[if_pos h3,h4]
   ·cases h
  ·rename_i hd ht;split at h
   ·rename_i mt n k x m hl;split at h
    ·rename_i hb;obtain rfl:=η hb;cases h;have e1:s.er.env t=.eptr hd 1 0 0:=by show(cA s.env t).er=_;rw[ht];rfl
     have e2:s.er.lk hd=some (.row mt 1 (x.l.map (arD k))):=by rw[aN,hl];rfl
     simp only[oE,e1,e2];have hx:=x.len;rw[if_pos ⟨trivial,trivial,trivial,by rw[θ];omega⟩,de,bf (by rw[θ];omega),xS];rfl
    ·cases h
   ·cases h
  ·rename_i hd off ht;split at h
   ·rename_i mt t2 x m hl;obtain⟨v',h1,h2,h3⟩:=zC h;cases h1;have e1:s.er.env t=.eptr hd 1 off 0:=by show(cA s.env t).er=_;rw[ht];rfl
    have e2:s.er.lk hd=some (.row mt 1 (sgD (t2.ds x))):=by rw[aN,hl];rfl
    rw[cE]at h2 h3;rw[θ]at h2;simp only[oE,e1,e2];rw[if_pos ⟨trivial,trivial,trivial,by rw[uL];exact h2⟩,aJk,aE4,h3,bp,bz]
   ·cases h
  ·cases h
theorem aBp[YL]{s:XS}:∀{rs:List RRes} {vs:List XV},pI s rs=some vs->kI s.er rs=some (XV.erL vs)
 |[],vs,h=>by cases h;rfl
 |r::rs,vs,h=>by
  unfold pI at h;split at h
  ·rename_i v vs' h1 h2;cases h;show(match oE s.er r,kI s.er rs with|some a,some as=>some (a::as)|_,_=>none)=_;rw[aPk h1,aBp h2];rfl
  ·cases h
def nzR:List (Nat×XV)->List RRes->XS->XS
 |(_,m)::ms,r::rs,s=>match m,r with
  |.slw _ t _,.tmp n=>match cA s.env n with
   |.fln _=>nzR ms rs (s.put (some n) (.slw (.O s.own.length) t 0) [.row true t []] [])
   |.sl h t 0 len=>nzR ms rs (aJy s n h t len)
   |_=>nzR ms rs s
  |_,_=>nzR ms rs s
 |_,_,s=>s
theorem aEa[YL]:∀(ms:List (Nat×XV)) (rs:List RRes) (s:XS),Wk s.er (nzR ms rs s).er
 |[],_,s=>by unfold nzR;exact Wk.refl _
 |_::_,[],s=>by unfold nzR;exact Wk.refl _
 |(_,m)::ms,r::rs,s=>by
  unfold nzR;split
  ·split
   ·rename_i h;refine Wk.trans ?_ (aEa ms rs _);rw[cK];exact AState.own0_ok s.er _ _ (by show(cA s.env _).er=_;rw[h];rfl)
   ·rename_i h;exact(aHc h).trans (aEa ms rs _)
   ·exact aEa ms rs s
  ·exact aEa ms rs s
def aQ0(rs:List RRes)(s:XS)(n:Nat):XV:=match pI s rs with
 |some vs=>pP vs n
 |none=>.any
def bAl(rs:List RRes)(m:XS)(n:Nat)(s:XS):Bool:=match pI s rs with
 |some vs=>vS 0 m.env vs&&au s.bs.length n
 |none=>false
def bGm(rs:List RRes)(m s:XS):NZ:=⟨s,aT0 vrO (aQ0 rs s) m.env (aNe m.own)⟩
def nzF(rs:List RRes)(m s:XS):NZ:=aY0 vrO 0 m.own (aYd vrO 0 m.bs (bGm rs m (nzR m.env rs s)))
def aVb(rs:List RRes)(m:XS)(n:Nat)(K:tup m.tys->Option R)(st:NZ):Option R:=match bAl rs m n st.s with
 |true=>rd1 m (aQ0 rs) st K
 |false=>none
def aVu:Hd->Hd->Bool
 |.B i,.B j=>au i j
 |.O _,.O _=>true
 |_,_=>false
def bEw:List XV->List XV->Bool
 |[],_=>true
 |_::_,[]=>false
 |m::ms,v::vs=>(match m,v with
  |.ptr h _,.ptr h' _=>aVu h h'
  |.apt h _,.apt h' _=>aVu h h'
  |.rpt h _,.rpt h' _=>aVu h h'
  |_,_=>true)&&bEw ms vs
def bG6(rs:List RRes)(m s:XS):Bool:=match pI s rs with
 |some vs=>aU8 (qP m.env) vs&&bEw (qP m.env) vs
 |none=>false
def uS(rs:List RRes)(n:Nat):(l:List XS)->XS->(RT l->Option R)->Option R
 |[],_,_=>none
 |[m],s,K=>aVb rs m n (fun v=>K (toR m.tys v)) (nzF rs m s)
 |m::m2::l,s,K=>match bG6 rs m s with
  |true=>aVb rs m n (fun v=>K (.inl (toR m.tys v))) (nzF rs m s)
  |false=>uS rs n (m2::l) s fun r=>K (.inr r)
def aT1:Value->Value->Bool
 |.iface t (.agg a),.iface t' (.agg c)=>au t t'&&(a.isEmpty&&c.isEmpty)
 |_,_=>false
theorem aIn{v:Value}(h:aT1 v w=true):v=w:=by
 unfold aT1 at h;split at h
 ·rename_i t a t' c;rw[ν,ν]at h;obtain⟨h1,h2,h3⟩:=h;rw[η h1,Array.isEmpty_iff.1 h2,Array.isEmpty_iff.1 h3]
 ·cases h
def aSc(pv:Value):(l:List XS)->(RT l->Option R)->Option R
 |[],_=>none
 |[m],K=>match m.pv,m.own,aBx m.tys []with
  |some w,[],some v=>match aT1 w pv with
   |true=>K (toR m.tys v)
   |false=>none
  |_,_,_=>none
 |m::m2::l,K=>match m.pv,m.own,aBx m.tys []with
  |some w,[],some v=>match aT1 w pv with
   |true=>K (.inl (toR m.tys v))
   |false=>aSc pv (m2::l) fun r=>K (.inr r)
  |_,_,_=>aSc pv (m2::l) fun r=>K (.inr r)
def bCt(rs:List RRes)(n:Nat)(out:List XS):Exit->XS->Option (RT out)
 |.normal,s=>uS rs n out s some
 |.ret,s=>uS rs n out s some
 |_,_=>none
def aUy(rs:List RRes)(out:List XS):Exit->XS->Option (RT out)
 |.normal,s=>uS rs 0 out s some
 |.ret,s=>uS rs 0 out s some
 |.panic [⟨v,false,false⟩],_=>aSc v out some
 |_,_=>none
def aD1:List XS->Bool
 |[]=>false
 |o::l=>o.pv.isSome||aD1 l
def bHb[YL]:List XV->AV
 |[v]=>v.er
 |vs=>.tup (XV.erL vs)
theorem aXq[YL](h:kI s.er rs=some (XV.erL vs)):aTk s.er rs=some (bHb vs):=by
 unfold aTk;rw[h]
 match vs with
 |[]=>rfl
 |[_]=>rfl
 |_::_::_=>rfl
theorem aX8(h:vS 0 m.env vs=true)(v:tup m.tys):(m.fill v).pv=none:=by
 unfold XS.pv;split
 ·rename_i k u he;have he:(wU _ m.env _).1=[(k,.c u)]:=he;generalize m.env=l at h he;cases l with
  |nil=>cases he
  |cons p l=>
   obtain⟨k0,v0⟩:=p;cases vs with
   |nil=>cases h
   |cons a vs=>
    have h:(au k0 0&&vS 1 l vs)=true:=h;rw[ν]at h;have h1:=η h.1;have h2:=congrArg (fun l=>l.map Prod.fst) he;have h2:k0::_=[k]:=h2;have:k0=k:=(List.cons.inj h2).1;rw[<-this,h1]
 ·rfl
theorem aQe[YL]{K:tup m.tys->Option R}{r:R}(h:aVb rs m n K (nzF rs m s)=some r):∃v,K v=some r/\(m.fill v).pv=none/\∀(e:Exit),(e=.normal\/e=.ret)->∀nbs:List Blk,nbs.map some=erB (m.fill v).own->
  lW n rs (XV.val (m.fill v).env).er (erB (m.fill v).bs) nbs e s.er:=by
 unfold aVb at h;split at h
 case h_2=>cases h
 rename_i hok;obtain⟨v,sl,h,hr⟩:=aU9 h;have hw:Wk s.er (nzF rs m s).s.er:=(aEa m.env rs s).trans ((aIu vrO m.bs 0 (bGm rs m (nzR m.env rs s))).trans (aIp vrO _ _ _));generalize(nzF rs m s)=st at hok hr hw;unfold bAl at hok;split at hok
 case h_2=>cases hok
 rename_i vs hvs;rw[ν]at hok;obtain⟨hk,hb⟩:=hok;refine⟨v,h,aX8 hk v,fun e he nbs hn=>⟨st.s.er,hw,he,sl,?_⟩⟩;have hb:=η hb;have hres:aQ0 rs st.s=pP vs:=by funext i;unfold aQ0;rw[hvs]
 have henv:(m.fill v).env.map (fun p=>p.2.er)=vs.map fun v=>AV.conv st.s.er.lk (phi sl) v.er:=by have:=congrArg (fun l=>l.map (fun p:Nat×AV=>p.2)) hr.env;simp only[e7]at this;rw[hres]at this;rw[<-aAj (f:=fun v=>AV.conv st.s.er.lk (phi sl) v.er) hk (ev:=pP vs) fun i _=>by rw[az]];exact this
 refine⟨_,hr.nd,aXq (aBp hvs),?_,?_,?_⟩
 ·generalize hf:(m.fill v).env=fe at henv;have hl:∀l:List (Nat×XV),XV.erL (l.map (·.2))=l.map fun p=>p.2.er:=fun l=>by
   induction l with
   |nil=>rfl
   |cons p l ih=>show p.2.er::XV.erL (l.map (·.2))=_;rw[ih];rfl
  cases vs with
  |nil=>cases fe with
   |nil=>rfl
   |cons p fe=>cases henv
  |cons a vs=>cases fe with
   |nil=>cases henv
   |cons p fe=>cases vs with
    |nil=>cases fe with
     |nil=>exact(List.head_eq_of_cons_eq henv).symm
     |cons p2 fe=>exact absurd (congrArg List.length henv) (by simp)
    |cons a2 vs=>cases fe with
     |nil=>exact absurd (congrArg List.length henv) (by simp)
     |cons p2 fe=>
      show AV.tup (AV.convL _ _ (XV.erL (a::a2::vs)))=AV.tup (XV.erL ((p::p2::fe).map (·.2)));rw[aDj,<-henv,hl]
 ·rw[hr.bs];apply List.ext_getElem?;intro i;rw[ao,ao];by_cases hi:i<n
  ·rw[List.getElem?_range hi];have h2:=lB st.s.bs i;have hl:i<(erB st.s.bs).length:=by show i<(List.map _ _).length;rw[θ];omega
   rw[μ hl]at h2|-;have h2:(erB st.s.bs)[i]=(aW st.s.bs i).map XB.er:=h2;rw[h2];rfl
  ·rw[cx (by rw[List.length_range];omega),cx (by show(List.map _ _).length<=i;rw[θ];omega)];rfl
 ·rw[hn,hr.own];have:∀l:List Nat,(erB (nM st.s l)).map (fun b=>b.map (Blk.conv st.s.er.lk (phi sl)))=l.map fun j=>(st.s.er.own j).map (Blk.conv st.s.er.lk (phi sl)):=fun l=>by
   induction l with
   |nil=>rfl
   |cons j l ih=>show _::List.map _ (erB (nM st.s l))=_::_;rw[ih];rfl
  exact(this sl).symm
theorem kB[YL]{rs:List RRes}{n:Nat}:∀{l:List XS} {s:XS} {K:RT l->Option R} {r:R},uS rs n l s K=some r->∃x,K x=some r/\(cJ l x).pv=none/\∀(e:Exit),(e=.normal\/e=.ret)->∀nbs:List Blk,nbs.map some=erB (cJ l x).own->
  lW n rs (XV.val (cJ l x).env).er (erB (cJ l x).bs) nbs e s.er
 |[],_,_,_,h=>by cases h
 |[m],s,K,r,h=>by
  obtain⟨v,h,hp,hv⟩:=aQe (show aVb rs m n (fun v=>K (toR m.tys v)) (nzF rs m s)=some r from h);refine⟨toR m.tys v,h,?_⟩;have e:cJ [m] (toR m.tys v)=m.fill v:=by show m.fill (ofR m.tys (toR m.tys v))=_;rw[qR]
  rw[e];exact⟨hp,hv⟩
 |m::m2::l,s,K,r,h=>by
  unfold uS at h;split at h
  ·obtain⟨v,h,hp,hv⟩:=aQe h;refine⟨.inl (toR m.tys v),h,?_⟩;have e:cJ (m::m2::l) (.inl (toR m.tys v))=m.fill v:=by show m.fill (ofR m.tys (toR m.tys v))=_;rw[qR]
   rw[e];exact⟨hp,hv⟩
  ·obtain⟨x,h,hx⟩:=kB (l:=m2::l) h;exact⟨.inr x,h,hx⟩
def aXo(N:Nat)(P:Program)(T:List Sig)(fl:List Nat)(F:List (Nat×Nat×List Nat))(A:List Ann)(d:Nat)(fn:Func)(c:Code)(ent:XS)(out:List XS):fty ent.tys (RT out):=
 match aE P fl fn.ntmps c,bT P fn.ntmps fn.results.toList with
 |some rc,some rs=>match aD1 out,ent.bs with
  |false,_=>cuF ent.tys fun v=>dT N T (mkX P fl F A c rc) noX (stS d (ent.fill v)) (bCt rs ent.bs.length out)
  |true,[]=>cuF ent.tys fun v=>dT N T (mkX P fl F A c rc) oL (stS d (ent.fill v)) (aUy rs out)
  |_,_=>cuF ent.tys fun _=>none
 |_,_=>cuF ent.tys fun _=>none
theorem sT(len:Hd->Nat):∀(l:List (Nat×XV)) (q:List DS),(wU len l q).1.length=l.length
 |[],_=>rfl
 |(_,_)::l,q=>congrArg (· +1) (sT len l _)
theorem mL(len:Hd->Nat):∀(l:List (Option XB)) (q:List DS),(lY len l q).1.length=l.length
 |[],_=>rfl
 |none::l,q=>congrArg (· +1) (mL len l _)
 |some _::l,q=>congrArg (· +1) (mL len l _)
theorem aP3(h:m.pv=some w)(v:tup m.tys):(m.fill v).pv=some w:=by
 unfold XS.pv at h;split at h
 ·rename_i k u he;split at h
  ·rename_i hk;cases h;have:(m.fill v).env=[(k,.c w)]:=by show(wU _ m.env _).1=_;rw[he];rfl
   unfold XS.pv;rw[this];show(match au k 1000000 with|true=>some w|false=>none)=some w;rw[hk]
  ·cases h
 ·cases h
theorem aAa(h:m.own=[])(v:tup m.tys):(m.fill v).own=[]:=by show(lY _ m.own _).1=[];rw[h];rfl
theorem aJ2{pv:Value}:∀{l:List XS} {K:RT l->Option R} {r:R},aSc pv l K=some r->∃x,K x=some r/\(cJ l x).pv=some pv/\(cJ l x).own=[]
 |[],_,_,h=>by cases h
 |[m],K,r,h=>by
  unfold aSc at h;split at h
  case h_2=>cases h
  rename_i w v hw ho ht;split at h
  case h_2=>cases h
  rename_i he;refine⟨_,h,?_⟩;have e:cJ [m] (toR m.tys v)=m.fill v:=by show m.fill (ofR m.tys (toR m.tys v))=_;rw[qR]
  rw[e,<-aIn he];exact⟨aP3 hw v,aAa ho v⟩
 |m::m2::l,K,r,h=>by
  unfold aSc at h;split at h
  ·rename_i w v hw ho ht;split at h
   ·rename_i he;refine⟨_,h,?_⟩;have e:cJ (m::m2::l) (.inl (toR m.tys v))=m.fill v:=by show m.fill (ofR m.tys (toR m.tys v))=_;rw[qR]
    rw[e,<-aIn he];exact⟨aP3 hw v,aAa ho v⟩
   ·obtain⟨x,h,hx⟩:=aJ2 (l:=m2::l) h;exact⟨.inr x,h,hx⟩
  ·obtain⟨x,h,hx⟩:=aJ2 (l:=m2::l) h;exact⟨.inr x,h,hx⟩
abbrev pan(v:Value):Exit:=.panic [{v:=v,recovered:=false}]
theorem bFw{len:Hd->Nat}{u:Value}:∀{v:XV} {l:List DS},(XV.fil len v l).1=.c u->v=.c u:=by
 intro v l h;cases v with
 |d t x=>
  cases l with
  |nil=>cases h
  |cons p l=>
   obtain⟨t',x'⟩:=p;have h:aGf t' x'=.c u:=h;unfold aGf at h;split at h<;>cases h
 |c w=>exact h
 |sl hd t o n=>match l,h with
  |[],h=>cases h
  |[_],h=>cases h
  |_::_::_,h=>cases h
 |_=>cases h
theorem aFb{v:tup m.tys}(h:(m.fill v).pv=some w):m.pv=some w:=by
 unfold XS.pv at h;split at h
 case h_2=>cases h
 rename_i k u he;have he:(wU _ m.env _).1=[(k,.c u)]:=he;revert he;cases hm:m.env with
 |nil=>intro he;cases he
 |cons p l=>
  obtain⟨k0,v0⟩:=p;cases l with
  |nil=>
   intro he;have he:[(k0,_)]=[(k,XV.c u)]:=he;have h1:=(Prod.mk.inj (List.cons.inj he).1);have h2:=bFw h1.2;have h3:=h1.1;subst h2 h3;unfold XS.pv;rw[hm];exact h
  |cons q l=>
   obtain⟨k1,v1⟩:=q;intro he;exact absurd (congrArg List.length he) (by simp[wU])
theorem aWx:∀{l:List XS} {r:RT l},aD1 l=false->(cJ l r).pv=none
 |[],_,_=>rfl
 |[m],r,h=>by
  have h:(m.pv.isSome||false)=false:=h;rw[Bool.or_false]at h;show(m.fill _).pv=none;cases hp:(m.fill (ofR m.tys r)).pv with
  |none=>rfl
  |some w=>rw[aFb hp]at h;cases h
 |m::m2::l,.inl r,h=>by
  have h:(m.pv.isSome||aD1 (m2::l))=false:=h;rw[Bool.or_eq_false_iff]at h;show(m.fill _).pv=none;cases hp:(m.fill (ofR m.tys r)).pv with
  |none=>rfl
  |some w=>rw[aFb hp]at h;cases h.1
 |m::m2::l,.inr r,h=>by have h:(m.pv.isSome||aD1 (m2::l))=false:=h;rw[Bool.or_eq_false_iff]at h;exact aWx (l:=m2::l) h.2
def aJo[YL](rs:List RRes)(o:XS)(nbs:List Blk):Exit->AState->Prop:=fun e s=>match o.pv with
 |some pv=>e=pan pv
 |none=>lW 0 rs (XV.val o.env).er (erB o.bs) nbs e s
theorem aS9[YL]{r:RT out}{e:Exit}(h:aUy rs out e s=some r)(hnbs:nbs.map some=erB (cJ out r).own):aJo rs (cJ out r) nbs e s.er:=by
 unfold aUy at h;split at h
 ·obtain⟨x,hx,hp,hq⟩:=kB h;cases hx;unfold aJo;rw[hp];exact hq _ (.inl rfl) nbs hnbs
 ·obtain⟨x,hx,hp,hq⟩:=kB h;cases hx;unfold aJo;rw[hp];exact hq _ (.inr rfl) nbs hnbs
 ·obtain⟨x,hx,hp,_⟩:=aJ2 h;cases hx;unfold aJo;rw[hp]
 ·cases h
theorem AOut.of_bodyX(fl:List Nat){rc:RCode}{pv:Value}{o:Option (AV×List Blk)}(s0:AState)
  (hf:P.funcs[f]?=some fn) (hb:fn.body=some c) (hname:(fn.name== "runtime.NumGoroutine")=false) (hm:P.follows .mixedOrders=true) (hrc:aE P fl fn.ntmps c=some rc) (hrs:bT P fn.ntmps fn.results.toList=some rs)
  (hn:args.length<=fn.ntmps) (hw0:Wk (entry args []) s0) (h:dK P iC rc (fun e s=>match o with
   |some p=>lW 0 rs p.1 bs' p.2 e s
   |none=>e=pan pv) s0):match o with
   |some p=>ACall P f args [] p.1 bs' p.2
   |none=>aNl P f args pv:=by
 have hrs0:=xQ hrs;cases o with
 |some p=>
  refine fun w G m vs hS hO hA=>.inl ⟨⟨fn,hf,by rw[hb];rfl,hname⟩,zI (r:=none) (n:=0) (callsIn_of_wp hf hb (lF none f) ?_)⟩;have hent:=pW true hn hS hO hA;have hsim0:=hw0 _ _ _ ⟨G,m,hent⟩;refine wpIn_mono (aU hm hrc none iC _ _ _ _ _ YOk.body rfl h hsim0) fun e a' w' ⟨s00,⟨s,hw,hq⟩,hA0⟩=>?_;obtain⟨G1,m1,hA'⟩:=hw _ _ _ hA0;obtain⟨v,hv,hp⟩:=wW (bs:=[]) hrs0 rfl rfl rfl rfl hS hA' hq;have hd:a'.defers=[]:=(iR.1 hA'.defers).2.2 rfl;rcases hq.1 with rfl|rfl<;>exact⟨hd,v,hv,v,rfl,hp⟩
 |none=>
  refine fun w G m vs hS hO hA=>⟨⟨fn,hf,by rw[hb];rfl,hname⟩,zI (r:=none) (n:=0) (callsIn_of_wp hf hb (lF none f) ?_)⟩;have hent:=pW true hn hS hO hA;have hsim0:=hw0 _ _ _ ⟨G,m,hent⟩;refine wpIn_mono (aU hm hrc none iC _ _ _ _ _ YOk.body rfl h hsim0) fun e a' w' ⟨s,hq,G1,m1,hA'⟩=>?_;have hq:e=.panic [{v:=pv,recovered:=false}]:=hq;subst hq;have hd:a'.defers=[]:=(iR.1 hA'.defers).2.2 rfl;exact⟨hd,rfl,aZk (P:=P) rfl rfl rfl rfl hS hA' rfl rfl⟩
theorem bEs(N:Nat){T:List Sig}(hT:gJ P T)(fl:List Nat)(A:List Ann)(d:Nat)(RF:List (Nat×Nat×List Nat)){F:fty ent.tys (RT out)}(hf:P.funcs[f]?=some fn)(hb:fn.body=some c)(hname:(fn.name== "runtime.NumGoroutine")=false)(hm:P.follows .mixedOrders=true)
  (hn:ent.env.length<=fn.ntmps) (hF:∀a,apF ent.tys F a=apF ent.tys (aXo N P T fl RF A d fn c ent out) a):aF P ⟨f,ent,out,F⟩:=by
 intro _ v r h nbs hnbs;have h:apF ent.tys F v=some r:=h;rw[hF]at h;unfold aXo at h;split at h
 case h_2=>rw[cF]at h;cases h
 rename_i rc rs hrc hrs;have hlen:(erB (ent.fill v).bs).length=ent.bs.length:=by show(List.map _ (lY _ ent.bs _).1).length=_;rw[θ,mL]
 have hargs:((ent.fill v).env.map fun p=>p.2.er).length<=fn.ntmps:=by show(List.map _ (wU _ ent.env _).1).length<=_;rw[θ,sT];exact hn
 show yZ P f _ _ (cJ out r) nbs;split at h
 ·rw[cF]at h;rename_i hany;have hpv:(cJ out r).pv=none:=aWx hany;unfold yZ;rw[hpv];refine ACall.of_bodyX fl _ hf hb hname hm hrc hrs hargs (aTr d (ent.fill v)) ?_;have:=bM hT (wH P fl RF A c rc) _ noX noY YRel.no h (Q:=lW ent.bs.length rs (XV.val (cJ out r).env).er (erB (cJ out r).bs) nbs) fun e s' h=>by
   cases e with
   |normal=>
    obtain⟨x,hx,_,hq⟩:=kB (show uS rs ent.bs.length out s' some=some r from h);cases hx;exact hq _ (.inl rfl) nbs hnbs
   |ret=>
    obtain⟨x,hx,_,hq⟩:=kB (show uS rs ent.bs.length out s' some=some r from h);cases hx;exact hq _ (.inr rfl) nbs hnbs
   |_=>cases h
  rw[wA]at this;rw[hlen];exact this
 ·rename_i hbs;rw[cF]at h;have hb0:erB (ent.fill v).bs=[]:=by rw[aOa hbs];rfl
  have hrun:=bM hT (wH P fl RF A c rc) _ oL iC YRel.body h (Q:=aJo rs (cJ out r) nbs) fun e s' h=>aS9 h hnbs;rw[wA]at hrun;rw[hb0];have hwk:=aTr d (ent.fill v);rw[hb0]at hwk;unfold yZ;cases hp:(cJ out r).pv with
  |none=>
   refine AOut.of_bodyX fl (pv:=.nilIface) (o:=some ((XV.val (cJ out r).env).er,nbs)) _ hf hb hname hm hrc hrs hargs hwk ?_;have e:aJo rs (cJ out r) nbs=lW 0 rs (XV.val (cJ out r).env).er (erB (cJ out r).bs) nbs:=by funext e s;unfold aJo;rw[hp]
   rw[e]at hrun;exact hrun
  |some pv=>
   intro _;refine AOut.of_bodyX fl (pv:=pv) (o:=none) (bs':=[]) _ hf hb hname hm hrc hrs hargs hwk ?_;have e:aJo rs (cJ out r) nbs=fun e _=>e=pan pv:=by funext e s;unfold aJo;rw[hp]
   rw[e]at hrun;exact hrun
 ·rw[cF]at h;cases h
theorem bHc(N:Nat){T:List Sig}(hT:gJ P T)(fl:List Nat)(A:List Ann)(d:Nat){F:fty ent.tys (RT out)}(hf:P.funcs[f]?=some fn)(hb:fn.body=some c)(hname:(fn.name== "runtime.NumGoroutine")=false)(hm:P.follows .mixedOrders=true)
  (hn:ent.env.length<=fn.ntmps) (hF:∀a,apF ent.tys F a=apF ent.tys (aXo N P T fl [] A d fn c ent out) a):aF P ⟨f,ent,out,F⟩:=bEs N hT fl A d [] hf hb hname hm hn hF
theorem tc{a:Sig}{T:List Sig}(h:aF P a)(t:gJ P T):gJ P (a::T):=⟨h,t⟩
theorem tn:gJ P []:=trivial
theorem xf(N:Nat){T:List Sig}(hT:gJ P T)(fl:List Nat)(A:List Ann)(d:Nat){F:fty ent.tys (RT out)}(hf:P.funcs[f]?=some fn)(hb:fn.body=some c)(hk:(!(fn.name== "runtime.NumGoroutine")&&(P.follows .mixedOrders&&j9 ent.env.length fn.ntmps))=true)(hF:∀a,apF ent.tys F a=apF ent.tys (aXo N P T fl [] A d fn c ent out) a):aF P ⟨f,ent,out,F⟩:=by simp only[ν,cz]at hk;exact bHc N hT fl A d hf hb hk.1 hk.2.1 (eo hk.2.2) hF
def dd(t:Ty):XV:=.d t t.z
end
section
variable{R:Type}
def nI(P:Program)(u u1:FrameMode)(g:Sig):Prop:=∀[YL] (v:tup g.ent.tys) (r:RT g.out),apF g.ent.tys g.F v=some r->(cJ g.out r).own=[]->
 DRec P g.fn ((g.ent.fill v).env.map fun p=>p.2.er) (erB (g.ent.fill v).bs) u u1 (erB (cJ g.out r).bs)
def bEk(t:Nat)(pv:Value)(s:XS):XS:={env:=(t,.c pv)::wG 0 (qP s.env),bs:=s.bs,own:=[]}
def bCs(s:XS):XS:={env:=wG 0 (qP s.env),bs:=s.bs,own:=[]}
theorem aQi[YL](l:List (Nat×XV))(t:Nat):(cA (wG 0 (qP l)) t).er=(l.map fun p=>p.2.er).getD t .un\/(cA (wG 0 (qP l)) t).er=.any:=by
 rw[rU,if_pos (fw _),Nat.sub_zero];have:∀(l:List (Nat×XV)) (i:Nat),(pP (qP l) i).er=(l.map fun p=>p.2.er).getD i .un\/(pP (qP l) i).er=.any:=fun l=>by
  induction l with
  |nil=>intro i;exact .inr rfl
  |cons v l ih=>
   intro i;cases i with
   |zero=>exact .inl rfl
   |succ i=>
    rcases ih i with h|h
    ·left;show(pP (qP l) i).er=(v.2.er::l.map fun p=>p.2.er).getD (i+1) .un;rw[h,jr]
    ·exact .inr h
 exact this l t
theorem aQy[YL](s:XS):Wk (entry (s.env.map fun p=>p.2.er) (erB s.bs)) (bCs s).er:=by refine Wk.any (fun i=>?_) (fun i=>rfl) rfl fun t=>aQi s.env t;show(aW s.bs i).map XB.er=((erB s.bs)[i]?).join;rw[lB]
theorem aX3[YL](t:Nat)(pv:Value)(s:XS):Wk (aUj (s.env.map fun p=>p.2.er) (erB s.bs) t pv) (bEk t pv s).er:=by
 have e:aUj (s.env.map fun p=>p.2.er) (erB s.bs) t pv={env:=fun i=>if i=t then .D (.C pv)else(s.env.map fun p=>p.2.er).getD i .un,bs:=fun i=>((erB s.bs)[i]?).join,own:=fun _=>none,nx:=0}:=by
  refine AState.ext' (fun i=>?_) (fun i=>?_) (fun i=>?_) rfl
  ·show upd _ t _ i=_;unfold upd;rfl
  ·rfl
  ·rfl
 rw[e];refine Wk.any (fun i=>?_) (fun i=>rfl) rfl fun i=>?_
 ·show(aW s.bs i).map XB.er=((erB s.bs)[i]?).join;rw[lB]
 ·show(if au i t then XV.c pv else cA (wG 0 (qP s.env)) i).er=_\/_;show(if au i t then XV.c pv else cA (wG 0 (qP s.env)) i).er=(if i=t then AV.D (DV.C pv)else(List.map (fun p=>p.snd.er) s.env).getD i AV.un)\/(if au i t then XV.c pv else cA (wG 0 (qP s.env)) i).er=.any;by_cases h:i=t
  ·left;rw[if_pos (by rw[fg];exact h),if_pos h];rfl
  ·rw[if_neg (by rw[fg];exact h),if_neg h];exact aQi s.env i
def bHo:Code->Option (Nat×Code)
 |.seq (.region _ ops false) rest=>match ops.toList with
  |[o]=>match o.dst with
   |some t=>some (t,rest)
   |none=>none
  |_=>none
 |_=>none
def bBd(N:Nat)(P:Program)(T:List Sig)(fl:List Nat)(A:List Ann)(pv:Value)(t:Nat)(fn:Func)(rest:Code)(ent:XS)(out:List XS):fty ent.tys (RT out):=
 match aE P fl fn.ntmps rest,bT P fn.ntmps fn.results.toList with
 |some rc,some rs=>cuF ent.tys fun v=>dT N T (mkX P fl [] A rest rc) oL (bEk t pv (ent.fill v)) (bCt rs ent.bs.length out)
 |_,_=>cuF ent.tys fun _=>none
theorem bAh(N:Nat){T:List Sig}(hT:gJ P T)(fl:List Nat)(A:List Ann){id t:Nat}{o:Oper}{cl:Call}{rest:Code}{pv:Value}{F:fty ent.tys (RT out)}
  (hf:P.funcs[f]?=some fn) (hb:fn.body=some (.seq (.region id #[o] false) rest)) (hname:(fn.name== "runtime.NumGoroutine")=false)
  (ho:o.op=.call cl) (hcl:cl.callee=.builtin .recover) (hca:cl.args=#[]) (hog:o.guard=none) (hot:o.dst=some t) (ht:t<fn.ntmps) (hm:P.follows .mixedOrders=true) (hrec:aP1 u u1 pv)
  (hn:ent.env.length<=fn.ntmps) (hF:∀a,apF ent.tys F a=apF ent.tys (bBd N P T fl A pv t fn rest ent out) a):nI P u u1 ⟨f,ent,out,F⟩:=by
 intro _ v r h hown;have h:apF ent.tys F v=some r:=h;rw[hF]at h;unfold bBd at h;split at h
 case h_2=>rw[cF]at h;cases h
 rename_i rc rs hrc hrs;rw[cF]at h;have hlen:(erB (ent.fill v).bs).length=ent.bs.length:=by show(List.map _ (lY _ ent.bs _).1).length=_;rw[θ,mL]
 have hargs:((ent.fill v).env.map fun p=>p.2.er).length<=fn.ntmps:=by show(List.map _ (wU _ ent.env _).1).length<=_;rw[θ,sT];exact hn
 have hown:(cJ out r).own=[]:=hown;refine DRec.of_body fl (r:=(XV.val (cJ out r).env).er) hf hb hname ho hcl hca hog hot ht hm hrc hrs hargs hrec (aX3 t pv (ent.fill v)) ?_;rw[hlen];have:=bM hT (wH P fl [] A rest rc) _ oL iC YRel.body h (Q:=lW ent.bs.length rs (XV.val (cJ out r).env).er (erB (cJ out r).bs) []) fun e s' h=>by
  cases e with
  |normal=>
   obtain⟨x,hx,_,hq⟩:=kB (show uS rs ent.bs.length out s' some=some r from h);cases hx;exact hq _ (.inl rfl) [] (by rw[hown];rfl)
  |ret=>
   obtain⟨x,hx,_,hq⟩:=kB (show uS rs ent.bs.length out s' some=some r from h);cases hx;exact hq _ (.inr rfl) [] (by rw[hown];rfl)
  |_=>cases h
 rw[wA]at this;exact this
theorem DRec.of_bodyK(fl:List Nat)(s0:AState){rc:RCode}{bs:List (Option Blk)}{r:AV}
  (hf:P.funcs[f]?=some fn) (hb:fn.body=some c) (hname:(fn.name== "runtime.NumGoroutine")=false) (hm:P.follows .mixedOrders=true) (hrc:aE P fl fn.ntmps c=some rc) (hrs:bT P fn.ntmps fn.results.toList=some rs)
  (hn:args.length<=fn.ntmps) (hw0:Wk (entry args bs) s0) (h:dK P iC rc (lW bs.length rs r bs' []) s0):DRec P f args bs u u bs':=by have hrs0:=xQ hrs;refine⟨⟨fn,hf,by rw[hb];rfl,hname⟩,fun w G m vs hS hO hA=>?_⟩;refine callsDIn_of_wp (R:=fun e w'=>∃v,e=.returned v/\nC w G m (eX bs' []) .any v w') hf hb (lF none f) ?_;have hent:=pW true hn hS hO hA;have hsim0:=hw0 _ _ _ ⟨G,m,hent⟩;refine wpIn_mono (aU hm hrc none iC _ _ _ _ _ YOk.body rfl h hsim0) fun e a' w' ⟨s00,⟨s,hw,hq⟩,hA0⟩=>?_;obtain⟨G1,m1,hA'⟩:=hw _ _ _ hA0;obtain⟨v,hv,G2,m2,p1,_,p3⟩:=wW hrs0 rfl rfl rfl rfl hS hA' hq;have hd:a'.defers=[]:=(iR.1 hA'.defers).2.2 rfl;rcases hq.1 with rfl|rfl<;>exact⟨hd,v,hv,v,rfl,G2,m2,p1,by unfold AV.Rep;trivial,p3⟩
theorem bFo(N:Nat){T:List Sig}(hT:gJ P T)(fl:List Nat)(A:List Ann){F:fty ent.tys (RT out)}
  (hf:P.funcs[f]?=some fn) (hb:fn.body=some c) (hname:(fn.name== "runtime.NumGoroutine")=false) (hm:P.follows .mixedOrders=true)
  (hn:ent.env.length<=fn.ntmps) (hF:∀a,apF ent.tys F a=apF ent.tys (match aE P fl fn.ntmps c,bT P fn.ntmps fn.results.toList with
   |some rc,some rs=>cuF ent.tys fun v=>dT N T (mkX P fl [] A c rc) oL (bCs (ent.fill v)) (bCt rs ent.bs.length out)
   |_,_=>cuF ent.tys fun _=>none) a):nI P u u ⟨f,ent,out,F⟩:=by
 intro _ v r h hown;have h:apF ent.tys F v=some r:=h;rw[hF]at h;split at h
 case h_2=>rw[cF]at h;cases h
 rename_i rc rs hrc hrs;rw[cF]at h;have hlen:(erB (ent.fill v).bs).length=ent.bs.length:=by show(List.map _ (lY _ ent.bs _).1).length=_;rw[θ,mL]
 have hargs:((ent.fill v).env.map fun p=>p.2.er).length<=fn.ntmps:=by show(List.map _ (wU _ ent.env _).1).length<=_;rw[θ,sT];exact hn
 have hown:(cJ out r).own=[]:=hown;refine DRec.of_bodyK fl _ (r:=(XV.val (cJ out r).env).er) hf hb hname hm hrc hrs hargs (aQy (ent.fill v)) ?_;rw[hlen];have:=bM hT (wH P fl [] A c rc) _ oL iC YRel.body h (Q:=lW ent.bs.length rs (XV.val (cJ out r).env).er (erB (cJ out r).bs) []) fun e s' h=>by
  cases e with
  |normal=>
   obtain⟨x,hx,_,hq⟩:=kB (show uS rs ent.bs.length out s' some=some r from h);cases hx;exact hq _ (.inl rfl) [] (by rw[hown];rfl)
  |ret=>
   obtain⟨x,hx,_,hq⟩:=kB (show uS rs ent.bs.length out s' some=some r from h);cases hx;exact hq _ (.inr rfl) [] (by rw[hown];rfl)
  |_=>cases h
 rw[wA]at this;exact this
def bF7(N:Nat)(vs:List XV)(s:XS):XS:={s with env:=ltE N s.env++wG (N+1) vs}
theorem aEd(N:Nat)(l2:List (Nat×XV))(h2:∀i,i<N->cA l2 i=.any):∀(l:List (Nat×XV)) (i:Nat),i<N->cA (ltE N l++l2) i=cA l i
 |[],i,h=>h2 i h
 |(k,v)::l,i,h=>by
  unfold ltE;split
  ·show(if au i k then v else cA (ltE N l++l2) i)=if au i k then v else cA l i
   rw[aEd N l2 h2 l i h]
  ·rename_i hk;have hk:¬k<N:=fun h=>by rw[show Nat.blt k N=true by rw[Nat.blt_eq];exact h]at hk;cases hk
   show cA (ltE N l++l2) i=if au i k then v else cA l i
   rw[aEd N l2 h2 l i h,if_neg (by rw[fg];omega)]
theorem aFr(N:Nat)(l2:List (Nat×XV)):∀(l:List (Nat×XV)) (i:Nat),N<=i->cA (ltE N l++l2) i=cA l2 i
 |[],i,h=>rfl
 |(k,v)::l,i,h=>by
  unfold ltE;split
  ·rename_i hk;have hk:k<N:=by rwa[Nat.blt_eq]at hk
   show(if au i k then v else cA (ltE N l++l2) i)=_;rw[if_neg (by rw[fg];omega),aFr N l2 l i h]
  ·exact aFr N l2 l i h
theorem aK5[YL]:∀(vs:List XV) (i:Nat),(pP vs i).er=(XV.erL vs).getD i .any
 |[],i=>by cases i<;>rfl
 |v::vs,0=>rfl
 |v::vs,i+1=>by show(pP vs i).er=(v.er::XV.erL vs).getD (i+1) .any;rw[aK5 vs i,jr]
theorem aZi[YL](N:Nat)(vs:List XV)(s:XS):(bF7 N vs s).er=aTs N (XV.erL vs) s.er:=by
 refine AState.ext' (fun i=>?_) (fun i=>rfl) (fun i=>rfl) rfl;show(cA (ltE N s.env++wG (N+1) vs) i).er=if i<N then(cA s.env i).er else if i=N then .any else(XV.erL vs).getD (i-N-1) .any
 by_cases h:i<N
 ·rw[if_pos h,aEd N _ (fun j hj=>by rw[rU,if_neg (by omega)]) _ i h]
 ·rw[if_neg h,aFr N _ _ i (by omega),rU];by_cases h2:i=N
  ·rw[if_pos h2,if_neg (by omega)];rfl
  ·rw[if_neg h2,if_pos (by omega),aK5];rw[Nat.sub_sub]
def dvX(N:Nat)(s:XS):Nat->List XV
 |0=>[]
 |n+1=>dvX N s n++[cA s.env (N+1+n)]
theorem aOe[YL](N:Nat)(s:XS):∀n,XV.erL (dvX N s n)=aCf N s.er n
 |0=>rfl
 |n+1=>by show XV.erL (dvX N s n++[_])=aCf N s.er n++[_];rw[lZ,aOe N s n];rfl
def aM3:List XS->Bool
 |[]=>true
 |m::l=>(match m.own with
  |[]=>true
  |_=>false)&&aM3 l
theorem aM0:∀{l:List XS} (r:RT l),aM3 l=true->(cJ l r).own=[]
 |[],_,_=>rfl
 |[m],r,h=>by
  have h:((match m.own with|[]=>true|_=>false)&&true)=true:=h;rw[fj]at h;split at h
  ·rename_i ho;exact aAa ho _
  ·cases h
 |m::m2::l,.inl r,h=>by
  have h:((match m.own with|[]=>true|_=>false)&&aM3 (m2::l))=true:=h;rw[ν]at h;obtain⟨h,_⟩:=h;split at h
  ·rename_i ho;exact aAa ho _
  ·cases h
 |m::m2::l,.inr r,h=>by have h:((match m.own with|[]=>true|_=>false)&&aM3 (m2::l))=true:=h;rw[ν]at h;exact aM0 (l:=m2::l) r h.2
def aWg(g:Sig)(N k:Nat)(s:XS)(K:XS->Option R):Option R:=match aM3 g.out,aV1 (bC8 vrB s 0 g.ent.bs (aT0 vrB (pP (dvX N s k)) g.ent.env (aNe g.ent.bs)))with
 |true,some hs=>aC7 s g (dvX N s k) none K hs
 |_,_=>none
def aNo(g:Sig)(N k:Nat)(rs:List RRes)(n:Nat)(out:List XS)(s:XS):Option (RT out):=aWg g N k s fun s'=>uS rs n out s' some
def bA5(gr gp:Sig)(pv:Value)(N k:Nat)(rs:List RRes)(n:Nat)(out:List XS):Exit->XS->Option (RT out)
 |.normal,s=>aNo gr N k rs n out s
 |.ret,s=>aNo gr N k rs n out s
 |.panic [⟨v,false,false⟩],s=>match aT1 v pv with
  |true=>aNo gp N k rs n out s
  |false=>none
 |_,_=>none
def aUw(N:Nat)(T:List Sig){R:Type}[DecidableEq R](K2:Exit->XS->Option R):List XC->XS->(XS->Option R)->Option R
 |[],s,K=>K s
 |c::cs,s,K=>dT N T c oL s (aRx (fun s'=>aUw N T K2 cs s' K) K2)
def bGc(rs:List RRes)(n:Nat)(out:List XS):Exit->XS->Option (RT out)
 |.ret,s=>uS rs n out s some
 |_,_=>none
def aVm:Code->List Code
 |.seq a b=>a::aVm b
 |c=>[c]
def aWe:Nat->Code->Code
 |0,c=>c
 |n+1,.seq _ b=>aWe n b
 |_,c=>c
def aRw(P:Program)(fl:List Nat):List (List Ann)->List Code->List RCode->List XC
 |AP,c::cs,rc::rcs=>mkX P fl [] (AP.headD []) c rc::aRw P fl AP.tail cs rcs
 |AP,[],rc::rcs=>mkX P fl [] [] .skip rc::aRw P fl AP.tail [] rcs
 |_,_,[]=>[]
def bAu:List Code->Nat->List Oper
 |[],_=>[]
 |c::_,0=>match c with
  |.region _ ops _=>ops.toList
  |_=>[]
 |_::cs,n+1=>bAu cs n
def aUc(N:Nat)(P:Program)(T:List Sig)(fl:List Nat)(A:List Ann)(AP:List (List Ann))(gr gp:Sig)(pv:Value)(fn:Func)(c:Code)(ent:XS)(out:List XS):fty ent.tys (RT out):=
 match cM P fl fn.ntmps c,bT P fn.ntmps fn.results.toList with
 |some (rcs,ros,g,xs,rc),some rs=>match au g gr.fn&&au g gp.fn with
  | true=>cuF ent.tys fun v=>aUw N T (bGc rs ent.bs.length out) (aRw P fl AP (aVm c) rcs) (bCs (ent.fill v)) fun s=>xM T (rK ros ((bAu (aVm c) rcs.length).map (sK P))) s fun s=>wL s xs fun vs =>
    dT N T (mkX P fl [] A (aWe (rcs.length+1) c) rc) oL (bF7 fn.ntmps vs s) (bA5 gr gp pv fn.ntmps xs.length rs ent.bs.length out)
  |false=>cuF ent.tys fun _=>none
 |_,_=>cuF ent.tys fun _=>none
theorem aJ3[YL]{P:Program}{N:Nat}{T:List Sig}(hT:gJ P T){fl:List Nat}[DecidableEq R]{r:R}{KP:AState->Prop}{Q:Exit->AState->Prop}{K:XS->Option R}{K2:Exit->XS->Option R}(hK:∀s,K s=some r->KP s.er)(hQ:∀e s,K2 e s=some r->Q e s.er):∀{AP:List (List Ann)} {cs:List Code} {rcs:List RCode} {s:XS},aUw N T K2 (aRw P fl AP cs rcs) s K=some r->vR P rcs KP Q s.er
 |_,[],[],s,h=>hK s h
 |_,_::_,[],s,h=>hK s h
 |AP,[],rc::rcs,s,h=>by
  have h:dT N T (mkX P fl [] [] .skip rc) oL s (aRx (fun s'=>aUw N T K2 (aRw P fl AP.tail [] rcs) s' K) K2)=some r:=h;have:=bM hT (wH P fl [] [] .skip rc) _ oL iC YRel.body h (Q:=rV (vR P rcs KP Q) Q) fun e s' h=>by
   cases e with
   |normal=>exact aJ3 hT hK hQ h
   |_=>exact hQ _ _ h
  rw[wA]at this;exact this
 |AP,c::cs,rc::rcs,s,h=>by
  have h:dT N T (mkX P fl [] (AP.headD []) c rc) oL s (aRx (fun s'=>aUw N T K2 (aRw P fl AP.tail cs rcs) s' K) K2)=some r:=h;have:=bM hT (wH P fl [] (AP.headD []) c rc) _ oL iC YRel.body h (Q:=rV (vR P rcs KP Q) Q) fun e s' h=>by
   cases e with
   |normal=>exact aJ3 hT hK hQ h
   |_=>exact hQ _ _ h
  rw[wA]at this;exact this
theorem aE0[YL]{g:Sig}(hg:nI P u u1 g){r:RT out}(h:aNo g N k rs n out s=some r)(hnbs:nbs.map some=erB (cJ out r).own):
  ∃hs bs2,hs.Nodup/\aG6 s.er.nx hs=true/\(∀h∈hs,(s.er.lk h).any Blk.isIt=false)/\bs2.length=hs.length/\
   DRec P g.fn (AV.convL s.er.lk (vB hs) (aCf N s.er k)) (oP s.er.lk hs) u u1 bs2/\lW n rs (XV.val (cJ out r).env).er (erB (cJ out r).bs) nbs .ret (dV s.er hs (aCf N s.er k) none .any bs2 []):=by
 unfold aNo aWg at h;split at h
 case h_2=>cases h
 rename_i hds hno _;obtain⟨v,rr,bl,hr,hbl,hpv,hargs,hh,c1,c2,c3,c4,c5,hk,he⟩:=aDv h;have hown:=aM0 rr hno;have hrec:=hg v rr hr hown;rw[hargs,<-hh,aOe]at hrec;obtain⟨x,hx,_,hq⟩:=kB hk;cases hx;have hend:=hq .ret (.inr rfl) nbs hnbs;rw[he,aOe]at hend;have hbl0:bl=[]:=by rw[hown]at hbl;exact jq.1 (jq.1 hbl)
 subst hbl0;exact⟨hds,_,c1,c2,c4,c5,hrec,hend⟩
theorem bAr(N:Nat){T:List Sig}(hT:gJ P T)(fl:List Nat)(A:List Ann)(AP:List (List Ann)){gr gp:Sig}{pv:Value}(hgr:nI P .returning .returning gr)(hgp:nI P (.panicking [{v:=pv,recovered:=false}]) (.panicking [{v:=pv,recovered:=true}]) gp){F:fty ent.tys (RT out)}(hf:P.funcs[f]?=some fn)(hb:fn.body=some c)(hname:(fn.name== "runtime.NumGoroutine")=false)(hm:P.follows .mixedOrders=true)
  (hno:aD1 out=false) (hn:ent.env.length<=fn.ntmps) (hF:∀a,apF ent.tys F a=apF ent.tys (aUc N P T fl A AP gr gp pv fn c ent out) a):aF P ⟨f,ent,out,F⟩:=by
 intro _ v r h nbs hnbs;have h:apF ent.tys F v=some r:=h;rw[hF]at h;unfold aUc at h;split at h
 case h_2=>rw[cF]at h;cases h
 rename_i rcs ros g xs rc rs hrc hrs;split at h
 case h_2=>rw[cF]at h;cases h
 rename_i hg;rw[cF]at h;rw[ν]at hg;have hg1:=η hg.1;have hg2:=η hg.2;have hlen:(erB (ent.fill v).bs).length=ent.bs.length:=by show(List.map _ (lY _ ent.bs _).1).length=_;rw[θ,mL]
 have hargs:((ent.fill v).env.map fun p=>p.2.er).length<=fn.ntmps:=by show(List.map _ (wU _ ent.env _).1).length<=_;rw[θ,sT];exact hn
 show yZ P f _ _ (cJ out r) nbs;unfold yZ;rw[aWx hno];refine ACall.of_bodyRR fl hf hb hname hm hrc hrs hargs (aQy (ent.fill v)) ?_;rw[hlen];refine aJ3 hT (fun s h=>?_) (fun e s h=>?_) h
 case refine_2=>
  cases e with
  |ret=>
   obtain⟨x,hx,_,hq⟩:=kB (show uS rs ent.bs.length out s some=some r from h);cases hx;exact hq _ (.inr rfl) nbs hnbs
  |_=>cases h
 have:=iO hT h (KP:=fun s'=>dK P iC rc (aP2 P fn.ntmps ent.bs.length g xs.length rs (XV.val (cJ out r).env).er (erB (cJ out r).bs) nbs) (aTs fn.ntmps (xs.map s'.ev) s')) fun s' h=>by
  obtain⟨vs,h,e⟩:=aBq h;rw[e,<-aZi];have:=bM hT (wH P fl [] A _ rc) _ oL iC YRel.body h (Q:=aP2 P fn.ntmps ent.bs.length g xs.length rs (XV.val (cJ out r).env).er (erB (cJ out r).bs) nbs) fun e s2 h=>by
   unfold bA5 at h;split at h
   ·obtain⟨hs,bs2,q⟩:=aE0 hgr h hnbs;rw[<-hg1]at q;exact⟨_,_,.inl ⟨.inl rfl,rfl,rfl⟩,hs,bs2,q⟩
   ·obtain⟨hs,bs2,q⟩:=aE0 hgr h hnbs;rw[<-hg1]at q;exact⟨_,_,.inl ⟨.inr rfl,rfl,rfl⟩,hs,bs2,q⟩
   ·split at h
    ·rename_i w _ he;obtain rfl:=aIn he;obtain⟨hs,bs2,q⟩:=aE0 hgp (by assumption) hnbs;rw[<-hg2]at q;exact⟨_,_,.inr ⟨_,rfl,rfl,rfl⟩,hs,bs2,q⟩
    ·cases h
   ·cases h
  rw[wA]at this;exact this
 rw[kX]at this;exact this
theorem aTt(N:Nat){T:List Sig}(hT:gJ P T)(fl:List Nat)(A:List Ann){gr gp:Sig}{pv:Value}(hgr:nI P .returning .returning gr)(hgp:nI P (.panicking [{v:=pv,recovered:=false}]) (.panicking [{v:=pv,recovered:=true}]) gp){F:fty ent.tys (RT out)}(hf:P.funcs[f]?=some fn)(hb:fn.body=some c)(hname:(fn.name== "runtime.NumGoroutine")=false)(hm:P.follows .mixedOrders=true)
  (hno:aD1 out=false) (hn:ent.env.length<=fn.ntmps) (hF:∀a,apF ent.tys F a=apF ent.tys (aUc N P T fl A [] gr gp pv fn c ent out) a):aF P ⟨f,ent,out,F⟩:=bAr N hT fl A [] hgr hgp hf hb hname hm hno hn hF
end
end Go.Eng
namespace Go.Eng
open Go.RowKit Go.ChangeShapes Go.WideShapes Go.ChangeAt
variable{P:Program}{t e:TypeId}{G:Gh}{m:HM}{W w:World}{v:Value}{α H:Type}{k base:Nat}{cs:List Value}{ds:List DV}{f:Nat->Option Value}{vs:Array Value}{d:TypeDesc}
def gOf(w:World):Gh:=fun b o=>w.cell? ⟨b,o,none⟩
def CRep(G:Gh)(ds:List DV)(cs:List Value):Prop:=ds.length=cs.length/\DV.cells G (fun j=>cs[j]?) 0 ds
theorem CRep.nil:CRep G [] []:=⟨rfl,by simp[DV.cells]⟩
theorem CRep.app{d1 d2:List DV}(n:Nat)(h1:CRep G d1 (cs.take n))(h2:CRep G d2 (cs.drop n)):CRep G (d1++d2) cs:=by
 obtain⟨l1,c1⟩:=h1;obtain⟨l2,c2⟩:=h2;rw[cp]at l1;rw[aw]at l2;refine⟨by rw[κ];omega,DV.cells_append (DV.cells_congr (fun i hi=>?_) c1) (DV.cells_congr (o:=0) (fun i hi=>?_) c2)⟩
 ·simp only[az];rw[dg (by omega)]
 ·simp only[az];rw[dm];rcases db n cs.length with h|h
  ·rw[show d1.length=n by omega]
  ·exfalso;omega
theorem CRep.one{d:DV}(h:DV.Rep G d v):CRep G [d] [v]:=⟨rfl,by simp[DV.cells];exact h⟩
structure Cv (P:Program) (t:TypeId) {α:Type} (row:α->List DV) (k:Nat) (ok:α->Prop):Prop where
 len:∀x,(row x).length=k
 cells:P.cellsOf t=k
 get:∀{H:Type} (enc:TypeId×Value->H) (w:World) (spare:Nat->Bool) (held:Bool) (fuel:Nat) (cs:List Value) (r:DataW H×List MemPlace),DataW.trod enc P w 0 spare held fuel t cs=some r->∃x,ok x/\CRep (gOf w) (row x) cs
theorem Cv.int{P:Program}{t:TypeId}{k:IntKind}(ht:P.underlying t=some (.int k))(hc:P.cellsOf t=1):Cv P t (Ty.i k).ds 1 fun n=>k.min<=n/\n<=k.max:=
 ⟨fun _=>rfl,hc,fun enc w spare held fuel cs r h=>by
  obtain⟨n,rfl,_,hw⟩:=DataW.trod_int ht h;simp only[Lit.wf,ν,decide_eq_true_eq]at hw;exact⟨n,hw,CRep.one (by unfold DV.Rep;rfl)⟩⟩
theorem Cv.bool{P:Program}{t:TypeId}(ht:P.underlying t=some .bool)(hc:P.cellsOf t=1):Cv P t Ty.b.ds 1 fun _=>True:=
 ⟨fun _=>rfl,hc,fun enc w spare held fuel cs r h=>by
  obtain⟨b,rfl,_⟩:=DataW.trod_bool ht h;exact⟨b,trivial,CRep.one (by unfold DV.Rep;rfl)⟩⟩
theorem Cv.string{P:Program}{t:TypeId}(ht:P.underlying t=some .string)(hc:P.cellsOf t=1):Cv P t Ty.s.ds 1 fun s=>s.length<=9223372036854775807:=
 ⟨fun _=>rfl,hc,fun enc w spare held fuel cs r h=>by
  obtain⟨s,rfl,_,hs⟩:=DataW.trod_string ht h;exact⟨s.data.toList,by simpa[maxLen]using hs,CRep.one (by unfold DV.Rep;rfl)⟩⟩
theorem aIs{α:Type}{Q:Nat->α->Prop}:∀(n:Nat),(∀i,i<n->∃x,Q i x)->∃xs:List α,xs.length=n/\∀i x,xs[i]?=some x->Q i x
 |0,_=>⟨[],rfl,fun i x h=>by simp at h⟩
 |n+1,h=>by
  obtain⟨xs,h1,h2⟩:=aIs n (fun i hi=>h i (by omega));obtain⟨x,hx⟩:=h n (by omega);refine⟨xs++[x],by simp[h1],fun i y hy=>?_⟩;rcases db i xs.length with hi|hi
  ·rw[bg hi]at hy;exact h2 i y hy
  ·rw[bw hi]at hy;have:i-xs.length=0:=by
    rcases Nat.eq_zero_or_pos (i-xs.length)with e|e
    ·exact e
    ·rw[cx (by simp;omega)]at hy;cases hy
   rw[this]at hy;simp at hy;subst hy;rw[show i=n by omega];exact hx
theorem aRd{α:Type}{G:Gh}{row:α->List DV}{k:Nat}{f:Nat->Option Value}(hk:∀x,(row x).length=k):∀(xs:List α) (o:Nat),(∀i x,xs[i]?=some x->DV.cells G f (o+i*k) (row x))->DV.rows G f k o (xs.map row)
 |[],_,_=>by simp[DV.rows]
 |x::xs,o,h=>by simp only[ct];unfold DV.rows;refine⟨hk x,by simpa using h 0 x rfl,aRd hk xs (o+k) (fun i y hy=>?_)⟩;have:=h (i+1) y (by simpa using hy);rwa[Nat.add_mul,Nat.one_mul,Nat.add_comm (i*k) k,<-ei]at this
theorem Cv.slice{P:Program}{t e:TypeId}{α:Type}{row:α->List DV}{k:Nat}{ok:α->Prop}(hE:Cv P e row k ok)(hk:0<k)(ht:P.underlying t=some (.slice e))(hc:P.cellsOf t=1):
  Cv P t (fun xs:List α=>[DV.L (xs.map row)]) 1 fun xs=>xs.length<=9223372036854775807/\∀x∈xs,ok x:=
 ⟨fun _=>rfl,hc,fun enc w spare held fuel cs r h=>by
  rcases Go.Deep.open_slice ht h with⟨rfl,_⟩|⟨a,len,cap,m,n,D,Pl,rfl,_,hl,hm,hmm,_,hi⟩
  ·refine⟨[],⟨by simp,by simp⟩,CRep.one ?_⟩;unfold DV.Rep;exact⟨none,0,rfl,ω _,fun _=>rfl,fun h=>absurd rfl h⟩
  ·have hlm:len<=m:=by rw[hmm];split<;>omega
   obtain⟨xs,h1,h2⟩:=aIs (Q:=fun i x=>ok x/\∃cs',w.cells? 0 (a.add (i*P.cellsOf e)) (P.cellsOf e)=some cs'/\CRep (gOf w) (row x) cs') len (fun i hil=>by
    obtain⟨cs',hc',htr⟩:=hi i (by omega);obtain⟨x,hx,hr⟩:=hE.get enc w spare held n cs' _ htr;exact⟨x,hx,cs',hc',hr⟩)
   refine⟨xs,⟨by rw[h1];simp[maxLen]at hm;omega,fun x hx=>?_⟩,CRep.one ?_⟩
   ·obtain⟨i,hi⟩:=df hx;exact(h2 i x hi).1
   ·unfold DV.Rep;refine⟨some a,cap,by rw[θ,h1],by rw[θ,h1];exact hl,(fun e=>by cases e),fun hne=>?_⟩;have hx0:∃x,xs[0]?=some x:=by
     cases xs with
     |nil=>simp at hne
     |cons x _=>exact⟨x,rfl⟩
    obtain⟨x0,hx0⟩:=hx0;obtain⟨_,cs0,hc0,hl0,_⟩:=h2 0 x0 hx0;obtain⟨_,hcl0,hat0⟩:=World.cells?_some hc0;rw[hE.cells]at hcl0 hat0;have hspot:a=⟨a.block,a.off,none⟩:=by
     have h3:=hat0 0 hk;have h4:(cs0[0]?).isSome=true:=by rw[μ (by omega)];rfl
     rw[<-h3]at h4;obtain⟨b,o,sp⟩:=a;cases sp with
     |none=>rfl
     |some _=>exfalso;simp[World.cell?,Addr.add]at h4;split at h4<;>cases h4
    refine⟨a.block,a.off,k,by rw[<-hspot],aRd hE.len xs a.off (fun i x hx=>?_)⟩;obtain⟨_,cs',hc',hl',hcr⟩:=h2 i x hx;obtain⟨_,hcl,hat⟩:=World.cells?_some hc';rw[hE.cells]at hcl hat;refine DV.cells_congr (o:=0) (fun j hj=>?_) hcr;have hj':j<k:=by rw[hE.len]at hj;exact hj
    have:=hat j hj';rw[hspot,Addr.add_lit,Addr.add_lit]at this;rw[az,<-this];rfl⟩
theorem Cv.struct{P:Program}{t:TypeId}{fs:Array Field}{α:Type}{row:α->List DV}{k:Nat}{ok:α->Prop}(ht:P.underlying t=some (.struct fs))(hc:P.cellsOf t=k)(hlen:∀x,(row x).length=k)
  (h:∀(G:Gh) (cs:List Value),cs.length=k->(∀(i:Nat) (f:Field),fs[i]?=some f->∀{α:Type} {row:α->List DV} {k':Nat} {ok:α->Prop},Cv P f.type row k' ok->∃x,ok x/\CRep G (row x) ((cs.drop f.offset).take k'))->∃x,ok x/\CRep G (row x) cs):Cv P t row k ok:=
 ⟨hlen,hc,fun enc w spare held fuel cs r hr=>by
  obtain⟨xs,n,_,_,hcl,hxl,hf⟩:=DataW.trod_struct ht hr;refine h (gOf w) cs (by rw[hcl,hc]) (fun i f hi α' row' k' ok' hcv=>?_);have h1:=hf i f hi;have hlt:=(Array.getElem?_eq_some_iff.1 hi).1;rw[μ (by omega)]at h1;obtain⟨x,hx,hxr⟩:=hcv.get enc w spare held n _ _ h1;rw[hcv.cells]at hxr;exact⟨x,hx,hxr⟩⟩
theorem CRep.cons{rest:List DV}{o:Nat}(h1:CRep G ds ((cs.drop o).take k))(h2:CRep G rest (cs.drop (o+k))):CRep G (ds++rest) (cs.drop o):=
 CRep.app k h1 (by rwa[di])
theorem aHr(h:CRep G ds cs):AV.RepL G m (ds.map .D) cs:=
 AV.RepL_data h.2 (fun j hj=>by rw[az]) h.1.symm
theorem yC{d:DV}(h:CRep G [d] v.cells.toList)(hv:v.oneCell'=true):AV.Rep G m (.D d) v:=by have:=aHr (m:=m) h;rw[vM hv]at this;simp only[ct,List.map_nil]at this;unfold AV.RepL at this;obtain⟨u,us,e,h2,_⟩:=this;cases e;exact h2
theorem aNn{cs:Array Value}(h:CRep G ds cs.toList):AV.Rep G m (.agg (ds.map .D)) (.agg cs):=by unfold AV.Rep;exact⟨cs,rfl,aHr h⟩
theorem aZe(w:World)(hg:GlOk (gOf w)):Sim (gOf w) (fun _=>none) (eX [] []) w:=⟨(fun _ _ _ h=>by cases h),(fun _ h=>by cases h),(fun _ _ _ _ _ h=>by cases h),(fun _ _ _ h=>h),(fun _ h=>by cases h),hg,(fun _ _ _ _ h=>by cases h)⟩
theorem CallDoes.calls{f:FuncId}{R:Value->World->Prop}(hfn:aVv P f)(h:CallDoes P f vs w R):Calls P f vs w fun e w'=>∃v,e=.returned v/\R v w':=by
 rcases h with⟨_,h⟩|⟨v,w',h1,_⟩
 ·exact h
 ·exfalso;obtain⟨fd,q1,q2,q3⟩:=hfn;have hnone:fd.body.isNone=false:=by rw[Option.isNone_eq_false_iff];exact q2
  simp only[callFunc,Sem.run_bind,run_program,Result.andThen_ok,q1,q3,hnone,Bool.false_eq_true,if_false]at h1;simp at h1
theorem aSw{f:FuncId}{args:List AV}(hfn:aVv P f)(hg:GlOk (gOf w))(hc:ACall P f args [] (.D (.B true)) [] [])(hr:AV.RepL (gOf w) (fun _=>none) args vs.toList):
  Calls P f vs w fun e w'=>e=.returned (.bool true)/\Below w.heap.size w w':=
 (CallDoes.calls hfn (hc w (gOf w) _ vs (aZe w hg) (fun _=>rfl) hr)).mono fun e w' ⟨v,he,G',m',_,hv,hF,_⟩=>by have:=zL hv;subst this;exact⟨he,hF.os,hF.tape.1,hF.output,hF.size,fun b hb=>hF.heap b hb (Own.no b)⟩
theorem vL{H:Type}{enc:TypeId×Value->H}{P:Program}(hl:laidOutB P=true){W W':World}(hb:Below W.heap.size W W')(sp:Nat->Bool):∀{ts:List TypeId} {vs:List Value} {ds:List (DataW H)} {ps:List MemPlace},
  (∀t∈ts,P.readableRec t=true/\t<P.types.size)->DataW.TrodAll enc P W 0 (fun _=>true) true ts vs ds ps->(∀p∈ps,p.block<W.heap.size)->(∀p∈ps,sp p.block=true)->DataW.TrodAll enc P W' 0 sp true ts vs ds ps
 |[],[],[],_,_,h,_,_=>h
 |t::ts,v::vs,d::ds,ps,ht,h,hlt,hsp=>by
  obtain⟨p,q,h1,h2,rfl⟩:=h;exact⟨p,q,WideElems.Trod_stays hl (ht t (by simp)).1 (ht t (by simp)).2 h1 (fun x hx=>hb.same (hlt x (by simp[hx]))) (fun x hx=>hsp x (by simp[hx])),
   vL hl hb sp (fun t' h'=>ht t' (by simp[h'])) h2 (fun x hx=>hlt x (by simp[hx])) (fun x hx=>hsp x (by simp[hx])),rfl⟩
 |[],[],_::_,_,_,h,_,_=>h.elim
 |[],_::_,ds,_,_,h,_,_=>by cases ds<;>exact h.elim
 |_::_,[],ds,_,_,h,_,_=>by cases ds<;>exact h.elim
 |_::_,_::_,[],_,_,h,_,_=>h.elim
theorem aV8{f:Func}{s:ChangeSpec}{enc:TypeId×Value->H}{W':World}{args:Array Value}{ds:List (DataW H)}{before:List MemPlace}{tb:TypeId}(hl:laidOutB P=true)
  (hW:DataW.Whole enc P f.params.toList s.vars false W args.toList ds [] before) (hvars:s.vars=[]) (hs:s.fn H (ds++[])={results:=[.lit (.bool true)],args:=ds}) (hr:f.resultTypes=#[tb]) (htb:P.underlying tb=some .bool)
  (hp:∀t∈f.params.toList,P.readableRec t=true/\t<P.types.size) (hb:Below W.heap.size W W'):s.post enc P f false true false false W args (.bool true) W':=by
 have hlt:∀p∈before,p.block<W.heap.size:=fun p hp=>hW.lt p hp;have hW0:=hW;obtain⟨p,q,hA,hV,hpq,hz,hn⟩:=hW0;have hV0:=hV;rw[hvars]at hV0;have hq:q=[]:=by simpa[DataW.TrodVars]using hV0
 subst hq;rw[υ]at hpq;subst hpq;have hstay:∀sp:Nat->Bool,(∀x∈before,sp x.block=true)->DataW.TrodAll enc P W' 0 sp true f.params.toList args.toList ds before:=fun sp hsp=>vL hl hb sp hp hA hlt hsp;have hres:∀(b:Nat) (sp:Nat->Bool) (hd:Bool),DataW.TrodAll enc P W' b sp hd f.resultTypes.toList ((Value.bool true).resultList f.resultTypes.size) [.lit (.bool true)] []:=fun b sp hd=>by rw[hr];exact trodAll_mk1 ⟨1,by simp[DataW.trod,Value.cells,htb]⟩
 have hvt:∀sp:Nat->Bool,DataW.TrodVars enc P W' sp s.vars (s.fn H (ds++[])).vars []:=fun sp=>by rw[hvars,hs];exact rfl
 refine⟨ds,[],before,[],before,[],hW,by rw[hs];exact hres _ _ _,by rw[hs];exact hstay _ (fun p hp=>by simpa using hlt p hp),hvt _,World.keptBut_mono (fun p hp=>⟨hp,.inr (.inl hp)⟩) (hb.frame (· ∈before)),fun h=>by cases h⟩
theorem DV.cells_of{G:Gh}{f:Nat->Option Value}:∀{ds:List DV} {o:Nat},(∀i d,ds[i]?=some d->∃v,f (o+i)=some v/\DV.Rep G d v)->DV.cells G f o ds
 |[],o,_=>by unfold DV.cells;trivial
 |d::ds,o,h=>by
  unfold DV.cells;obtain⟨v,h1,h2⟩:=h 0 d rfl;exact⟨⟨v,h1,h2⟩,DV.cells_of fun i e hi=>by
   obtain⟨u,h3,h4⟩:=h (i+1) e (by simpa using hi);exact⟨u,by rw[<-h3];congr 1;omega,h4⟩⟩
theorem Cv.array{P:Program}{t e:TypeId}{n:Nat}{k:IntKind}(he:P.underlying e=some (.int k))(hce:P.cellsOf e=1)(ht:P.underlying t=some (.array n e))(hc:P.cellsOf t=n):
  Cv P t (Ty.ar n k).ds n fun x=>∀y∈x.l,k.min<=y/\y<=k.max:=⟨fun x=>Ty.ds_len (.ar n k) x,hc,fun enc w spare held fuel cs r h=>by
  obtain⟨xs,m,_,_,hcl,hxl,hf⟩:=DataW.trod_array ht h;rw[hc]at hcl;simp only[hce,cu]at hf;obtain⟨zs,hl,hz⟩:=aIs (Q:=fun i z=>(k.min<=z/\z<=k.max)/\cs[i]?=some (.int k z)) n fun i hi=>by have h1:=hf i hi;rw[μ (by omega)]at h1;obtain⟨z,hz,_,hw⟩:=DataW.trod_int he h1;simp only[Lit.wf,ν,decide_eq_true_eq]at hw;refine⟨z,hw,?_⟩;have h2:=congrArg (·[0]?) hz;simpa[List.getElem?_take,dm]using h2
  refine⟨⟨zs,hl⟩,fun y hy=>?_,?_⟩
  ·obtain⟨i,hi⟩:=df hy;exact(hz i y hi).1
  ·refine⟨by rw[Ty.ds_len];show n=_;omega,DV.cells_of fun i d hd=>?_⟩;have hd:(zs.map (DV.I k))[i]?=some d:=hd;rw[ao,ζ]at hd;obtain⟨z,hz1,rfl⟩:=hd;exact⟨_,by rw[az];exact(hz i z hz1).2,by unfold DV.Rep;rfl⟩⟩
theorem aM7{name:String}{g:Nat}{k:IntKind}{zs:List Int}(hT:Lib.TabIs P W name k zs)(hg:P.globalNamed name=some g):DV.cells (gOf W) (gOf W g) 0 (zs.map (DV.I k)):=by refine DV.cells_of fun i d hd=>?_;rw[ao,ζ]at hd;obtain⟨z,hz,rfl⟩:=hd;have hi:i<zs.length:=(aq.1 hz).1;refine⟨.int k z,?_,by unfold DV.Rep;rfl⟩;have h1:=hT.cell hg i hi;rw[List.getD,hz]at h1;rw[az];exact h1
def Ty.ok:(t:Ty)->t.T->Prop
 |.i k,n=>k.min<=n/\n<=k.max
 |.s,x=>x.length<=9223372036854775807
 |.sl t,xs=>xs.length<=9223372036854775807/\∀x∈xs,t.ok x
 |.ar _ k,x=>∀y∈x.l,k.min<=y/\y<=k.max
 |.p a c,v=>a.ok v.1/\c.ok v.2
 |.w a,v=>a.ok v
 |_,_=>True
def isD:TypeDesc->TypeDesc->Bool
 |.bool,.bool=>true
 |.string,.string=>true
 |.int k,.int k'=>decide (k=k')
 |_,_=>false
theorem bCk:∀{a b:TypeDesc},isD a b=true->a=b:=by intro a b h;unfold isD at h;split at h<;>first|rfl|(rw[of_decide_eq_true h];done)|cases h
def aXa(P:Program)(t:TypeId)(d:TypeDesc):Bool:=match P.underlying t with
 |some d'=>isD d' d
 |none=>false
theorem aPu(h:aXa P t d=true):P.underlying t=some d:=by
 unfold aXa at h;split at h
 ·rename_i d' hd;rw[hd,bCk h]
 ·cases h
def sI(P:Program)(t:TypeId)(d:TypeDesc):Bool:=aXa P t d&&au (P.cellsOf t) 1
def aBi(g:TypeId->Bool)(fs:List Field)(o:Nat):Bool:=match fs with
 |[f]=>au f.offset o&&g f.type
 |_=>false
def slB(P:Program)(n:Nat)(g:TypeId->Bool)(t:TypeId):Bool:=match P.underlying t with
 |some (.slice e)=>g e&&au (P.cellsOf t) 1&&Nat.blt 0 n
 |_=>false
def arB(P:Program)(n:Nat)(k:IntKind)(t:TypeId):Bool:=match P.underlying t with
 |some (.array m e)=>au m n&&aXa P e (.int k)&&au (P.cellsOf e) 1&&au (P.cellsOf t) n
 |_=>false
def stB(P:Program)(n:Nat)(g:List Field->Nat->Bool)(t:TypeId):Bool:=match P.underlying t with
 |some (.struct fs)=>g fs.toList 0&&au (P.cellsOf t) n
 |_=>false
def aWv(n:Nat)(g:TypeId->Bool)(h:List Field->Nat->Bool)(fs:List Field)(o:Nat):Bool:=match fs with
 |f::fs=>au f.offset o&&g f.type&&h fs (o+n)
 |[]=>false
def bCi:List Field->Nat->Bool
 |[],_=>true
 |_,_=>false
def cvB(P:Program):Ty->(TypeId->Bool)×(List Field->Nat->Bool)
 |.u=>(fun _=>false,bCi)
 |.b=>(fun t=>sI P t .bool,aBi fun t=>sI P t .bool)
 |.i k=>(fun t=>sI P t (.int k),aBi fun t=>sI P t (.int k))
 |.s=>(fun t=>sI P t .string,aBi fun t=>sI P t .string)
 |.ar n k=>(arB P n k,aBi (arB P n k))
 |.sl t=>(slB P t.n (cvB P t).1,aBi (slB P t.n (cvB P t).1))
 |.w x=>(stB P x.n (cvB P x).2,aBi (stB P x.n (cvB P x).2))
 |.p a c=>(fun _=>false,aWv a.n (cvB P a).1 (cvB P c).2)
 |.o _=>(fun _=>false,fun _ _=>false)
def bG2(P:Program)(G:Gh)(cs:List Value)(f:Field):Prop:=∀{α:Type} {row:α->List DV} {k':Nat} {ok:α->Prop},Cv P f.type row k' ok->∃x,ok x/\CRep G (row x) ((cs.drop f.offset).take k')
def bAk(P:Program)(t:Ty)(fs:List Field)(o:Nat):Prop:=∀(G:Gh) (cs:List Value),cs.length=o+t.n->(∀f∈fs,bG2 P G cs f)->∃x:t.T,t.ok x/\CRep G (t.ds x) (cs.drop o)
theorem pM{g:TypeId->Bool}{t:Ty}(hg:∀i,g i=true->Cv P i t.ds t.n t.ok){fs:List Field}{o:Nat}(h:aBi g fs o=true):bAk P t fs o:=by
 unfold aBi at h;split at h
 ·rename_i f;simp only[ν]at h;have ho:=η h.1;intro G cs hl hf;obtain⟨x,hx,hr⟩:=hf f (List.mem_singleton.2 rfl) (hg _ h.2);refine⟨x,hx,?_⟩;rw[ho,bf (by rw[aw];omega)]at hr;exact hr
 ·cases h
theorem jR(h:sI P t d=true):P.underlying t=some d/\P.cellsOf t=1:=by simp only[sI,ν]at h;exact⟨aPu h.1,η h.2⟩
theorem aDd(P:Program):∀T:Ty,(∀i,(cvB P T).1 i=true->Cv P i T.ds T.n T.ok)/\∀fs o,(cvB P T).2 fs o=true->bAk P T fs o
 |.u=>by
  refine⟨fun _ h=>(by cases h),fun fs o h=>?_⟩;cases fs with
  |nil=>exact fun G cs hl _=>⟨(),trivial,by rw[List.drop_of_length_le (by simp[hl,Ty.n])];exact CRep.nil⟩
  |cons _ _=>cases h
 |.b=>by
  have h1:∀i,sI P i .bool=true->Cv P i Ty.b.ds 1 Ty.b.ok:=fun i h=>Cv.bool (jR h).1 (jR h).2;exact⟨h1,fun fs o h=>pM (t:=.b) h1 h⟩
 |.i k=>by
  have h1:∀i,sI P i (.int k)=true->Cv P i (Ty.i k).ds 1 (Ty.i k).ok:=fun i h=>Cv.int (jR h).1 (jR h).2;exact⟨h1,fun fs o h=>pM (t:=.i k) h1 h⟩
 |.s=>by
  have h1:∀i,sI P i .string=true->Cv P i Ty.s.ds 1 Ty.s.ok:=fun i h=>Cv.string (jR h).1 (jR h).2;exact⟨h1,fun fs o h=>pM (t:=.s) h1 h⟩
 |.ar n k=>by
  have h1:∀i,arB P n k i=true->Cv P i (Ty.ar n k).ds n (Ty.ar n k).ok:=fun i h=>by
   unfold arB at h;split at h
   ·rename_i m e hu;simp only[ν,decide_eq_true_eq]at h;obtain⟨⟨⟨h1,h2⟩,h3⟩,h4⟩:=h;obtain rfl:=η h1;exact Cv.array (aPu h2) (η h3) hu (η h4)
   ·cases h
  exact⟨h1,fun fs o h=>pM (t:=.ar n k) h1 h⟩
 |.sl t=>by
  have h1:∀i,slB P t.n (cvB P t).1 i=true->Cv P i (Ty.sl t).ds 1 (Ty.sl t).ok:=fun i h=>by
   unfold slB at h;split at h
   ·rename_i e hu;simp only[ν]at h;exact Cv.slice ((aDd P t).1 _ h.1.1) (dn Nat.zero_lt_one (eo h.2)) hu (η h.1.2)
   ·cases h
  exact⟨h1,fun fs o h=>pM (t:=.sl t) h1 h⟩
 |.w x=>by
  have h1:∀i,stB P x.n (cvB P x).2 i=true->Cv P i (Ty.w x).ds x.n (Ty.w x).ok:=fun i h=>by
   unfold stB at h;split at h
   ·rename_i fs hu;simp only[ν]at h;refine Cv.struct hu (η h.2) (fun y=>Ty.ds_len x y) fun G cs hl hf=>?_;obtain⟨y,hy,hr⟩:=(aDd P x).2 _ _ h.1 G cs (by rw[hl,az]) fun f hm=>by obtain⟨i,hi⟩:=df hm;rw[Array.getElem?_toList]at hi;exact fun{α} {row} {k'} {ok} hcv=>hf i f hi hcv
    exact⟨y,hy,hr⟩
   ·cases h
  exact⟨h1,fun fs o h=>pM (t:=.w x) h1 h⟩
 | .p a c=>by
   refine⟨fun _ h=>(by cases h),fun fs o h=>?_⟩;have h:aWv a.n (cvB P a).1 (cvB P c).2 fs o=true:=h;cases fs with
   |nil=>cases h
   |cons f fs=>
    simp only[aWv,ν]at h;intro G cs hl hf;have hl:cs.length=o+(a.n+c.n):=hl;obtain⟨x,hx,hr⟩:=hf f (ga ..) ((aDd P a).1 _ h.1.2);rw[η h.1.1]at hr;obtain⟨y,hy,hq⟩:=(aDd P c).2 _ _ h.2 G cs (by omega) fun g hg=>fun{α} {row} {k'} {ok} hcv=>hf g (gy _ hg) hcv;exact⟨(x,y),⟨hx,hy⟩,CRep.cons hr hq⟩
 |.o _=>⟨fun _ h=>(by cases h),fun _ _ h=>(by cases h)⟩
def cvL(P:Program):List Ty->List TypeId->Bool
 |[],[]=>true
 |T::Ts,t::ts=>(cvB P T).1 t&&cvL P Ts ts
 |_,_=>false
def aNj:(Ts:List Ty)->tup Ts->Prop
 |[],_=>True
 |T::Ts,x=>T.ok x.1/\aNj Ts x.2
def aHy:(Ts:List Ty)->tup Ts->List AV
 |[],_=>[]
 |T::Ts,x=>gF T x.1::aHy Ts x.2
theorem aOs{r:Reach}{n:Nat}(ht:P.underlying t=some (.array n e))(h:Value.okWide P w r base t v):∃cs,v=.agg cs:=by unfold Value.okWide at h;rw[ht]at h;obtain⟨cs,h,_⟩:=h;exact⟨cs,h⟩
theorem aZl{T:Ty}{x:T.T}(hc:(cvB P T).1 t=true)(hw:Value.okWide P W .any base t v)(hr:CRep (gOf W) (T.ds x) v.cells.toList):AV.Rep (gOf W) m (gF T x) v:=by
 cases T with
 |u=>cases hc
 |b=>obtain⟨b,rfl⟩:=okWide_bool (jR hc).1 hw;exact yC hr rfl
 |i k=>obtain⟨n,rfl⟩:=okWide_int (k:=k) (jR hc).1 hw;exact yC hr rfl
 |s=>obtain⟨n,rfl⟩:=okWide_string (jR hc).1 hw;exact yC hr rfl
 |p a c=>cases hc
 |w y=>
  have hc:stB P y.n (cvB P y).2 t=true:=hc;unfold stB at hc;split at hc
  ·rename_i fs hu;obtain⟨cs,rfl,_⟩:=okWide_struct hu hw;exact aNn hr
  ·cases hc
 |ar n k=>
  have hc:arB P n k t=true:=hc;unfold arB at hc;split at hc
  ·rename_i m' e hu;obtain⟨cs,rfl⟩:=aOs hu hw;exact aNn hr
  ·cases hc
 |sl y=>
  have hc:slB P y.n (cvB P y).1 t=true:=hc;unfold slB at hc;split at hc
  ·rename_i e hu;obtain⟨a,l,c,rfl⟩:=okWide_slice hu hw;exact yC hr rfl
  ·cases hc
 |o y=>cases hc
theorem aMk{P:Program}{W:World}{base:Nat}{H:Type}{enc:TypeId×Value->H}{spare:Nat->Bool}{held:Bool}{m:HM}:∀{Ts:List Ty} {ts:List TypeId} {vs:List Value} {ds:List (DataW H)} {ps:List MemPlace},cvL P Ts ts=true->DataW.TrodAll enc P W 0 spare held ts vs ds ps->(∀(j:Nat) t v,ts[j]?=some t->vs[j]?=some v->Value.okWide P W .any base t v)->∃x:tup Ts,aNj Ts x/\AV.RepL (gOf W) m (aHy Ts x) vs
 |[],[],vs,ds,ps,_,hA,_=>by
  obtain⟨rfl,_,_⟩:=trodAll_nil hA;exact⟨(),trivial,rfl⟩
 |T::Ts,t::ts,vs,ds,ps,hc,hA,hw=>by
  simp only[cvL,ν]at hc;obtain⟨v,vs1,d,ds1,p0,p1,rfl,rfl,rfl,t0,hA1⟩:=trodAll_cons hA;obtain⟨f0,t0⟩:=t0;obtain⟨x,hx,hr⟩:=((aDd P T).1 t hc.1).get enc W _ _ f0 _ _ t0;obtain⟨y,hy,hq⟩:=aMk (m:=m) hc.2 hA1 fun j t v h1 h2=>hw (j+1) t v (by simpa using h1) (by simpa using h2);exact⟨(x,y),⟨hx,hy⟩,_,_,rfl,aZl hc.1 (hw 0 t v rfl rfl) hr,hq⟩
 |[],_::_,_,_,_,h,_,_=>by cases h
 |_::_,[],_,_,_,h,_,_=>by cases h
end Go.Eng
namespace Go.Eng
open Go.RowKit
variable{α β:Type}
@[simp] theorem aS{a b:Option α}:if? true a b=a:=rfl
@[simp] theorem aR{a b:Option α}:if? false a b=b:=rfl
@[simp] theorem aB{x:α}{f:α->Option β}:bd? (some x) f=f x:=rfl
@[simp] theorem aC{xs:List α}{a:Option β}:gl? xs.length xs a=a:=if_pos rfl
@[simp] theorem bG8{α:Type}[DecidableEq α]{x:α}{a:Option β}:gd? (x=x) a=a:=if_pos rfl
theorem aL{p:Prop}[Decidable p]{a:Option α}(h:p):gd? p a=a:=if_pos h
@[simp] theorem vY{r:β}{f:α->Option β}:jn? (some (Sum.inl r)) f=some r:=rfl
@[simp] theorem aGw{x:α}{f:α->Option β}:jn? (some (Sum.inr x)) f=f x:=rfl
@[simp] theorem nO{r:β}:(jE (some r):Option (β⊕α))=some (.inl r):=rfl
@[simp] theorem nY{γ:Type}{x:α}{f:α->Option γ}{g:β->Option γ}:sm? (Sum.inl x) f g=f x:=rfl
@[simp] theorem lE{γ:Type}{y:β}{f:α->Option γ}{g:β->Option γ}:sm? (Sum.inr y) f g=g y:=rfl
theorem aJr{n:Int}(h:-9223372036854775808<=n)(h':n<=9223372036854775807):IntKind.wrap .i64 n=n:=by rw[IntKind.wrap_i64];omega
theorem bO{n:Int}{a:Option α}(h:-9223372036854775808<=n)(h':n<=9223372036854775807):ck .i64 n a=a:=by unfold ck;rw[if_pos (aJr h h')]
theorem hU{xs:List α}{i:Nat}{x:α}{f:α->Option β}(h:xs[i]?=some x):bE xs (i:Int) f=f x:=by unfold bE;rw[if_pos (Int.natCast_nonneg i),χ,h]
theorem sA{xs:List α}{j:Int}{x:α}{f:α->Option β}(h0:0<=j)(h:xs[j.toNat]?=some x):bE xs j f=f x:=by unfold bE;rw[if_pos h0,h]
theorem bBo{xs:List α}{i:Nat}{x:α}{f:α->Option β}(h:xs[i]?=some x):gn? xs i f=f x:=by unfold gn?;rw[h]
end Go.Eng
