/- Texts of this claim. -/
import Derived.Test.YtjhhgpencphgoaaDoorYA
import Derived.ProofKit
import Derived.Deep.Slices
import Derived.OpenShut
import Derived.Lib.LaidTab
open Bool renaming and_assoc->ij,and_eq_true->μ,and_true->ga,eq_iff_iff->ft,noConfusion->c6,not_eq_true'->dh,or_eq_true->fh
open Int renaming toNat_natCast->be
open List renaming append_assoc->a9,append_nil->bj,drop_append_of_le_length->d8,drop_drop->eg,drop_eq_nil_of_le->ef,drop_zero->da,getD_cons_succ->jp,getElem?_append_left->b6,getElem?_append_right->cg,getElem?_drop->en,getElem?_eq_getElem->ν,getElem?_eq_none->dc,getElem?_eq_some_iff->ω,getElem?_map->τ,getElem?_of_mem->d5,getElem?_take_of_lt->dq,length_append->κ,length_drop->υ,length_map->ι,length_take->bz,map_append->cd,map_cons->df,map_drop->cj,map_eq_nil_iff->jo,map_map->fk,map_replicate->f9,map_set->gt,map_take->ce,mem_cons->cq,mem_cons_of_mem->dw,mem_cons_self->c9,nil_append->d6,nodup_cons->eq,nodup_nil->i8,replicate->br,take_append_of_le_length->ey,take_of_length_le->bn
open Nat renaming add_assoc->gc,beq->χ,beq_eq->f8,ble->j2,eq_of_beq_eq_true->η,le_add_right->ge,le_of_ble_eq_true->e8,le_refl->π,lt_of_lt_of_le->d7,lt_or_ge->dv,mul_one->dk,succ_lt_succ->im,succ_pos->jc,zero_add->bq,zero_le->eo
open Option renaming ite_none_right_eq_some->δ,map_eq_some_iff->ζ
set_option linter.all false
namespace Go.Eng
open Go.RowKit
variable{s m ent s':XS}{P:Program}{v a y vf vy:XV}{k off n sz bytes N:Nat}{KP:AState->Prop}{t:Ty}{out:List XS}{f:FuncId}{fn:Func}{vs l xs ys cs:List XV}{c:Code}{j:Int}{dst ag:Option Nat}{rs:List RRes}{ty:Option Ty}{h hd:Hd}{α:Type}{q:Bool}{hs:List Hd}{xo yo:Operand}{u u1:FrameMode}{zs args:List AV}{w:Value}{ds:List DV}{b:Option XB}{nbs:List Blk}{bs':List (Option Blk)}
section
variable{R:Type}
theorem aBz[YL]{K:List t.T->Option R}{r:R}(h:lW s (.sl t) v K=some r):
  ∃xs:List t.T,K xs=some r/\AV.content s.er.lk v.er=some (xs.map t.ds)/\AV.isS v.er=false:=by
 unfold lW at h;split at h
 ·rename_i t' x;split at h
  ·rename_i y hy;obtain⟨e,rfl⟩:=Ty.cst_ok hy;subst e;exact⟨x,h,rfl,rfl⟩
  ·cases h
 ·rename_i t' xs;split at h
  ·rename_i y hy;obtain⟨e,rfl⟩:=Ty.cst_ok hy;cases e;exact⟨xs,h,rfl,rfl⟩
  ·cases h
 ·have h:K []=some r:=h;exact⟨[],h,rfl,rfl⟩
 ·have h:K []=some r:=h;exact⟨[],h,rfl,rfl⟩
 ·rename_i hd t' len;split at h
  ·rename_i mt t2 xs hl;split at h
   ·rename_i hb;obtain rfl:=Ty.eq_of hb;split at h
    ·rename_i y hy;obtain⟨e,rfl⟩:=Ty.cst_ok hy;cases e
     replace h:=aSs h
     obtain⟨rfl,h⟩:=h;refine⟨xs,h,?_,rfl⟩;show(match s.er.lk hd with|some (.row _ k' es)=>if k'=t.n/\0+xs.length<=es.length then some ((es.drop 0).take xs.length)else none|_=>none)=_;rw[aP,hl];show(if t.n=t.n/\0+xs.length<=(xs.map t.ds).length then some (((xs.map t.ds).drop 0).take xs.length)else none)=_;rw[if_pos ⟨rfl,by rw[ι];omega⟩,da,bn (by rw[ι];exact π _)]
    ·cases h
   ·cases h
  ·cases h
 ·rename_i hd t' off len;split at h
  ·rename_i mt t2 xs hl;split at h
   ·rename_i hb;obtain rfl:=Ty.eq_of hb;split at h
    ·rename_i y hy;obtain⟨e,rfl⟩:=Ty.cst_ok hy;cases e;obtain⟨h1,h⟩:=aS h;refine⟨_,h,?_,rfl⟩;show(match s.er.lk hd with|some (.row _ k' es)=>if k'=t.n/\off+len<=es.length then some ((es.drop off).take len)else none|_=>none)=_;rw[aP,hl];show(if t.n=t.n/\off+len<=(xs.map t.ds).length then some (((xs.map t.ds).drop off).take len)else none)=_;rw[if_pos ⟨rfl,by rw[ι];exact h1⟩,ce,cj]
    ·cases h
   ·cases h
  ·cases h
 ·rename_i hd off len;split at h
  ·rename_i mt n k x hl;split at h
   ·rename_i y hy;obtain⟨e,rfl⟩:=Ty.cst_ok hy;cases e;obtain⟨h1,h⟩:=aS h;refine⟨_,h,?_,rfl⟩;show(match s.er.lk hd with|some (.row _ k' es)=>if k'=1/\off+len<=es.length then some ((es.drop off).take len)else none|_=>none)=_;rw[aP,hl];show(if 1=1/\off+len<=(x.l.map (arD k)).length then some (((x.l.map (arD k)).drop off).take len)else none)=some ((xK x.l off len n).map (arD k));rw[aCz x.len,if_pos ⟨rfl,by rw[ι,x.len];exact h1⟩,ce,cj]
   ·cases h
  ·cases h
 ·rename_i hd off l len;split at h
  ·rename_i mt t2 x hl;split at h
   ·rename_i a ha;split at h
    ·rename_i y hy;obtain⟨e,rfl⟩:=Ty.cst_ok hy;cases e;obtain⟨h1,h⟩:=aS h;obtain⟨c1,c2⟩:=aCo ha h1;refine⟨_,h,?_,rfl⟩;show(match s.er.lk hd with|some (.row _ k' es)=>if k'=1/\off+l+len<=es.length then some ((es.drop (off+l)).take len)else none|_=>none)=_;rw[aP,hl];show(if 1=1/\off+l+len<=(sgD (t2.ds x)).length then some (((sgD (t2.ds x)).drop (off+l)).take len)else none)=_;rw[if_pos ⟨rfl,c1⟩,c2]
    ·cases h
   ·cases h
  ·cases h
 ·cases h
mutual
def XV.hr:XV->List Hd
 |.sl h _ _ _=>[h]
 |.slw h _ _=>[h]
 |.asl h _ _=>[h]
 |.rsl h _ _ _=>[h]
 |.agg cs=>XV.hrL cs
 |.tup vs=>XV.hrL vs
 |.clo _ vs=>XV.hrL vs
 |_=>[]
def XV.hrL:List XV->List Hd
 |[]=>[]
 |v::vs=>v.hr++XV.hrL vs
end
theorem aG1:∀(a c:List AV),AV.rowsL (a++c)=AV.rowsL a++AV.rowsL c
 |[],c=>rfl
 |x::a,c=>by show AV.rows x++AV.rowsL (a++c)=AV.rows x++AV.rowsL a++AV.rowsL c;rw[aG1 a c,a9]
theorem aIs:∀l:List DV,AV.rowsL (l.map .D)=[]
 |[]=>rfl
 |x::l=>aIs l
theorem aP8(x:t.T):AV.rows (gI t x)=[]:=by
 cases hl:kV t with
 |true=>cases t<;>first|rfl|(cases hl;done)
 |false=>rw[sY x hl];exact aIs _
mutual
theorem aB5[YL]:∀v:XV,AV.rows v.er=v.hr
 |.d t x=>aP8 x
 |.agg cs=>aHw cs
 |.tup vs=>xR vs
 |.clo _ vs=>xR vs
 |.any=>rfl
 |.un=>rfl
 |.ab=>rfl
 |.sc=>rfl
 |.ptr _ _=>rfl
 |.ept _ _ _ _=>rfl
 |.apt _ _=>rfl
 |.pa _ _ _=>rfl
 |.epa _ _ _ _ _=>rfl
 |.rop _ _ _=>rfl
 |.fl _ _=>rfl
 |.fln _=>rfl
 |.nl _=>rfl
 |.sl _ _ _ _=>rfl
 |.slw _ _ _=>rfl
 |.asl _ _ _=>rfl
 |.rpt _ _=>rfl
 |.rpa _ _ _=>rfl
 |.rsl _ _ _ _=>rfl
 |.mref _=>rfl
 |.itr _ _=>rfl
 |.c _=>rfl
 |.yld=>rfl
 |.gst _=>rfl
theorem xR[YL]:∀vs:List XV,AV.rowsL (XV.erL vs)=XV.hrL vs
 |[]=>rfl
 |v::vs=>by show AV.rows v.er++AV.rowsL (XV.erL vs)=_;rw[aB5 v,xR vs];rfl
theorem bEa[YL]:∀v:XV,AV.rowsL v.fc=v.hr
 |.d t x=>aIs _
 |.agg cs=>aHw cs
 |.tup vs=>by show AV.rowsL (XV.erL vs)++[]=_;rw[xR vs,bj];rfl
 |.clo _ vs=>by show AV.rowsL (XV.erL vs)++[]=_;rw[xR vs,bj];rfl
 |.any=>rfl
 |.un=>rfl
 |.ab=>rfl
 |.sc=>rfl
 |.ptr _ _=>rfl
 |.ept _ _ _ _=>rfl
 |.apt _ _=>rfl
 |.pa _ _ _=>rfl
 |.epa _ _ _ _ _=>rfl
 |.rop _ _ _=>rfl
 |.fl _ _=>rfl
 |.fln _=>rfl
 |.nl _=>rfl
 |.sl _ _ _ _=>rfl
 |.slw _ _ _=>rfl
 |.asl _ _ _=>rfl
 |.rpt _ _=>rfl
 |.rpa _ _ _=>rfl
 |.rsl _ _ _ _=>rfl
 |.mref _=>rfl
 |.itr _ _=>rfl
 |.c _=>rfl
 |.yld=>rfl
 |.gst _=>rfl
theorem aHw[YL]:∀vs:List XV,AV.rowsL (XV.fcL vs)=XV.hrL vs
 |[]=>rfl
 |v::vs=>by show AV.rowsL (v.fc++XV.fcL vs)=_;rw[aG1,bEa v,aHw vs];rfl
end
def xfz(s:XS):List Hd->List Hd
 |[]=>[]
 |h::l=>match s.lk h with
  |some _=>h::xfz s l
  |none=>xfz s l
theorem oA[YL](s:XS):∀l:List Hd,fzL s.er.lk l=xfz s l
 |[]=>rfl
 |h::l=>by
  show(h::l).filter _=_;rw[List.filter_cons,aP];unfold xfz;cases s.lk h with
  |none=>exact oA s l
  |some b=>exact congrArg (h::·) (oA s l)
def flD:Ty->Bool
 |.sl _=>false
 |.o _=>false
 |.p a c=>flD a&&flD c
 |.w a=>flD a
 |_=>true
theorem aMq:∀(a c:List AV),AV.flatL (a++c)=(AV.flatL a&&AV.flatL c)
 |[],c=>rfl
 |x::a,c=>by show(AV.flat x&&AV.flatL (a++c))=(AV.flat x&&AV.flatL a&&AV.flatL c);rw[aMq a c,ij]
theorem nJ:∀(t:Ty) (x:t.T),AV.flatL ((t.ds x).map .D)=flD t
 |.u,_=>rfl
 |.b,_=>rfl
 |.i _,_=>rfl
 |.s,_=>rfl
 |.p a c,v=>by
  show AV.flatL ((a.ds v.1++c.ds v.2).map .D)=(flD a&&flD c);rw[cd,aMq,nJ a,nJ c]
 |.w a,v=>nJ a v
 |.ar n k,v=>by
  show AV.flatL ((v.l.map (DV.I k)).map .D)=true;generalize v.l=l
  induction l with
  |nil=>rfl
  |cons x l ih=>exact ih
 |.sl t,v=>rfl
 |.o _,_=>rfl
theorem aGa(x:t.T):AV.flat (gI t x)=flD t:=by
 cases hl:kV t with
 |true=>cases t<;>first|rfl|(cases hl;done)
 |false=>rw[sY x hl];exact nJ t x
mutual
def flX:XV->Bool
 |.d t _=>flD t
 |.any=>true
 |.un=>true
 |.ab=>true
 |.sc=>true
 |.c _=>true
 |.gst _=>true
 |.yld=>true
 |.agg cs=>aLz cs
 |.tup cs=>aLz cs
 |_=>false
def aLz:List XV->Bool
 |[]=>true
 |v::vs=>flX v&&aLz vs
end
mutual
theorem aNu[YL]:∀v:XV,AV.flat v.er=flX v
 |.d t x=>aGa x
 |.agg cs=>aIz cs
 |.tup cs=>aHp cs
 |.clo _ _=>rfl
 |.any=>rfl
 |.un=>rfl
 |.ab=>rfl
 |.sc=>rfl
 |.ptr _ _=>rfl
 |.ept _ _ _ _=>rfl
 |.apt _ _=>rfl
 |.pa _ _ _=>rfl
 |.epa _ _ _ _ _=>rfl
 |.rop _ _ _=>rfl
 |.fl _ _=>rfl
 |.fln _=>rfl
 |.nl _=>rfl
 |.sl _ _ _ _=>rfl
 |.slw _ _ _=>rfl
 |.asl _ _ _=>rfl
 |.rpt _ _=>rfl
 |.rpa _ _ _=>rfl
 |.rsl _ _ _ _=>rfl
 |.mref _=>rfl
 |.itr _ _=>rfl
 |.c _=>rfl
 |.yld=>rfl
 |.gst _=>rfl
theorem aHp[YL]:∀vs:List XV,AV.flatL (XV.erL vs)=aLz vs
 |[]=>rfl
 |v::vs=>by show(AV.flat v.er&&AV.flatL (XV.erL vs))=(flX v&&aLz vs);rw[aNu v,aHp vs]
theorem bA5[YL]:∀v:XV,AV.flatL v.fc=flX v
 |.d t x=>nJ t x
 |.agg cs=>aIz cs
 |.tup cs=>by show(AV.flatL (XV.erL cs)&&true)=aLz cs;rw[ga,aHp]
 |.clo _ _=>rfl
 |.any=>rfl
 |.un=>rfl
 |.ab=>rfl
 |.sc=>rfl
 |.ptr _ _=>rfl
 |.ept _ _ _ _=>rfl
 |.apt _ _=>rfl
 |.pa _ _ _=>rfl
 |.epa _ _ _ _ _=>rfl
 |.rop _ _ _=>rfl
 |.fl _ _=>rfl
 |.fln _=>rfl
 |.nl _=>rfl
 |.sl _ _ _ _=>rfl
 |.slw _ _ _=>rfl
 |.asl _ _ _=>rfl
 |.rpt _ _=>rfl
 |.rpa _ _ _=>rfl
 |.rsl _ _ _ _=>rfl
 |.mref _=>rfl
 |.itr _ _=>rfl
 |.c _=>rfl
 |.yld=>rfl
 |.gst _=>rfl
theorem aIz[YL]:∀vs:List XV,AV.flatL (XV.fcL vs)=aLz vs
 |[]=>rfl
 |v::vs=>by show AV.flatL (v.fc++XV.fcL vs)=(flX v&&aLz vs);rw[aMq,bA5 v,aIz vs]
end
@[reducible] def RT:List XS->Type
 |[]=>Unit
 |[m]=>rty m.tys
 |m::m2::l=>rty m.tys⊕RT (m2::l)
structure Sig where
 fn:Nat
 ent:XS
 out:List XS
 F:fty ent.tys (RT out)
def cV:(l:List XS)->RT l->XS
 |[],_=>⟨[],[],[]⟩
 |[m],v=>m.fill (ofR m.tys v)
 |m::_::_,.inl v=>m.fill (ofR m.tys v)
 |_::m2::l,.inr v=>cV (m2::l) v
def XV.val:List (Nat×XV)->XV
 |[(_,v)]=>v
 |l=>.tup (l.map (·.2))
def XS.pv(o:XS):Option Value:=match o.env with
 |[(k,.c v)]=>match χ k 1000000 with
  |true=>some v
  |false=>none
 |_=>none
def zY[YL](P:Program)(fn:Nat)(args:List AV)(bs:List (Option Blk))(o:XS)(nbs:List Blk):Prop:=match o.pv with
 |some pv=>bs=[]->aJy P fn args pv
 |none=>ACall P fn args bs (XV.val o.env).er (erB o.bs) nbs
def aG(P:Program)(g:Sig):Prop:=∀[YL] (v:tup g.ent.tys) (r:RT g.out),apF g.ent.tys g.F v=some r->∀nbs:List Blk,nbs.map some=erB (cV g.out r).own->
 zY P g.fn ((g.ent.fill v).env.map fun p=>p.2.er) (erB (g.ent.fill v).bs) (cV g.out r) nbs
def gQ(P:Program):List Sig->Prop
 |[]=>True
 |g::l=>aG P g/\gQ P l
mutual
def bG3:XV->XV->Bool
 |.clo f ms,v=>match v with
  |.clo g vs=>χ f g&&aSu ms vs
  |_=>false
 |.ptr _ _,v=>match v with
  |.ptr _ _=>true
  |_=>false
 |.apt _ _,v=>match v with
  |.apt _ _=>true
  |_=>false
 |.rpt _ _,v=>match v with
  |.rpt _ _=>true
  |_=>false
 |.mref _,v=>match v with
  |.mref _=>true
  |_=>false
 |.slw _ _ _,v=>match v with
  |.slw _ _ _=>true
  |.fln _=>true
  |_=>false
 |.nl _,v=>match v with
  |.fln _=>true
  |.nl _=>true
  |_=>false
 |.fln _,v=>match v with
  |.fln _=>true
  |_=>false
 |.c x,v=>match v with
  |.c y=>cEq x y
  |_=>false
 |.agg ms,v=>match v with
  |.agg vs=>aSu ms vs
  |_=>false
 |.sc,_=>true
 |.d _ _,v=>match v with
  |.ptr _ _=>false
  |.apt _ _=>false
  |.rpt _ _=>false
  |.mref _=>false
  |.clo _ _=>false
  |.c _=>false
  |.sc=>false
  |_=>true
 |_,_=>false
def aSu:List XV->List XV->Bool
 |[],[]=>true
 |m::ms,v::vs=>bG3 m v&&aSu ms vs
 |_,_=>false
end
def qU:List (Nat×XV)->List XV
 |[]=>[]
 |p::r=>p.2::qU r
def aRn:List Sig->Nat->List XV->Option Sig
 |[],_,_=>none
 |g::l,f,vs=>match χ g.fn f&&aSu (qU g.ent.env) vs with
  |true=>some g
  |false=>aRn l f vs
theorem aC1{P:Program}{vs:List XV}:∀{l:List Sig} {f:Nat} {g:Sig},gQ P l->aRn l f vs=some g->aG P g/\g.fn=f
 |[],_,_,_,h=>by cases h
 |g0::l,f,g,ht,h=>by
  unfold aRn at h;split at h
  ·rename_i hb;cases h;rw[μ]at hb;exact⟨ht.1,η hb.1⟩
  ·exact aC1 ht.2 h
def sm?{α β γ:Type}(v:α⊕β)(f:α->Option γ)(g:β->Option γ):Option γ:=match v with
 |.inl a=>f a
 |.inr y=>g y
def aX9:(l:List XS)->RT l->(XS->Option R)->Option R
 |[],_,_=>none
 |[m],v,K=>K (m.fill (ofR m.tys v))
 |m::m2::l,v,K=>sm? v (fun a=>K (m.fill (ofR m.tys a))) fun y=>aX9 (m2::l) y K
theorem aHf:∀{l:List XS} {v:RT l} {K:XS->Option R} {r:R},aX9 l v K=some r->K (cV l v)=some r
 |[],_,_,_,h=>by cases h
 |[_],_,_,_,h=>h
 |_::_::_,.inl _,_,_,h=>h
 |_::m2::l,.inr _,_,_,h=>aHf (l:=m2::l) h
def aL3:List (Option XB)->Option (List XB)
 |[]=>some []
 |some b::r=>match aL3 r with
  |some l=>some (b::l)
  |none=>none
 |none::_=>none
theorem aDm[YL]:∀{l:List (Option XB)} {bl:List XB},aL3 l=some bl->(bl.map XB.er).map some=erB l
 |[],_,h=>by cases h;rfl
 |some b::r,bl,h=>by
  unfold aL3 at h;split at h
  ·rename_i l hl;cases h;show some b.er::(l.map XB.er).map some=some b.er::erB r;rw[aDm hl]
  ·cases h
 |none::_,_,h=>by cases h
def qE:List XV->Nat->XV
 |[],_=>.any
 |v::_,0=>v
 |_::r,i+1=>qE r i
def wQ:Nat->List (Nat×XV)->List XV->Bool
 |_,[],[]=>true
 |n,(k,_)::r,_::vs=>χ k n&&wQ (n+1) r vs
 |_,_,_=>false
theorem aAz{f:XV->AV}:∀{l:List (Nat×XV)} {vs:List XV} {n:Nat} {ev:Nat->XV},wQ n l vs=true->(∀i,i<vs.length->ev (n+i)=qE vs i)->l.map (fun p=>f (ev p.1))=vs.map f
 |[],[],_,_,_,_=>rfl
 |(k,_)::r,v::vs,n,ev,h,he=>by
  have h:(χ k n&&wQ (n+1) r vs)=true:=h;rw[μ]at h;have e0:ev k=v:=by rw[η h.1];exact he 0 (jc _)
  show f (ev k)::r.map (fun p=>f (ev p.1))=f v::vs.map f;rw[e0,aAz h.2 fun i hi=>by rw[show n+1+i=n+(i+1) by omega,he (i+1) (im hi)];rfl]
 |[],_::_,_,_,h,_=>by cases h
 |_::_,[],_,_,h,_=>by cases h
theorem aEi[YL](lk:aY)(φ:Hd->Option Hd):∀vs:List XV,AV.convL lk φ (XV.erL vs)=vs.map fun v=>AV.conv lk φ v.er
 |[]=>rfl
 |v::vs=>by show AV.conv _ _ v.er::AV.convL _ _ (XV.erL vs)=_;rw[aEi lk φ vs];rfl
theorem mN[YL]:∀a c:List XV,XV.erL (a++c)=XV.erL a++XV.erL c
 |[],_=>rfl
 |x::a,c=>by show x.er::XV.erL (a++c)=_;rw[mN a c];rfl
mutual
def aRe:XV->Bool
 |.d t _=>flD t
 |.any=>true
 |.un=>true
 |.ab=>true
 |.sc=>true
 |.c _=>true
 |.slw _ _ _=>true
 |.sl _ _ _ _=>true
 |.agg cs=>aEm cs
 |.tup cs=>aEm cs
 |_=>false
def aEm:List XV->Bool
 |[]=>true
 |v::vs=>aRe v&&aEm vs
end
theorem aPn:∀(a c:List AV),AV.flatOL (a++c)=(AV.flatOL a&&AV.flatOL c)
 |[],_=>rfl
 |x::a,c=>by show(AV.flatO x&&AV.flatOL (a++c))=(AV.flatO x&&AV.flatOL a&&AV.flatOL c);rw[aPn a c,ij]
theorem sK:∀l:List DV,AV.flatOL (l.map .D)=AV.flatL (l.map .D)
 |[]=>rfl
 |x::l=>by show(DV.flat x&&AV.flatOL (l.map .D))=(DV.flat x&&AV.flatL (l.map .D));rw[sK l]
theorem aMx(x:t.T):AV.flatO (gI t x)=AV.flat (gI t x):=by
 cases t with
 |u=>rfl
 |b=>rfl
 |i k=>rfl
 |s=>rfl
 |p a c=>exact sK _
 |w a=>exact sK _
 |ar n k=>exact sK _
 |sl t=>rfl
 |o t=>rfl
mutual
theorem aOd[YL]:∀v:XV,aRe v=true->AV.flatO v.er=true
 |.d t x,h=>by show AV.flatO (gI t x)=true;rw[aMx,aGa];exact h
 |.agg cs,h=>aFg cs h
 |.tup cs,h=>aDh cs h
 |.slw _ _ _,_=>rfl
 |.sl _ _ _ _,_=>rfl
 |.any,_=>rfl
 |.un,_=>rfl
 |.ab,_=>rfl
 |.sc,_=>rfl
 |.c _,_=>rfl
 |.ptr _ _,h=>by cases h
 |.ept _ _ _ _,h=>by cases h
 |.apt _ _,h=>by cases h
 |.pa _ _ _,h=>by cases h
 |.epa _ _ _ _ _,h=>by cases h
 |.rpt _ _,h=>by cases h
 |.rpa _ _ _,h=>by cases h
 |.rsl _ _ _ _,h=>by cases h
 |.rop _ _ _,h=>by cases h
 |.fl _ _,h=>by cases h
 |.fln _,h=>by cases h
 |.nl _,h=>by cases h
 |.asl _ _ _,h=>by cases h
 |.mref _,h=>by cases h
 |.itr _ _,h=>by cases h
 |.clo _ _,h=>by cases h
 |.yld,h=>by cases h
 |.gst _,h=>by cases h
theorem aDh[YL]:∀vs:List XV,aEm vs=true->AV.flatOL (XV.erL vs)=true
 |[],_=>rfl
 |v::vs,h=>by have h:(aRe v&&aEm vs)=true:=h;rw[μ]at h;show(AV.flatO v.er&&AV.flatOL (XV.erL vs))=true;rw[aOd v h.1,aDh vs h.2];rfl
theorem aYm[YL]:∀v:XV,aRe v=true->AV.flatOL v.fc=true
 |.d t x,h=>by show AV.flatOL ((t.ds x).map .D)=true;rw[sK,nJ];exact h
 |.agg cs,h=>aFg cs h
 |.tup cs,h=>by show(AV.flatOL (XV.erL cs)&&true)=true;rw[aDh cs h];rfl
 |.slw _ _ _,_=>rfl
 |.sl _ _ _ _,_=>rfl
 |.any,_=>rfl
 |.un,_=>rfl
 |.ab,_=>rfl
 |.sc,_=>rfl
 |.c _,_=>rfl
 |.ptr _ _,h=>by cases h
 |.ept _ _ _ _,h=>by cases h
 |.apt _ _,h=>by cases h
 |.pa _ _ _,h=>by cases h
 |.epa _ _ _ _ _,h=>by cases h
 |.rpt _ _,h=>by cases h
 |.rpa _ _ _,h=>by cases h
 |.rsl _ _ _ _,h=>by cases h
 |.rop _ _ _,h=>by cases h
 |.fl _ _,h=>by cases h
 |.fln _,h=>by cases h
 |.nl _,h=>by cases h
 |.asl _ _ _,h=>by cases h
 |.mref _,h=>by cases h
 |.itr _ _,h=>by cases h
 |.clo _ _,h=>by cases h
 |.yld,h=>by cases h
 |.gst _,h=>by cases h
theorem aFg[YL]:∀vs:List XV,aEm vs=true->AV.flatOL (XV.fcL vs)=true
 |[],_=>rfl
 |v::vs,h=>by have h:(aRe v&&aEm vs)=true:=h;rw[μ]at h;show AV.flatOL (v.fc++XV.fcL vs)=true;rw[aPn,aYm v h.1,aFg vs h.2];rfl
end
def aWw:List XB->Bool
 |[]=>true
 |.row true t _::l=>flD t&&aWw l
 |_::_=>false
theorem aP0[YL]:∀l:List XB,aWw l=true->(l.map XB.er).all Blk.flatR=true
 |[],_=>rfl
 |.row true t xs::l,h=>by
  have h:(flD t&&aWw l)=true:=h;rw[μ]at h;rw[df,List.all_cons,aP0 l h.2,ga];show(xs.map t.ds).all (fun e=>e.all DV.flat)=true;rw[List.all_map,List.all_eq_true];intro x _;have:=nJ t x;rw[h.1]at this;have key:∀l:List DV,AV.flatL (l.map .D)=l.all DV.flat:=fun l=>by
   induction l with
   |nil=>rfl
   |cons d l ih=>show(DV.flat d&&AV.flatL (l.map .D))=(DV.flat d&&l.all DV.flat);rw[ih]
  rw[key]at this;exact this
 |.row false _ _::_,h=>by cases h
 |.box _::_,h=>by cases h
 |.arr _ _ _ _::_,h=>by cases h
 |.rb _ _ _::_,h=>by cases h
 |.mp _ _ _ _ _ _::_,h=>by cases h
 |.it::_,h=>by cases h
 |.sb _ _ _::_,h=>by cases h
def aVq(al:Bool)(v:XV)(bl:List XB):Bool:=al&&(aRe v&&aWw bl)
def xfl(s:XS)(al:Bool)(v:XV)(bl:List XB)(hs:List Hd):List Hd:=match flX v,bl with
 |true,[]=>[]
 |_,_=>match aVq al v bl with
  |true=>[]
  |false=>xfz s hs
theorem bBb[YL](s:XS)(al:Bool)(v:XV)(bl:List XB)(vs:List XV):xfl s al v bl (XV.hrL vs)=if AV.flat v.er=true/\bl.map XB.er=[]then[]else fzC (aVq al v bl) (fzL s.er.lk (AV.rowsL (XV.erL vs))):=by
 unfold xfl;rw[aNu,xR,oA];cases flX v with
 |false=>rw[if_neg (fun h=>by cases h.1)];rfl
 |true=>cases bl with
  |nil=>rw[if_pos ⟨rfl,rfl⟩]
  |cons b bl=>rw[if_neg (fun h=>by cases h.2)];rfl
def aT4(s:XS)(al:Bool)(vs:List XV)(o:XS)(K:XV->List XB->List Hd->Option R):Option R:=match aL3 o.own with
 |some bl=>K ((XV.val o.env).ren (aZ [] s.own.length)) (bl.map (XB.ren (aZ [] s.own.length))) (xfl s al (XV.val o.env) bl (XV.hrL vs))
 |none=>none
def aTp:XV->Bool
 |.fln _=>true
 |_=>false
def aFt:List (Nat×XV)->List Bool
 |[]=>[]
 |p::r=>aTp p.2::aFt r
def aJv:List (Nat×XV)->Bool
 |[]=>true
 |p::r=>!aTp p.2&&aJv r
theorem aEv(lk:aY):∀{l:List (Nat×XV)} (as:List AV),aJv l=true->AV.convK lk (aFt l) as=AV.convL lk (fun _=>none) as
 |[],_,_=>rfl
 |p::r,as,h=>by
  unfold aJv at h;rw[μ,dh]at h;unfold aFt;rw[h.1];cases as with
  |nil=>rfl
  |cons a as=>
   show AV.conv _ _ a::AV.convK lk (aFt r) as=AV.conv _ _ a::AV.convL lk _ as;rw[aEv lk as h.2]
def aVg(s:XS):List (Nat×XV)->List XV->(List XV->Option R)->Option R
 |[],[],K=>K []
 |p::ms,v::vs,K=>match aTp p.2 with
  |true=>match v with
   |.fln t=>aVg s ms vs fun l=>K (.fln t::l)
   |_=>none
  |false=>xcv s (fun _=>none) v fun v'=>aVg s ms vs fun l=>K (v'::l)
 |_,_,_=>none
theorem aH4[YL]{s:XS}{r:R}:∀{ms:List (Nat×XV)} {vs:List XV} {K:List XV->Option R},aVg s ms vs K=some r->∃l,K l=some r/\l.map XV.er=AV.convK s.er.lk (aFt ms) (XV.erL vs)/\slP.slPL (wH s fun _=>none) l
 |[],[],K,h=>⟨[],h,rfl,trivial⟩
 |p::ms,v::vs,K,h=>by
  unfold aVg at h;unfold aFt;split at h
  ·rename_i hp;rw[hp];split at h
   ·rename_i t;obtain⟨l,h,h1,h2⟩:=aH4 h;refine⟨_,h,?_,trivial,h2⟩;show AV.fl []::l.map XV.er=AV.fl []::AV.convK _ (aFt ms) (XV.erL vs);rw[h1]
   ·cases h
  ·rename_i hp;rw[hp];obtain⟨v',h,h0,_,h3⟩:=aMe h;obtain⟨l,h,h1,h2⟩:=aH4 h;refine⟨_,h,?_,h3,h2⟩;show v'.er::l.map XV.er=AV.conv _ _ v.er::AV.convK _ (aFt ms) (XV.erL vs);rw[h1,h0]
 |[],_::_,_,h=>by cases h
 |_::_,[],_,h=>by cases h
theorem aQv[YL]{ds:List DS}{v:tup m.tys}(h1:mtE m.env l=some ds)(h2:aB4 m.tys ds=some v)(hp:slP.slPL (wH s fun _=>none) l):(m.fill v).env.map (fun p=>p.2.er)=l.map XV.er:=by have hL:=aDy h2;show(m.fil (sgs m.tys v)).env.map _=_;rw[hL];obtain⟨_,x2⟩:=aNy (len:=bCr (lS m.bs (ds.drop (aMn m.env).length)) (lS m.own ((ds.drop (aMn m.env).length).drop (aBr m.bs).length))) h1 (slPL.mono (fun h' n ⟨h,mt,t,xs,e1,e2,e3⟩=>by cases e1) hp);obtain⟨e,x3,x4,x5⟩:=x2 [];rw[bj]at x3;show(wW _ m.env ds).1.map _=_;rw[x3];exact x5
def aHh(s:XS)(al:Bool)(g:Sig)(vs:List XV)(K:XV->List XB->List Hd->Option R)(Kp:Value->Option R):Option R:=match g.ent.bs,g.ent.own with
 |[],[]=>aVg s g.ent.env vs fun l=>match mtE g.ent.env l with
  |some ds=>match aB4 g.ent.tys ds with
   |some v=>bd? (apF g.ent.tys g.F v) fun r=>aX9 g.out r fun o=>match o.bs,o.pv with
    |[],none=>aT4 s al vs o K
    |_,some pv=>match o.own,aJv g.ent.env with
     |[],true=>Kp pv
     |_,_=>none
    |_,_=>none
   |none=>none
  |none=>none
 |_,_=>none
def bCa(s:XS)(g:Sig)(vs:List XV)(K:XV->List XB->List Hd->Option R):Option R:=aHh s true g vs K fun _=>none
def aVo(T:List Sig)(s:XS)(vs:List XV)(K:XV->List XB->List Hd->Option R):XV->Option R
 |.clo fn caps=>match aRn T fn (vs++caps)with
  |some g=>bCa s g (vs++caps) K
  |none=>none
 |_=>none
theorem aNq(h:m.bs=[])(v:tup m.tys):(m.fill v).bs=[]:=by show(mK _ m.bs _).1=[];rw[h];rfl
theorem aZ1[YL](ψ:Hd->Hd)(l:List XB):(l.map (XB.ren ψ)).map XB.er=(l.map XB.er).map (Blk.ren ψ):=by rw[fk,fk];congr 1;funext b;exact aJe ψ b
theorem aG4[YL]{g:Sig}(hs:aG P g){al:Bool}{K:XV->List XB->List Hd->Option R}{Kp:Value->Option R}{r:R}(h:aHh s al g vs K Kp=some r){KP:AV->List Blk->List Hd->Prop}(hK:∀v nbs fz,K v nbs fz=some r->KP v.er (nbs.map XB.er) fz):
  (∃z rr nbs,(al=false->z=false)/\(z=true->AV.flatO rr=true/\nbs.all Blk.flatR=true)/\ACall P g.fn (AV.convK s.er.lk (aFt g.ent.env) (XV.erL vs)) [] rr [] nbs/\
   KP (AV.ren (aZ [] s.er.nx) rr) (nbs.map (Blk.ren (aZ [] s.er.nx))) (if AV.flat rr=true/\nbs=[]then[]else fzC z (fzL s.er.lk (AV.rowsL (XV.erL vs)))))\/
   ∃pv,aJy P g.fn (AV.convL s.er.lk (fun _=>none) (XV.erL vs)) pv/\Kp pv=some r:=by
 unfold aHh at h;split at h
 case h_2=>cases h
 rename_i hb ho;obtain⟨l,h,e1,hp⟩:=aH4 h;split at h
 case h_2=>cases h
 rename_i ds hds;split at h
 case h_2=>cases h
 rename_i v hv;obtain⟨rr,hr,h⟩:=bAm h;have h:=aHf h;have hargs:(g.ent.fill v).env.map (fun p=>p.2.er)=AV.convK s.er.lk (aFt g.ent.env) (XV.erL vs):=(aQv hds hv hp).trans e1;split at h
 ·rename_i hob hpv;unfold aT4 at h;split at h
  case h_2=>cases h
  rename_i bl hbl;have hcall:=hs v rr hr (bl.map XB.er) (aDm hbl);unfold zY at hcall;rw[hpv]at hcall;rw[hargs,aNq hb,hob]at hcall;refine .inl ⟨aVq al (XV.val (cV g.out rr).env) bl,_,_,fun e=>by unfold aVq;rw[e];rfl,fun e=>?_,hcall,?_⟩
  ·unfold aVq at e;rw[μ,μ]at e;exact⟨aOd _ e.2.1,aP0 _ e.2.2⟩
  have:=hK _ _ _ h;rw[aH9,aZ1]at this;rw[bBb]at this;exact this
 ·rename_i pv hpv;split at h
  case h_2=>cases h
  rename_i hown hno;have:=hs v rr hr [] (by rw[hown];rfl);unfold zY at this;rw[hpv,hargs,aNq hb,aEv _ _ hno]at this;exact .inr ⟨pv,this rfl,h⟩
 ·cases h
def aMi(T:List Sig)(s:XS)(vs:List XV)(K:XV->List XB->List Hd->Option R)(Kp:Value->Option R):XV->Option R
 |.clo fn caps=>match aRn T fn (vs++caps)with
  |some g=>match aJv g.ent.env with
   |true=>aHh s false g (vs++caps) K Kp
   |false=>none
  |none=>none
 |_=>none
theorem aQw[YL]{T:List Sig}(hT:gQ P T){K:XV->List XB->List Hd->Option R}{Kp:Value->Option R}{r:R}(h:aMi T s vs K Kp vf=some r){KP:AV->List Blk->List Hd->Prop}(hK:∀v nbs fz,K v nbs fz=some r->KP v.er (nbs.map XB.er) fz):
  ∃fn caps,vf.er=.clo fn caps/\((∃rr nbs,ACall P fn (AV.convL s.er.lk (fun _=>none) (XV.erL vs++caps)) [] rr [] nbs/\
   KP (AV.ren (aZ [] s.er.nx) rr) (nbs.map (Blk.ren (aZ [] s.er.nx))) (if AV.flat rr=true/\nbs=[]then[]else fzL s.er.lk (AV.rowsL (XV.erL vs++caps))))\/
   ∃pv,aJy P fn (AV.convL s.er.lk (fun _=>none) (XV.erL vs++caps)) pv/\Kp pv=some r):=by
 unfold aMi at h;split at h
 case h_2=>cases h
 rename_i fn caps;split at h
 case h_2=>cases h
 rename_i g hg;obtain⟨hs,hfn⟩:=aC1 hT hg;split at h
 case h_2=>cases h
 rename_i hno;rcases aG4 hs h hK with⟨z,rr,nbs,hz,_,h1,h2⟩|h1
 ·rw[aEv _ _ hno,hfn,mN]at h1;rw[hz rfl,mN]at h2;exact⟨fn,XV.erL caps,rfl,.inl ⟨rr,nbs,h1,h2⟩⟩
 ·rw[hfn,mN]at h1;exact⟨fn,XV.erL caps,rfl,.inr h1⟩
theorem aUx[YL]{T:List Sig}(hT:gQ P T){K:XV->List XB->List Hd->Option R}{r:R}(h:aVo T s vs K vf=some r){KP:AV->List Blk->List Hd->Prop}(hK:∀v nbs fz,K v nbs fz=some r->KP v.er (nbs.map XB.er) fz):
  ∃fn caps ks z rr nbs,vf.er=.clo fn caps/\(z=true->AV.flatO rr=true/\nbs.all Blk.flatR=true)/\ACall P fn (AV.convK s.er.lk ks (XV.erL vs++caps)) [] rr [] nbs/\
   KP (AV.ren (aZ [] s.er.nx) rr) (nbs.map (Blk.ren (aZ [] s.er.nx))) (if AV.flat rr=true/\nbs=[]then[]else fzC z (fzL s.er.lk (AV.rowsL (XV.erL vs++caps)))):=by
 unfold aVo at h;split at h
 case h_2=>cases h
 rename_i fn caps;split at h
 case h_2=>cases h
 rename_i g hg;obtain⟨hs,hfn⟩:=aC1 hT hg;rcases aG4 hs h hK with⟨z,rr,nbs,_,hz,h1,h2⟩|⟨pv,_,h⟩
 ·rw[hfn,mN]at h1;rw[mN]at h2;exact⟨fn,XV.erL caps,_,z,rr,nbs,rfl,hz,h1,h2⟩
 ·cases h
end
section
variable{R:Type}
def w1(s:XS)(x:Operand)(f:XV->Option R):Option R:=match noG x with
 |true=>f (s.ev x)
 |false=>none
theorem aN[YL]{x:Operand}{f:XV->Option R}{r:R}(h:w1 s x f=some r):f (s.ev x)=some r/\s.er.ev x=(s.ev x).er:=by
 unfold w1 at h;split at h
 ·exact⟨h,aBn s ‹_›⟩
 ·cases h
def wL(s:XS):List Operand->(List XV->Option R)->Option R
 |[],f=>f []
 |x::xs,f=>w1 s x fun v=>wL s xs fun vs=>f (v::vs)
theorem aB3[YL]{s:XS}{r:R}:∀{xs:List Operand} {f:List XV->Option R},wL s xs f=some r->∃vs,f vs=some r/\xs.map s.er.ev=XV.erL vs
 |[],f,h=>⟨[],h,rfl⟩
 |x::xs,f,h=>by obtain⟨h,e1⟩:=aN h;obtain⟨vs,h,e2⟩:=aB3 h;exact⟨s.ev x::vs,h,by show s.er.ev x::xs.map s.er.ev=_;rw[e1,e2];rfl⟩
def aUs(c:Bool)(K:XV->Option R):XV->XV->Option R
 |.d t x,v=>match v with
  |.d t' y=>match t'.cst t y with
   |some y=>K (.d t (cond c x y))
   |none=>if? c (K (.d t x)) (K (.d t' y))
  |v=>if? c (K (.d t x)) (K v)
 |u,v=>if? c (K u) (K v)
theorem aSh[YL]{c:Bool}{K:XV->Option R}{KP:AV->Prop}{r:R}{b:XV}(h:aUs c K a b=some r)(hK:∀v,K v=some r->KP v.er):KP (if c=true then a.er else b.er):=by
 have hif:∀{a b:XV},if? c (K a) (K b)=some r->KP (if c=true then a.er else b.er):=fun h=>by
  rcases aHx h with⟨rfl,h⟩|⟨rfl,h⟩
  ·exact hK _ h
  ·exact hK _ h
 unfold aUs at h;split at h
 ·split at h
  ·split at h
   ·rename_i y hy;obtain⟨e,rfl⟩:=Ty.cst_ok hy;subst e;have:=hK _ h;cases c<;>exact this
   ·exact hif h
  ·exact hif h
 ·exact hif h
def nth:List XV->Nat->Option XV
 |[],_=>none
 |v::_,0=>some v
 |_::r,i+1=>nth r i
theorem aUj[YL]:∀{l:List XV} {i:Nat} {v:XV},nth l i=some v->(XV.erL l)[i]?=some v.er
 |[],_,_,h=>by cases h
 |v::_,0,_,h=>by cases h;rfl
 |_::r,i+1,v,h=>by have:=aUj (l:=r) (i:=i) h;show(_::XV.erL r)[i+1]?=_;rw[List.getElem?_cons_succ];exact this
def aEd(kd:Nat):XV->XV->Option Bool
 |.d .b x,.d .b y=>match χ kd 0 with
  |true=>some (x==y)
  |false=>none
 |.d (.i k) x,.d (.i k') y=>if kd=1/\k=k' then some (x==y)else none
 |.d .s x,.d .s y=>match χ kd 2 with
  |true=>some (x==y)
  |false=>none
 |_,_=>none
def aJ6:List Nat->Bool->Bool->Bool
 |[],p,_=>p
 |_::_,p,q=>p&&q
def aK9:List Nat->List XV->List XV->Option Bool
 |[],[],[]=>some true
 |kd::kds,x::xs,y::ys=>match aEd kd x y with
  |some p=>match aK9 kds xs ys with
   |some q=>some (aJ6 kds p q)
   |none=>none
  |none=>none
 |_,_,_=>none
theorem aVk(h:aK9 [] xs ys=some q):q=true:=by cases xs<;>cases ys<;>first|(cases h;rfl;done)|(cases h;done)
theorem aKq[YL]:∀{kds:List Nat} {xs ys:List XV} {b:Bool},aK9 kds xs ys=some b->hZ kds (XV.fcL xs) (XV.fcL ys)=some b
 |[],xs,ys,b,h=>by
  cases xs<;>cases ys<;>first|(cases h;rfl;done)|(cases h;done)
 |kd::kds,[],ys,b,h=>by cases h
 |kd::kds,x::xs,[],b,h=>by cases h
 |kd::kds,x::xs,y::ys,b,h=>by
  unfold aK9 at h;split at h
  case h_2=>cases h
  rename_i p hp;split at h
  case h_2=>cases h
  rename_i q hq;cases h;have e:aJ6 kds p q=(p&&q):=by
   cases kds with
   |nil=>rw[aVk hq,ga];rfl
   |cons _ _=>rfl
  have ih:=aKq hq;obtain⟨d1,d2,e1,e2,e3⟩:∃d1 d2,x.fc=[.D d1]/\y.fc=[.D d2]/\DV.same kd d1 d2=some p:=by
   unfold aEd at hp;split at hp
   ·split at hp
    ·rename_i hb;obtain rfl:=η hb;exact⟨_,_,rfl,rfl,hp⟩
    ·cases hp
   ·exact⟨_,_,rfl,rfl,hp⟩
   ·split at hp
    ·rename_i hb;obtain rfl:=η hb;exact⟨_,_,rfl,rfl,hp⟩
    ·cases hp
   ·cases hp
  show hZ (kd::kds) (x.fc++XV.fcL xs) (y.fc++XV.fcL ys)=_;rw[e1,e2];show(match DV.same kd d1 d2,hZ kds (XV.fcL xs) (XV.fcL ys)with|some p,some q=>some (p&&q)|_,_=>none)=_;rw[e3,ih,e]
def aHt(off:Nat)(K:XV->Option R):XV->Option R
 |.ptr h o=>K (.ptr h (o+off))
 |.ept h t ix o=>match χ t.n 1 with
  |true=>match o,off with
   |0,0=>K (.ept h t ix 0)
   |_,_=>none
  |false=>K (.ept h t ix (o+off))
 |.apt h ix=>K (.apt h (ix+off))
 |.rpt h o=>K (.rpt h (o+off))
 |.rop t x o=>K (.rop t x (o+off))
 |_=>none
def ixA(o j k:Nat):Nat:=match o,k with
 |0,1=>j
 |o,1=>o+j
 |o,k=>o+j*k
theorem pS(o j k:Nat):ixA o j k=o+j*k:=by
 unfold ixA;split
 ·omega
 ·omega
 ·rfl
def aE4(k:Nat)(j:Int)(K:XV->Option R):XV->Option R
 |.d (.sl t) xs=>match χ t.n k with
  |true=>bS xs j fun x=>K (.rop t x 0)
  |false=>none
 |.fl t xs=>match χ t.n k with
  |true=>bS xs j fun x=>K (.rop t x 0)
  |false=>none
 |.slw h t len=>match χ t.n k with
  |true=>gd? (0<=j) (gd? (j<(len:Int)) (K (.ept h t j.toNat 0)))
  |false=>none
 |.sl h t off len=>match χ t.n k with
  |true=>gd? (0<=j) (gd? (j<(len:Int)) (K (.ept h t (off+j.toNat) 0)))
  |false=>none
 |.asl h off len=>match χ 1 k with
  |true=>gd? (0<=j) (gd? (j<(len:Int)) (K (.apt h (ixA off j.toNat 1))))
  |false=>none
 |.rsl h off l len=>match χ 1 k with
  |true=>gd? (0<=j) (gd? (j<(len:Int)) (K (.rpa h off (ixA l j.toNat 1))))
  |false=>none
 |_=>none
def bBe(m k:Nat)(j:Int)(K:XV->Option R):XV->Option R
 |.apt h ix=>gd? (0<=j) (gd? (j<(m:Int)) (K (.apt h (ixA ix j.toNat k))))
 |.rop t x o=>gd? (0<=j) (gd? (j<(m:Int)) (K (.rop t x (ixA o j.toNat k))))
 |.ptr h o=>match χ k 1 with
  |true=>gd? (0<=j) (gd? (j<(m:Int)) (K (.pa h o j.toNat)))
  |false=>gd? (0<=j) (gd? (j<(m:Int)) (K (.ptr h (ixA o j.toNat k))))
 |.rpt h o=>match χ k 1 with
  |true=>gd? (0<=j) (gd? (j<(m:Int)) (K (.rpa h o j.toNat)))
  |false=>gd? (0<=j) (gd? (j<(m:Int)) (K (.rpt h (ixA o j.toNat k))))
 |.ept h t ix o=>match χ t.n 1,χ k 1 with
  |false,true=>gd? (0<=j) (gd? (j<(m:Int)) (K (.epa h t ix o j.toNat)))
  |_,_=>none
 |_=>none
def aD6(s:XS)(k:Nat)(lo hi mx:Option Operand)(K:XV->Option R):XV->Option R
 |.d (.sl t) xs=>match χ t.n k with
  |true=>match mx with
   |none=>mM s hi xs.length fun h=>mM s lo 0 fun l=>gd? (l<=h) (gd? (h<=xs.length) (K (.d (.sl t) ((xs.drop l).take (h-l)))))
   |some _=>match hi with
    |none=>none
    |some _=>mM s mx xs.length fun m=>mM s hi xs.length fun h=>mM s lo 0 fun l=>gd? (l<=h) (gd? (h<=xs.length) (gd? (h=m) (K (.fl t ((xs.drop l).take (h-l))))))
  |false=>none
 |.fln t=>match mx with
  |none=>mM s hi 0 fun h=>mM s lo 0 fun l=>gd? (l<=h) (gd? (h<=0) (K (.fln t)))
  |some _=>none
 |.slw hd t len=>match χ t.n k,mx with
  |true,none=>match lo,hi with
   |none,none=>K (.slw hd t len)
   |none,hi=>mM s hi len fun h=>gd? (h<=len) (K (.sl hd t 0 h))
   |lo,hi=>mM s hi len fun h=>mM s lo 0 fun l=>gd? (l<=h) (gd? (h<=len) (K (.sl hd t l (h-l))))
  |_,_=>none
 |.sl hd t off len=>match χ t.n k,mx with
  |true,none=>mM s hi len fun h=>mM s lo 0 fun l=>gd? (l<=h) (gd? (h<=len) (K (.sl hd t (off+l) (h-l))))
  |_,_=>none
 |.asl hd off len=>match χ 1 k,mx with
  |true,none=>mM s hi len fun h=>mM s lo 0 fun l=>gd? (l<=h) (gd? (h<=len) (K (.asl hd (ixA off l 1) (h-l))))
  |_,_=>none
 |.rsl hd off l0 len=>match χ 1 k,mx with
  |true,none=>mM s hi len fun h=>mM s lo 0 fun l=>gd? (l<=h) (gd? (h<=len) (K (.rsl hd off (ixA l0 l 1) (h-l))))
  |_,_=>none
 |_=>none
theorem aG3[YL]{K:XV->Option R}{r:R}(h:aHt off K v=some r){KP:AV->Prop}(hK:∀v,K v=some r->KP v.er):
  match v.er with
  |.ptr h o=>KP (.ptr h (o+off))
  |.eptr h k ix o=>KP (AV.eadd h k ix o off)
  |.rop ds=>KP (.rop (ds.drop off))
  |_=>False:=by
 unfold aHt at h;split at h
 ·exact hK _ h
 ·rename_i hd t ix o;show KP (AV.eadd hd t.n ix o off);unfold AV.eadd;split at h
  ·rename_i hb;have hb:=η hb;split at h
   ·have:=hK _ h;simp only[XV.er,hb]at this;rw[if_pos hb];exact this
   ·cases h
  ·rename_i hb;rw[if_neg (fun e=>by rw[e]at hb;cases hb)];exact hK _ h
 ·rename_i hd ix;show KP (AV.eadd hd 1 ix 0 off);unfold AV.eadd;rw[if_pos rfl];exact hK _ h
 ·rename_i hd ix;show KP (AV.eadd hd 1 ix 0 off);unfold AV.eadd;rw[if_pos rfl];exact hK _ h
 ·rename_i t x o;have:=hK _ h;simp only[XV.er]at this|-;rw[eg];exact this
 ·cases h
theorem aAr[YL]{K:XV->Option R}{r:R}(h:aE4 k j K v=some r){KP:AV->Prop}(hK:∀v,K v=some r->KP v.er):0<=j/\
  match v.er with
  |.D (.L es)=>∃e,es[j.toNat]?=some e/\e.length=k/\KP (.rop e)
  |.fl es=>∃e,es[j.toNat]?=some e/\e.length=k/\KP (.rop e)
  |.sl h k' off len=>k'=k/\j<len/\KP (.eptr h k (off+j.toNat) 0)
  |_=>False:=by
 unfold aE4 at h;split at h
 ·rename_i t xs;split at h
  ·rename_i hb;obtain⟨x,h0,hx,h⟩:=aJu h;refine⟨h0,t.ds x,by rw[τ,hx];rfl,by rw[Ty.ds_len];exact η hb,hK _ h⟩
  ·cases h
 ·rename_i t xs;split at h
  ·rename_i hb;obtain⟨x,h0,hx,h⟩:=aJu h;refine⟨h0,t.ds x,by rw[τ,hx];rfl,by rw[Ty.ds_len];exact η hb,hK _ h⟩
  ·cases h
 ·split at h
  ·rename_i hb;obtain⟨h0,h⟩:=aS h;obtain⟨h1,h⟩:=aS h;have hb:=η hb;have:=hK _ h;simp only[XV.er,hb]at this;exact⟨h0,hb,h1,by rw[bq];exact this⟩
  ·cases h
 ·split at h
  ·rename_i hb;obtain⟨h0,h⟩:=aS h;obtain⟨h1,h⟩:=aS h;have hb:=η hb;have:=hK _ h;simp only[XV.er,hb]at this;exact⟨h0,hb,h1,this⟩
  ·cases h
 ·split at h
  ·rename_i hb;obtain⟨h0,h⟩:=aS h;obtain⟨h1,h⟩:=aS h;have hb:=η hb;subst hb;have:=hK _ h;rw[pS,dk]at this;exact⟨h0,rfl,h1,this⟩
  ·cases h
 ·rename_i hd off l len;split at h
  ·rename_i hb;obtain⟨h0,h⟩:=aS h;obtain⟨h1,h⟩:=aS h;have hb:=η hb;subst hb;have:=hK _ h;simp only[XV.er,pS,dk]at this;exact⟨h0,rfl,h1,by rw[gc];exact this⟩
  ·cases h
 ·cases h
theorem aW3[YL]{m:Nat}{K:XV->Option R}{r:R}(h:bBe m k j K v=some r){KP:AV->Prop}(hK:∀v,K v=some r->KP v.er):0<=j/\j<(m:Int)/\
  match v.er with
  |.ptr h o=>KP (.ptr h (o+j.toNat*k))
  |.eptr h k' ix o=>KP (AV.eadd h k' ix o (j.toNat*k))
  |.rop ds=>KP (.rop (ds.drop (j.toNat*k)))
  |_=>False:=by
 unfold bBe at h;split at h
 ·rename_i hd ix;obtain⟨h0,h⟩:=aS h;obtain⟨h1,h⟩:=aS h;have:=hK _ h;rw[pS]at this;refine⟨h0,h1,?_⟩;show KP (AV.eadd hd 1 ix 0 (j.toNat*k));unfold AV.eadd;rw[if_pos rfl];exact this
 ·rename_i t x o;obtain⟨h0,h⟩:=aS h;obtain⟨h1,h⟩:=aS h;have:=hK _ h;rw[pS]at this;refine⟨h0,h1,?_⟩;simp only[XV.er]at this|-;rw[eg];exact this
 ·rename_i hd o;split at h
  ·rename_i hb;obtain⟨h0,h⟩:=aS h;obtain⟨h1,h⟩:=aS h;have hb:=η hb;subst hb;have:=hK _ h;refine⟨h0,h1,?_⟩;show KP (.ptr hd (o+j.toNat*1));rw[dk];exact this
  ·obtain⟨h0,h⟩:=aS h;obtain⟨h1,h⟩:=aS h;have:=hK _ h;rw[pS]at this;exact⟨h0,h1,this⟩
 ·rename_i hd o;split at h
  ·rename_i hb;obtain⟨h0,h⟩:=aS h;obtain⟨h1,h⟩:=aS h;have hb:=η hb;subst hb;have:=hK _ h;refine⟨h0,h1,?_⟩;show KP (AV.eadd hd 1 o 0 (j.toNat*1));unfold AV.eadd;rw[if_pos rfl,dk];exact this
  ·obtain⟨h0,h⟩:=aS h;obtain⟨h1,h⟩:=aS h;have:=hK _ h;rw[pS]at this;refine⟨h0,h1,?_⟩;show KP (AV.eadd hd 1 o 0 (j.toNat*k));unfold AV.eadd;rw[if_pos rfl];exact this
 ·rename_i hd t ix o;split at h
  ·rename_i hb1 hb;obtain⟨h0,h⟩:=aS h;obtain⟨h1,h⟩:=aS h;have hb:=η hb;subst hb;have:=hK _ h;refine⟨h0,h1,?_⟩;show KP (AV.eadd hd t.n ix o (j.toNat*1));unfold AV.eadd;rw[if_neg (fun e=>by rw[e]at hb1;cases hb1),dk];exact this
  ·cases h
 ·cases h
theorem aA6[YL]{lo hi mx:Option Operand}{K:XV->Option R}{r:R}(h:aD6 s k lo hi mx K v=some r){KP:AV->Prop}(hK:∀v,K v=some r->KP v.er):nV k s.er.ev lo hi mx KP v.er:=by
 unfold aD6 at h;split at h
 ·rename_i t xs;split at h
  ·rename_i hb;have hb:=η hb;have hu:Uni k (xs.map t.ds):=hb▸pZ t xs;have hl:(xs.map t.ds).length=xs.length:=ι _;split at h
   ·refine⟨hu,?_⟩;rw[hl];rw[show∀(Q:Nat->Prop),fA s.er.ev none xs.length Q=Q xs.length from fun _=>rfl];refine cQ h fun hh h=>cQ h fun l h=>?_;obtain⟨h1,h⟩:=aS h;obtain⟨h2,h⟩:=aS h;refine⟨h1,h2,fun e=>c6 e,?_⟩;have:=hK _ h;simp only[XV.er,gI,ce,cj]at this;exact this
   ·split at h
    ·cases h
    ·refine⟨hu,?_⟩;rw[hl];refine cQ h fun m h=>cQ h fun hh h=>cQ h fun l h=>?_;obtain⟨h1,h⟩:=aS h;obtain⟨h2,h⟩:=aS h;obtain⟨h3,h⟩:=aS h;refine⟨h1,h2,fun _=>⟨rfl,h3⟩,?_⟩;have:=hK _ h;simp only[XV.er,ce,cj]at this;rw[if_pos (show(some _).isSome=true from rfl)];exact this
  ·cases h
 ·rename_i t;split at h
  ·refine⟨fun e he=>(by simp at he),?_⟩;refine(show∀Q:Nat->Prop,Q 0->fA s.er.ev none ([]:List (List DV)).length Q from fun _ h=>h) _ ?_;refine cQ (d:=0) h fun hh h=>cQ h fun l h=>?_;obtain⟨h1,h⟩:=aS h;obtain⟨h2,h⟩:=aS h;refine⟨h1,h2,π _,fun e=>c6 e,?_⟩;have:=hK _ h;rw[if_pos (show hh=0 by omega),List.drop_nil,List.take_nil];exact this
  ·cases h
 ·rename_i hd t len;split at h
  ·rename_i hb;have hb:=η hb;split at h
   ·refine⟨hb,rfl,?_⟩;show 0<=len/\len<=len/\_;refine⟨eo _,π _,?_⟩;have:=hK _ h;simp only[XV.er,hb]at this;exact this
   ·refine⟨hb,rfl,cQ h fun hh h=>?_⟩;obtain⟨h2,h⟩:=aS h;show 0<=hh/\hh<=len/\_;refine⟨eo _,h2,?_⟩;have:=hK _ h;simp only[XV.er,hb]at this;exact this
   ·refine⟨hb,rfl,cQ h fun hh h=>cQ h fun l h=>?_⟩;obtain⟨h1,h⟩:=aS h;obtain⟨h2,h⟩:=aS h;refine⟨h1,h2,?_⟩;have:=hK _ h;simp only[XV.er,hb]at this;rw[bq];exact this
  ·cases h
 ·rename_i hd t off len;split at h
  ·rename_i hb;have hb:=η hb;refine⟨hb,rfl,cQ h fun hh h=>cQ h fun l h=>?_⟩;obtain⟨h1,h⟩:=aS h;obtain⟨h2,h⟩:=aS h;refine⟨h1,h2,?_⟩;have:=hK _ h;simp only[XV.er,hb]at this;exact this
  ·cases h
 ·rename_i hd off len;split at h
  ·rename_i hb;have hb:=η hb;refine⟨hb,rfl,cQ h fun hh h=>cQ h fun l h=>?_⟩;obtain⟨h1,h⟩:=aS h;obtain⟨h2,h⟩:=aS h;refine⟨h1,h2,?_⟩;have:=hK _ h;rw[pS,dk]at this;subst hb;exact this
  ·cases h
 ·rename_i hd off l0 len;split at h
  ·rename_i hb;have hb:=η hb;refine⟨hb,rfl,cQ h fun hh h=>cQ h fun l h=>?_⟩;obtain⟨h1,h⟩:=aS h;obtain⟨h2,h⟩:=aS h;refine⟨h1,h2,?_⟩;have:=hK _ h;simp only[XV.er,pS,dk]at this;subst hb;rw[gc];exact this
  ·cases h
 ·cases h
end
section
variable{R:Type}
def aU(xs:List Int):Str:=xs.map fun n=>UInt8.ofNat n.toNat
theorem aBg:∀{xs:List Int},mS (xs.map (Ty.i .u8).ds)=some (aU xs)
 |[]=>rfl
 |x::xs=>by have ih:=aBg (xs:=xs);show(mS (xs.map (Ty.i .u8).ds)).map _=_;rw[ih];rfl
def szL:List XV->Nat
 |[]=>0
 |v::r=>v.sz+szL r
theorem aA7[YL]:∀l:List XV,(XV.fcL l).length=szL l
 |[]=>rfl
 |v::r=>by show(v.fc++XV.fcL r).length=v.sz+szL r;rw[κ,aE8,aA7 r]
theorem uI:∀l:List DV,AV.data (l.map .D)=some l
 |[]=>rfl
 |x::l=>by show(AV.data (l.map .D)).map (x::·)=_;rw[uI l];rfl
def zl:Ty->List XV
 |.u=>[]
 |.b=>[.d .b false]
 |.i k=>[.d (.i k) 0]
 |.s=>[.d .s []]
 |.p a c=>zl a++zl c
 |.w a=>zl a
 |.ar n k=>[.d (.ar n k) (Arr.zero n)]
 |.sl t=>[.fln t]
 |.o t=>[.fln t]
def xV:Ty->List AV
 |.u=>[]
 |.b=>[.D (.B false)]
 |.i k=>[.D (.I k 0)]
 |.s=>[.D (.S [])]
 |.p a c=>xV a++xV c
 |.w a=>xV a
 |.ar n k=>br n (.D (.I k 0))
 |.sl _=>[.fl []]
 |.o _=>[.fl []]
theorem zJ[YL]:∀t:Ty,XV.fcL (zl t)=xV t
 |.u=>rfl
 |.b=>rfl
 |.i _=>rfl
 |.s=>rfl
 |.p a c=>by show XV.fcL (zl a++zl c)=xV a++xV c;rw[lE,zJ a,zJ c]
 |.w a=>zJ a
 |.ar n k=>by
  show(((br n (0:Int)).map (DV.I k)).map AV.D)++[]=br n (.D (.I k 0));rw[bj,f9,f9]
 |.sl _=>rfl
 |.o _=>rfl
def zeq:List AV->List AV->Bool
 |[],[]=>true
 |.D (.B x)::r,.D (.B y)::r'=>(x==y)&&zeq r r'
 |.D (.I k x)::r,.D (.I k' y)::r'=>decide (k=k')&&((x==y)&&zeq r r')
 |.D (.S x)::r,.D (.S y)::r'=>(x==y)&&zeq r r'
 |.fl []::r,.fl []::r'=>zeq r r'
 |.D (.L [])::r,.D (.L [])::r'=>zeq r r'
 |_,_=>false
theorem aEa:∀{a c:List AV},zeq a c=true->a=c:=by
 intro a
 induction a with
 |nil=>intro c h;cases c<;>first|rfl|(cases h;done)
 |cons x r ih=>
  intro c h;unfold zeq at h;split at h
  ·cases‹x::r=[]›
  ·rename_i e;cases e;rw[μ,beq_iff_eq]at h;rw[h.1,ih h.2]
  ·rename_i e;cases e;rw[μ,μ,beq_iff_eq,decide_eq_true_eq]at h;rw[h.1,h.2.1,ih h.2.2]
  ·rename_i e;cases e;rw[μ,beq_iff_eq]at h;rw[h.1,ih h.2]
  ·rename_i e;cases e;rw[ih h]
  ·rename_i e;cases e;rw[ih h]
  ·cases h
def zX:List AV->Option (List XV)
 |[]=>some []
 |.D (.B x)::r=>(zX r).map (.d .b x::·)
 |.D (.I k x)::r=>(zX r).map (.d (.i k) x::·)
 |.D (.S x)::r=>(zX r).map (.d .s x::·)
 |.fl []::r=>(zX r).map (.fln .u::·)
 |.D (.C v)::r=>(zX r).map (.c v::·)
 |_=>none
theorem aZ8[YL]:∀{a:List AV} {l:List XV},zX a=some l->XV.fcL l=a:=by
  intro a
  induction a with
  |nil=>intro l h;cases h;rfl
  | cons x r ih =>
    intro l h;unfold zX at h;split at h
    · rename_i e;cases e
    all_goals first
      | (rename_i e;cases e
         rw[ζ]at h;obtain⟨l',h1,rfl⟩:=h;exact congrArg (_::·) (ih h1))
      |(cases h;done)
def aO4(ty:Option Ty)(zs:List AV):Option (List XV):=match ty with
 |some t=>match zeq zs (xV t)with
  |true=>some (zl t)
  |false=>none
 |none=>zX zs
theorem aLq[YL](h:aO4 ty zs=some l):XV.fcL l=zs:=by
 unfold aO4 at h;split at h
 ·split at h
  ·rename_i hz;cases h;rw[zJ,aEa hz]
  ·cases h
 ·exact aZ8 h
def elT:Option Ty->Option Ty
 |some (.sl t)=>some t
 |_=>none
def xbs(s:XS)(t:Ty):List XV->(List t.T->Option R)->Option R
 |[],K=>K []
 |v::vs,K=>match pE v with
  |some cs=>pkC s t cs fun x l=>match l with
   |[]=>xbs s t vs fun ys=>K (x::ys)
   |_=>none
  |none=>none
theorem aNm[YL]{s:XS}{t:Ty}{k:Nat}(hk:t.n=k){r:R}:∀{ps:List Operand} {vs:List XV} {K:List t.T->Option R},ps.map s.er.ev=XV.erL vs->xbs s t vs K=some r->∃xs,K xs=some r/\pM s.er.lk s.er.ev k ps=some (xs.map t.ds)/\dQ s.er.ev ps=XV.hrL vs
 |[],[],K,_,h=>⟨[],h,rfl,rfl⟩
 |p::ps,v::vs,K,e,h=>by
  have e1:s.er.ev p=v.er:=List.head_eq_of_cons_eq e;have e2:ps.map s.er.ev=XV.erL vs:=List.tail_eq_of_cons_eq e;unfold xbs at h;split at h
  ·rename_i cs hcs;obtain⟨x,l1,l2,rfl,h,ec⟩:=aTk (φ:=fun _=>none) (fun _ _ _=>rfl) h;split at h
   ·obtain⟨xs,h,h1,h2⟩:=aNm hk e2 h;refine⟨x::xs,h,?_,?_⟩
    ·unfold pM;rw[e1,kW hcs,h1];show(match AV.data (AV.convL s.er.lk (fun _=>none) (XV.fcL (l1++[]))),some (xs.map t.ds)with|some e,some es=>if e.length=k then some (e::es)else none|_,_=>none)=_;rw[bj,ec,uI];show(if(t.ds x).length=k then _ else _)=_;rw[if_pos (by rw[Ty.ds_len];exact hk)];rfl
    ·show AV.rows (s.er.ev p)++dQ s.er.ev ps=_;rw[e1,aB5,h2];rfl
   ·cases h
  ·cases h
 |[],_::_,_,e,_=>by cases e
 |_::_,[],_,e,_=>by cases e
def aMk(s:XS):List (Nat×Nat×Operand)->List XV->(List XV->Option R)->Option R
 |[],l,K=>K l
 |(o,sz,x)::r,l,K=>w1 s x fun v=>match pE v with
  |some cs=>match χ (szL cs) sz,aIn l o cs sz with
   |true,some l'=>aMk s r l' K
   |_,_=>none
  |none=>none
theorem aDd(o:Nat)(xs:List AV):∀(r:List (Nat×List AV)) (cs:List AV),uJ cs (r++[(o,xs)])=(uJ cs r).take o++xs++(uJ cs r).drop (o+xs.length)
 |[],cs=>rfl
 |(o',ys)::r,cs=>by show uJ _ (r++[(o,xs)])=_;rw[aDd o xs r];rfl
theorem aGq[YL]{s:XS}{zs:List AV}{K:List XV->Option R}{r:R}{KP:AV->Prop}(hK:∀l,K l=some r->KP (.agg (XV.fcL l))):∀{ps:List (Nat×Nat×Operand)} {l:List XV} {acc:List (Nat×List AV)},XV.fcL l=uJ zs acc.reverse->(XV.fcL l).length=zs.length->aMk s ps l K=some r->aAt s.er.ev zs ps acc KP
 |[],l,acc,e,_,h=>by show KP (.agg (uJ zs acc.reverse));rw[<-e];exact hK _ h
 |(o,sz,x)::ps,l,acc,e,el,h=>by
  obtain⟨h,e1⟩:=aN h;split at h
  ·rename_i cs hcs;split at h
   ·rename_i l' hb hu;obtain⟨u1,u2⟩:=qP hu;have hsz:(XV.fcL cs).length=sz:=by rw[aA7];exact η hb
    refine⟨XV.fcL cs,by rw[e1];exact kW hcs,hsz,by rw[<-el];exact u1,?_⟩;refine aGq hK (l:=l') ?_ ?_ h
    ·rw[u2,e,List.reverse_cons,aDd,hsz]
    ·rw[u2,κ,κ,bz,υ,hsz];omega
   ·cases h
  ·cases h
def unA:XV->XV
 |.agg [.d (.ar n k) x]=>.d (.ar n k) x
 |v=>v
theorem aId[YL](v:XV):(unA v).er=v.er:=by
 unfold unA;split
 ·rename_i n k x;show AV.agg (((Ty.ar n k).ds x).map .D)=.agg (((Ty.ar n k).ds x).map .D++[]);rw[bj]
 ·rfl
def Ty.z:(t:Ty)->t.T
 |.u=>()
 |.b=>false
 |.i _=>0
 |.s=>[]
 |.p a c=>(a.z,c.z)
 |.w a=>a.z
 |.ar n _=>Arr.zero n
 |.sl _=>[]
 |.o _=>[]
def bAt(t:Ty)(k bytes:Nat)(zs:List DV)(K:XV->XB->Option R)(m:Nat):XV->XV->Option R
 |.d (.i _) l,.d (.i _) c=>match χ t.n k,zeq (zs.map .D) ((t.ds t.z).map .D)with
  |true,true=>gd? (0<=l) (gd? (l<=c) (gd? (c.toNat<=9223372036854775807) (gd? (c.toNat*bytes<=281474976710656) (K (.slw (.O m) t l.toNat) (.row true t (br l.toNat t.z))))))
  |_,_=>none
 |_,_=>none
theorem aXd[YL]{zs:List DV}{K:XV->XB->Option R}{r:R}{m:Nat}{vx:XV}(h:bAt t k bytes zs K m vx vy=some r):
  ∃(k1 k2:IntKind) (l c:Int) (v:XV) (b:XB),vx.er=.D (.I k1 l)/\vy.er=.D (.I k2 c)/\0<=l/\l<=c/\c<=9223372036854775807/\(bytes:Int)*c<=281474976710656/\K v b=some r/\v.er=.sl (.O m) k 0 l.toNat/\b.er=.row true k (br l.toNat zs):=by
 unfold bAt at h;split at h
 ·rename_i k1 l k2 c;split at h
  ·rename_i hb hz;have hb:=η hb;have hz:=jQ (aEa hz);obtain⟨h1,h⟩:=aS h;obtain⟨h2,h⟩:=aS h;obtain⟨h3,h⟩:=aS h;obtain⟨h4,h⟩:=aS h;have h0:(0:Int)<=c:=Int.le_trans (show(0:Int)<=l from h1) h2;have hc:((Int.toNat c:Nat):Int)=c:=Int.toNat_of_nonneg h0;have h3:(c:Int)<=9223372036854775807:=by rw[<-hc];exact Int.ofNat_le.2 h3
   have h4:(bytes:Int)*c<=281474976710656:=by rw[<-hc,Int.mul_comm,<-Int.natCast_mul];exact Int.ofNat_le.2 h4
   refine⟨k1,k2,l,c,_,_,rfl,rfl,h1,h2,h3,h4,h,?_,?_⟩
   ·show AV.sl (.O m) t.n 0 _=_;rw[hb]
   ·show Blk.row true t.n ((br _ t.z).map t.ds)=_;rw[hb,f9,<-hz]
  ·cases h
 ·cases h
def xpk(j:Int)(K:XV->Option R):Nat->List XV->Option R
 |_,[]=>none
 |i,v::vs=>match v with
  |.clo f c=>if? (decide (j=(i:Int))) (K (.clo f c)) (xpk j K (i+1) vs)
  |_=>none
theorem aU3[YL]{j:Int}{K:XV->Option R}{r:R}:∀{vs:List XV} {i:Nat},xpk j K i vs=some r->∃n v,j=((i+n:Nat):Int)/\n<vs.length/\(XV.fcL vs)[n]?=some v.er/\K v=some r
 |[],i,h=>by cases h
 |v::vs,i,h=>by
  unfold xpk at h;split at h
  ·rename_i f c;by_cases hj:j=(i:Int)
   ·rw[decide_eq_true hj]at h;exact⟨0,.clo f c,hj,jc _,rfl,h⟩
   ·rw[decide_eq_false hj]at h;have h:xpk j K (i+1) vs=some r:=h;obtain⟨n,v,h1,h2,h3,h4⟩:=aU3 h;exact⟨n+1,v,by rw[h1];congr 1;omega,im h2,h3,h4⟩
  ·cases h
def bD4:List XV->Bool
 |[]=>true
 |v::r=>match v with
  |.d (.ar _ _) _=>false
  |_=>bD4 r
def bE2(s:XS):XV->Bool
 |.ptr h _=>match s.lk h with
  |some (.box cs)=>bD4 cs
  |_=>false
 |_=>false
def aR4(h:Hd)(o k:Nat)(j:Int)(K:XV->Option R):Nat->Nat->Option R
 |_,0=>none
 |i,n+1=>if? (decide (j=(i:Int))) (K (.ptr h (o+i*k))) (aR4 h o k j K (i+1) n)
theorem aO2{h:Hd}{o k:Nat}{j:Int}{K:XV->Option R}{r:R}:∀{n i:Nat},aR4 h o k j K i n=some r->∃t,j=((i+t:Nat):Int)/\t<n/\K (.ptr h (o+(i+t)*k))=some r
 |0,i,e=>by cases e
 |n+1,i,e=>by
  unfold aR4 at e;by_cases hj:j=(i:Int)
  ·rw[decide_eq_true hj]at e;exact⟨0,hj,jc _,e⟩
  ·rw[decide_eq_false hj]at e;have e:aR4 h o k j K (i+1) n=some r:=e;obtain⟨t,h1,h2,h3⟩:=aO2 e;exact⟨t+1,by rw[h1];congr 1;omega,im h2,by rw[show i+(t+1)=i+1+t by omega];exact h3⟩
def bAs(s:XS)(m k:Nat)(j:Int)(K:XV->Option R)(v:XV):Option R:=match bE2 s v with
 |true=>match v with
  |.ptr h o=>aR4 h o k j K 0 m
  |_=>none
 |false=>bBe m k j K v
theorem aXs[YL]{m:Nat}{K:XV->Option R}{r:R}(h:bAs s m k j K v=some r){KP:AV->Prop}(hK:∀v,K v=some r->KP v.er):0<=j/\j<(m:Int)/\
  match v.er with
  |.ptr h o=>KP (.ptr h (o+j.toNat*k))
  |.eptr h k' ix o=>KP (AV.eadd h k' ix o (j.toNat*k))
  |.rop ds=>KP (.rop (ds.drop (j.toNat*k)))
  |_=>False:=by
 unfold bAs at h;split at h
 ·split at h
  ·rename_i hd o _;obtain⟨t,h1,h2,h3⟩:=aO2 h;have:=hK _ h3;refine⟨by omega,by omega,?_⟩;show KP (.ptr hd (o+j.toNat*k));rw[h1,be];exact this
  ·cases h
 ·exact aW3 h hK
def aQx(ag:Option Nat)(k:Nat)(cs:List XV)(j:Int)(K:XV->Option R):Nat->Nat->Option R
 |_,0=>none
 |i,n+1=>if? (decide (j=(i:Int))) (aJk ag cs (i*k) K) (aQx ag k cs j K (i+1) n)
theorem aOj[YL]{ag:Option Nat}{k:Nat}{cs:List XV}{j:Int}{K:XV->Option R}{r:R}:∀{n i:Nat},aQx ag k cs j K i n=some r->∃t,j=((i+t:Nat):Int)/\t<n/\aJk ag cs ((i+t)*k) K=some r
 |0,i,h=>by cases h
 |n+1,i,h=>by
  unfold aQx at h;by_cases hj:j=(i:Int)
  ·rw[decide_eq_true hj]at h;exact⟨0,hj,jc _,h⟩
  ·rw[decide_eq_false hj]at h;have h:aQx ag k cs j K (i+1) n=some r:=h;obtain⟨t,h1,h2,h3⟩:=aOj h;exact⟨t+1,by rw[h1];congr 1;omega,im h2,by rw[show i+(t+1)=i+1+t by omega];exact h3⟩
def bCg(m k:Nat)(ag:Option Nat)(j:Int)(K:XV->Option R):XV->Option R
 |.d (.ar n k') y=>match ag with
  |none=>match χ n m,χ k 1 with
   |true,true=>bS y.l j fun c=>K (.d (.i k') c)
   |_,_=>none
  |some q=>match χ (m*k) n,χ q k with
   |true,true=>gd? (0<=j) (gd? (j<(m:Int)) (K (.d (.ar q k') (y.part (ixA 0 j.toNat k) q))))
   |_,_=>none
 |.agg cs=>match ag with
  |none=>match χ cs.length m,χ k 1 with
   |true,true=>xpk j K 0 cs
   |_,_=>none
  |some q=>match χ q k with
   |true=>aQx (some q) k cs j K 0 m
   |false=>none
 |_=>none
theorem aXp[YL]{m:Nat}{K:XV->Option R}{r:R}(h:bCg m k ag j K v=some r){KP:AV->Prop}(hK:∀v,K v=some r->KP v.er):∃cs,v.er=.agg cs/\0<=j/\j<(m:Int)/\
  match(generalizing:=false) ag with
  |none=>∃a,cs[j.toNat*k]?=some a/\KP a
  |some q=>j.toNat*k+q<=cs.length/\KP (.agg ((cs.drop (j.toNat*k)).take q)):=by
 unfold bCg at h;split at h
 ·rename_i n k' y;cases ag with
  |none=>
   replace h:(match χ n m,χ k 1 with
    |true,true=>bS y.l j fun c=>K (.d (.i k') c)
    |_,_=>none)=some r:=h
   split at h
   ·rename_i hb hb2;have hb:=η hb;have hb2:=η hb2;obtain⟨c,h0,hc,h⟩:=aJu h;have hlt:=(ω.1 hc).1;rw[y.len]at hlt;refine⟨(y.l.map (DV.I k')).map .D,rfl,h0,by omega,.D (.I k' c),?_,hK (.d (.i k') c) h⟩;rw[hb2,dk,τ,τ,hc];rfl
   ·cases h
  |some q=>
   replace h:(match χ (m*k) n,χ q k with
    |true,true=>gd? (0<=j) (gd? (j<(m:Int)) (K (.d (.ar q k') (y.part (ixA 0 j.toNat k) q))))
    |_,_=>none)=some r:=h
   split at h
   ·rename_i hb hb2;have hb:=η hb;obtain rfl:=η hb2;obtain⟨h0,h⟩:=aS h;obtain⟨h1,h⟩:=aS h;have hle:j.toNat*q+q<=n:=by rw[<-hb,<-Nat.succ_mul];exact Nat.mul_le_mul_right _ (by omega)
    have:=hK _ h;rw[pS,bq]at this;refine⟨(y.l.map (DV.I k')).map .D,rfl,h0,h1,by rw[ι,ι,y.len];exact hle,?_⟩;have e:(XV.d (.ar q k') (y.part (j.toNat*q) q)).er=.agg ((((y.l.map (DV.I k')).map AV.D).drop (j.toNat*q)).take q):=by show AV.agg (((y.part (j.toNat*q) q).l.map (DV.I k')).map .D)=_;rw[Arr.l_part hle,ce,cj,ce,cj]
    rw[e]at this;exact this
   ·cases h
 ·rename_i cs;cases ag with
  |none=>
   replace h:(match χ cs.length m,χ k 1 with
    |true,true=>xpk j K 0 cs
    |_,_=>none)=some r:=h
   split at h
   ·rename_i hb hb2;have hb:=η hb;obtain rfl:=η hb2;obtain⟨n,v,h1,h2,h3,h4⟩:=aU3 h;refine⟨XV.fcL cs,rfl,by omega,by omega,v.er,?_,hK v h4⟩;rw[h1,be,dk,bq];exact h3
   ·cases h
  |some q=>
   replace h:(match χ q k with
    |true=>aQx (some q) k cs j K 0 m
    |false=>none)=some r:=h
   split at h
   ·rename_i hb;obtain rfl:=η hb;obtain⟨t,h1,h2,h3⟩:=aOj h;obtain⟨v,h4,h5⟩:=vL h3;have e:j.toNat*q=(0+t)*q:=by rw[h1,be]
    refine⟨XV.fcL cs,rfl,by omega,by omega,?_,?_⟩
    ·rw[e];exact h5.1
    ·rw[e,<-h5.2];exact hK _ h4
   ·cases h
 ·cases h
def bD3(s:XS)(m:Nat)(lo hi:Option Operand)(K:XV->Option R):XV->Option R
 |.apt h ix=>match s.lk h with
  |some (.arr _ n _ _)=>match j2 (ix+m) n with
   |true=>mM s hi m fun hh=>mM s lo 0 fun l=>gd? (l<=hh) (gd? (hh<=m) (K (.asl h (ixA ix l 1) (hh-l))))
   |false=>none
  |_=>none
 |.rpt h off=>match s.lk h with
  |some (.rb _ t x)=>match xJ (lvs t x) off with
   |some a=>match χ a.n m with
    |true=>mM s hi m fun hh=>mM s lo 0 fun l=>gd? (l<=hh) (gd? (hh<=m) (K (.rsl h off l (hh-l))))
    |false=>none
   |none=>none
  |_=>none
 |_=>none
def zK(k:IntKind):Nat->List AV->Bool
 |0,[]=>true
 |n+1,.D (.I k' 0)::l=>decide (k'=k)&&zK k n l
 |_,_=>false
theorem aZv{k:IntKind}:∀{n:Nat} {l:List AV},zK k n l=true->l=(br n (DV.I k 0)).map .D
 |0,[],_=>rfl
 |n+1,.D (.I k' 0)::l,h=>by have h:(decide (k'=k)&&zK k n l)=true:=h;rw[μ,decide_eq_true_eq]at h;rw[h.1,aZv h.2];rfl
def aZ9(zs:List AV)(K:XV->XB->Option R)(m:Nat):Ty->Option R
 |.ar n k=>match zK k n zs with
  |true=>K (.apt (.O m) 0) (.arr true n k (Arr.zero n))
  |false=>none
 |t=>match zeq zs ((t.ds t.z).map .D)with
  |true=>K (.rpt (.O m) 0) (.rb true t t.z)
  |false=>none
def aZz(ty:Option Ty)(K:XV->XB->Option R)(m:Nat):XV->Option R
 |.d (.ar n k) y=>K (.apt (.O m) 0) (.arr true n k y)
 |.agg cs=>match ty with
  |some t=>match pkD t cs with
   |some (x,[])=>K (.rpt (.O m) 0) (.rb true t x)
   |_=>none
  |none=>none
 |_=>none
def bC2(k:IntKind)(m:Nat)(K:Bool->Option R):XV->XV->Option R
 |.d (.ar n k1) a,.d (.ar n2 k2) b=>match χ n m,χ n2 m,decide (k1=k),decide (k2=k)with
  |true,true,true,true=>K (a.l==b.l)
  |_,_,_,_=>none
 |_,_=>none
def aO9(K:XV->Option R):XV->Option R
 |.ptr h o=>K (.ptr h o)
 |.ept h t ix o=>K (.ept h t ix o)
 |.apt h ix=>K (.apt h ix)
 |.rpt h o=>K (.rpt h o)
 |.rop t x o=>K (.rop t x o)
 |_=>none
theorem tZ{k:IntKind}:∀(l:List Int),rN k ((l.map (DV.I k)).map .D)=some l
 |[]=>rfl
 |x::l=>by show(if k=k then(rN k ((l.map (DV.I k)).map .D)).map (x::·)else none)=_;rw[if_pos rfl,tZ l];rfl
theorem aYk[YL]{k:IntKind}{m:Nat}{K:Bool->Option R}{r:R}{c:XV}(h:bC2 k m K a c=some r):∃xs ys p q,a.er=.agg xs/\c.er=.agg ys/\rN k xs=some p/\rN k ys=some q/\p.length=m/\q.length=m/\K (p==q)=some r:=by
 unfold bC2 at h;split at h
 ·rename_i n k1 a n2 k2 b;split at h
  ·rename_i h1 h2 h3 h4;have h1:=η h1;have h2:=η h2;have h3:=of_decide_eq_true h3;have h4:=of_decide_eq_true h4;subst h1 h2 h3 h4;exact⟨(a.l.map (DV.I _)).map .D,(b.l.map (DV.I _)).map .D,a.l,b.l,rfl,rfl,tZ _,tZ _,a.len,b.len,h⟩
  ·cases h
 ·cases h
theorem aKi[YL]{K:XV->Option R}{r:R}(h:aO9 K v=some r){KP:AV->Prop}(hK:∀v,K v=some r->KP v.er):match v.er with
  |.ptr h o=>KP (.ptr h o)
  |.eptr h k ix o=>KP (.eptr h k ix o)
  |.rop ds=>KP (.rop ds)
  |_=>False:=by
 unfold aO9 at h;split at h
 ·exact hK _ h
 ·exact hK _ h
 ·exact hK _ h
 ·exact hK _ h
 ·exact hK _ h
 ·cases h
theorem yQ:∀l:List DV,AV.data (l.map .D)=some l
 |[]=>rfl
 |x::l=>by show(AV.data (l.map AV.D)).map (x::·)=_;rw[yQ l];rfl
def bDb:List Sh->Bool->Bool->Bool
 |[],p,_=>p
 |_::_,p,q=>p&&q
def bBi(k:IntKind)(m:Nat):XV->XV->Option Bool
 |.d (.ar n k1) a,.d (.ar n2 k2) e=>match χ n m,χ n2 m,decide (k1=k),decide (k2=k)with
  |true,true,true,true=>some (a.l==e.l)
  |_,_,_,_=>none
 |_,_=>none
theorem aYw[YL]{k:IntKind}{m:Nat}{x:XV}{b:Bool}(h:bBi k m x y=some b):∃p q:List Int,x.fc=(p.map (DV.I k)).map .D/\y.fc=(q.map (DV.I k)).map .D/\p.length=m/\q.length=m/\b=(p==q):=by
 unfold bBi at h;split at h
 ·rename_i n k1 a n2 k2 e;split at h
  ·rename_i h1 h2 h3 h4;obtain rfl:=η h1;obtain rfl:=η h2;obtain rfl:=of_decide_eq_true h3;obtain rfl:=of_decide_eq_true h4;cases h;exact⟨a.l,e.l,rfl,rfl,a.len,e.len,rfl⟩
  ·cases h
 ·cases h
def aL6:List Sh->List XV->List XV->Option Bool
 |[],[],[]=>some true
 |.s kd::r,x::xs,y::ys=>match aEd kd x y,aL6 r xs ys with
  |some p,some q=>some (bDb r p q)
  |_,_=>none
 |.a k m::r,x::xs,y::ys=>match bBi k m x y,aL6 r xs ys with
  |some p,some q=>some (bDb r p q)
  |_,_=>none
 |_,_,_=>none
theorem aUz(h:aL6 [] xs ys=some q):q=true:=by cases xs<;>cases ys<;>first|(cases h;rfl;done)|(cases h;done)
theorem aP2{r:List Sh}{p:Bool}(h:aL6 r xs ys=some q):bDb r p q=(p&&q):=by
 cases r with
 |nil=>rw[aUz h,ga];rfl
 |cons _ _=>rfl
theorem aQb[YL]{kd:Nat}{x:XV}{p:Bool}(hp:aEd kd x y=some p):∃d1 d2,x.fc=[.D d1]/\y.fc=[.D d2]/\DV.same kd d1 d2=some p:=by
 unfold aEd at hp;split at hp
 ·split at hp
  ·rename_i hb;obtain rfl:=η hb;exact⟨_,_,rfl,rfl,hp⟩
  ·cases hp
 ·exact⟨_,_,rfl,rfl,hp⟩
 ·split at hp
  ·rename_i hb;obtain rfl:=η hb;exact⟨_,_,rfl,rfl,hp⟩
  ·cases hp
 ·cases hp
theorem aIw[YL]:∀{sh:List Sh} {xs ys:List XV} {b:Bool},aL6 sh xs ys=some b->aCa sh (XV.fcL xs) (XV.fcL ys)=some b
 |[],xs,ys,b,h=>by
  cases xs<;>cases ys<;>first|(cases h;rfl;done)|(cases h;done)
 |.s kd::r,x::xs,y::ys,b,h=>by
  unfold aL6 at h;split at h
  ·rename_i p q h1 h2;cases h;obtain⟨d1,d2,e1,e2,e3⟩:=aQb h1;have ih:=aIw h2;show aCa (.s kd::r) (x.fc++XV.fcL xs) (y.fc++XV.fcL ys)=_;rw[e1,e2,aP2 h2];show(match DV.same kd d1 d2,aCa r (XV.fcL xs) (XV.fcL ys)with|some p,some q=>some (p&&q)|_,_=>none)=_;rw[e3,ih]
  ·cases h
 |.a k m::r,x::xs,y::ys,b,h=>by
  unfold aL6 at h;split at h
  ·rename_i p q h1 h2;cases h;obtain⟨p1,q1,e1,e2,l1,l2,rfl⟩:=aYw h1;have ih:=aIw h2;show aCa (.a k m::r) (x.fc++XV.fcL xs) (y.fc++XV.fcL ys)=_;rw[e1,e2,aP2 h2];have hl:∀(p:List Int),p.length=m->((p.map (DV.I k)).map AV.D).length=m:=fun p e=>by rw[ι,ι,e]
   have tk:∀{a c:List AV},a.length=m->(a++c).take m=a:=fun e=>by rw[<-e,List.take_left]
   have dp:∀{a c:List AV},a.length=m->(a++c).drop m=c:=fun e=>by rw[<-e,List.drop_left]
   unfold aCa;rw[tk (hl _ l1),tk (hl _ l2),dp (hl _ l1),dp (hl _ l2),tZ,tZ,ih];simp only;rw[if_pos ⟨l1,l2⟩]
  ·cases h
 |.s _::_,[],ys,b,h=>by cases h
 |.s _::_,_::_,[],b,h=>by cases h
 |.a _ _::_,[],ys,b,h=>by cases h
 |.a _ _::_,_::_,[],b,h=>by cases h
section
variable{α β:Type}[DecidableEq α]
def yE:List (α×β)->α->Option β
 |[],_=>none
 |e::es,y=>if e.1=y then some e.2 else yE es y
def bDo:List (α×β)->α->β->List (α×β)
 |[],y,v=>[(y,v)]
 |e::es,y,v=>if e.1=y then(y,v)::es else e::bDo es y v
def bF6:List (α×β)->α->List (α×β)
 |[],_=>[]
 |e::es,y=>if e.1=y then es else e::bF6 es y
end
def bCs(t:Ty)(x:t.T):XV:=match t,x with
 |.o t,x=>.d (.sl t) x
 |t,x=>aA1 t x
theorem aKl:∀{a b c d:List AV} {p q:Bool},aCg a b=some p->aCg c d=some q->aCg (a++c) (b++d)=some (p&&q)
 |a,b,c,d,p,q,h,h2=>by
  unfold aCg at h;split at h
  ·cases h;simpa using h2
  ·rename_i k n xs k' n' ys;rw[δ]at h;obtain⟨e,h⟩:=h;split at h
   ·rename_i b0 hb;cases h;show(if k=k' then match aCg (xs++c) (ys++d)with|some b=>some (n==n'&&b)|none=>none else none)=_;rw[if_pos e,aKl hb h2,ij]
   ·cases h
  ·cases h
theorem aPx(k:IntKind):∀(l l':List Int),l.length=l'.length->aCg ((l.map (DV.I k)).map .D) ((l'.map (DV.I k)).map .D)=some (decide (l'=l))
 |[],[],_=>rfl
 |x::l,y::l',h=>by
  show(if k=k then match aCg ((l.map (DV.I k)).map .D) ((l'.map (DV.I k)).map .D)with|some b=>some (x==y&&b)|none=>none else none)=_;rw[if_pos rfl,aPx k l l' (by simpa using h)];simp only[Option.some.injEq];rw[ft,μ,beq_iff_eq,decide_eq_true_eq,decide_eq_true_eq];exact⟨fun⟨a,b⟩=>by rw[a,b],fun e=>by cases e;exact⟨rfl,rfl⟩⟩
 |[],_::_,h=>by cases h
 |_::_,[],h=>by cases h
theorem aIv:∀{t:Ty},aQ4 t=true->∀x y:t.T,aCg ((t.ds x).map .D) ((t.ds y).map .D)=some (decide (y=x))
 |.i k,_,x,y=>by
  show(if k=k then some (((x:Int)==y)&&true)else none)=_;rw[if_pos rfl,ga];congr 1;rw[ft,beq_iff_eq,decide_eq_true_eq];exact⟨Eq.symm,Eq.symm⟩
 |.p a b,h,x,y=>by
  have h:(aQ4 a&&aQ4 b)=true:=h;rw[μ]at h;show aCg ((a.ds x.1++b.ds x.2).map .D) ((a.ds y.1++b.ds y.2).map .D)=_;rw[cd,cd,aKl (aIv h.1 x.1 y.1) (aIv h.2 x.2 y.2)];congr 1;rw[ft,μ,decide_eq_true_eq,decide_eq_true_eq,decide_eq_true_eq];exact⟨fun⟨a,b⟩=>Prod.ext a b,fun e=>by rw[e];exact⟨rfl,rfl⟩⟩
 |.ar n k,_,x,y=>by
  show aCg ((x.l.map (DV.I k)).map .D) ((y.l.map (DV.I k)).map .D)=_;rw[aPx k x.l y.l (x.len.trans y.len.symm)];congr 1;rw[ft,decide_eq_true_eq,decide_eq_true_eq];exact⟨fun e=>Arr.ext e,fun e=>by rw[e]⟩
 |.u,h,_,_|.b,h,_,_|.s,h,_,_|.w _,h,_,_|.sl _,h,_,_|.o _,h,_,_=>by cases h
theorem aWr{K:Ty}(h:aBt K=true)(x y:K.T):(gI K x).keq (gI K y)=some (decide (y=x)):=by
 cases K<;>first|(cases h;done)|skip
 ·rename_i k;show(if k=k then some ((x:Int)==y)else none)=_;rw[if_pos rfl];congr 1;rw[ft,beq_iff_eq,decide_eq_true_eq];exact⟨Eq.symm,Eq.symm⟩
 ·show some ((x:List UInt8)==y)=_;congr 1;rw[ft,beq_iff_eq,decide_eq_true_eq];exact⟨Eq.symm,Eq.symm⟩
 ·exact aIv h x y
 ·exact aIv (t:=.ar _ _) rfl x y
theorem wX{wr:Bool}{K V:Ty}(hk:aBt K=true)(y:K.T):∀(es:List (K.T×V.T)) (hole:Option K.T),∃r,wN (gI K y) (aBi wr K V es hole)=some r/\
  match yE es y with
  |none=>r=none
  |some v=>∃j,r=some (j,if hole=some y then .v (bB6 wr V v)else aQc wr V v)
 |[],hole=>⟨none,rfl,rfl⟩
 |e::es,hole=>by
  have key:∀(mv:MV) (rest:List (AV×MV)) (r0:Option (Nat×MV)),wN (gI K y) rest=some r0->wN (gI K y) ((gI K e.1,mv)::rest)=some (if e.1=y then some (0,mv)else match r0 with|some (j,v)=>some (j+1,v)|none=>none):=fun mv rest r0 h0=>by
   unfold wN;rw[aWr hk];by_cases he:e.1=y
   ·rw[decide_eq_true he,if_pos he]
   ·rw[decide_eq_false he,if_neg he];simp only[h0];cases r0 with
    |none=>rfl
    |some p=>rfl
  have hg:yE (e::es) y=if e.1=y then some e.2 else yE es y:=rfl
  cases hole with
  |none=>
   obtain⟨r0,h0,h1⟩:=wX hk y es none;refine⟨_,key (aQc wr V e.2) _ r0 h0,?_⟩;rw[hg];by_cases he:e.1=y
   ·rw[if_pos he,if_pos he];exact⟨0,by rw[if_neg (fun h=>by cases h)]⟩
   ·rw[if_neg he,if_neg he];cases hm:yE es y with
    |none=>rw[hm]at h1;simp only at h1;subst h1;rfl
    |some v=>rw[hm]at h1;obtain⟨j,rfl⟩:=h1;exact⟨j+1,rfl⟩
  |some z=>
   by_cases hz:e.1=z
   ·obtain⟨r0,h0,h1⟩:=wX hk y es none;refine⟨_,by unfold aBi;rw[if_pos hz];exact key (.v (bB6 wr V e.2)) _ r0 h0,?_⟩;rw[hg];by_cases he:e.1=y
    ·rw[if_pos he,if_pos he];exact⟨0,by rw[if_pos (by rw[<-hz,he])]⟩
    ·rw[if_neg he,if_neg he];cases hm:yE es y with
     |none=>rw[hm]at h1;simp only at h1;subst h1;rfl
     |some v=>
      rw[hm]at h1;obtain⟨j,rfl⟩:=h1;exact⟨j+1,by rw[if_neg (fun h=>by cases h),if_neg (fun h=>he (by cases h;exact hz))]⟩
   ·obtain⟨r0,h0,h1⟩:=wX hk y es (some z);refine⟨_,by unfold aBi;rw[if_neg hz];exact key (aQc wr V e.2) _ r0 h0,?_⟩;rw[hg];by_cases he:e.1=y
    ·rw[if_pos he,if_pos he];exact⟨0,by rw[if_neg (fun h=>hz (by cases h;exact he))]⟩
    ·rw[if_neg he,if_neg he];cases hm:yE es y with
     |none=>rw[hm]at h1;simp only at h1;subst h1;rfl
     |some v=>rw[hm]at h1;obtain⟨j,rfl⟩:=h1;exact⟨j+1,rfl⟩
def zOk(V:Ty):AV->Bool
 |.agg cs=>!(kV V)&&zeq cs ((V.ds V.z).map .D)
 |a=>kV V&&zeq [a] [gI V V.z]
def kdB(a b:KD):Bool:=match a,b with
 |.i k,.i k'=>decide (k=k')
 |.s,.s=>true
 |.a l,.a l'=>decide (l=l')
 |_,_=>false
def aPq(K:Ty)(v:XV):Option K.T:=match v with
 |.d t x=>t.cst K x
 |.agg cs=>match kV K with
  |true=>none
  |false=>match pkD K cs with
   |some (x,[])=>some x
   |_=>none
 |_=>none
def bHa(s:XS)(kd:KD)(z:AV)(ok:Bool)(K:XV->Option R):XV->XV->Option R
 |.mref h,vy=>match s.lk h with
  |some (.mp false K0 V es _ _)=>match aBt K0&&kdB K0.kd kd&&zOk V z,aPq K0 vy with
   |true,some y=>match ok with
    |true=>K (.tup [bCs V ((yE es y).getD V.z),.d .b (yE es y).isSome])
    |false=>K (bCs V ((yE es y).getD V.z))
   |_,_=>none
  |_=>none
 |_,_=>none
def bHf(s:XS)(K:XV->Option R):XV->Option R
 |.itr h hi=>match s.lk h,s.lk hi with
  |some (.mp false K0 V es _ (some (hi',some cur,_))),some _=>match aBt K0&&hi.eqb hi' with
   |true=>bd? (yE es cur) fun v=>K (.tup [aA1 K0 cur,bCs V v])
   |false=>none
  |_,_=>none
 |_=>none
def bBo(neg:Bool)(K:XV->Option R):XV->Option R
 |.ptr _ _=>K (.d .b neg)
 |.c (.pointer none)=>K (.d .b (!neg))
 |_=>none
theorem aXl[YL]{neg:Bool}{K:XV->Option R}{r:R}(h:bBo neg K v=some r){KP:AV->Prop}(hK:∀v,K v=some r->KP v.er):match v.er with
  |.ptr _ _=>KP (.D (.B neg))
  |.D (.C (.pointer none))=>KP (.D (.B (!neg)))
  |_=>False:=by
 unfold bBo at h;split at h
 ·exact hK _ h
 ·exact hK _ h
 ·cases h
def aOf(k:IntKind):List XV->Option (List Int)
 |[]=>some []
 |.d (.i k') x::l=>match decide (k'=k),aOf k l with
  |true,some r=>some (x::r)
  |_,_=>none
 |_=>none
theorem aLw[YL]{k:IntKind}:∀{l:List XV} {xs:List Int},aOf k l=some xs->XV.fcL l=(xs.map (DV.I k)).map .D
 |[],xs,h=>by cases h;rfl
 |v::l,xs,h=>by
  unfold aOf at h;split at h
  ·rename_i e;cases e
  ·rename_i k' x l' e;cases e;split at h
   ·rename_i r h1 h2;cases h;have h1:=of_decide_eq_true h1;subst h1;show[AV.D (.I _ x)]++XV.fcL l=_;rw[aLw h2];rfl
   ·cases h
  ·cases h
def xzB(ty:Option Ty)(zs:List AV)(ps:List (Nat×Nat×Operand)):Option (List XV):=match ty,ps with
 |some (.ar _ _),_::_=>zX zs
 |_,_=>aO4 ty zs
theorem bCk[YL]{ps:List (Nat×Nat×Operand)}(h:xzB ty zs ps=some l):XV.fcL l=zs:=by
 unfold xzB at h;split at h
 ·exact aZ8 h
 ·exact aLq h
def bAo(ty:Option Ty)(K:XV->Option R)(l:List XV):Option R:=match ty with
 |some (.ar n k)=>match aOf k l with
  |some xs=>match χ xs.length n with
   |true=>K (.d (.ar n k) (Arr.from xs n))
   |false=>K (.agg l)
  |none=>K (.agg l)
 |_=>K (.agg l)
theorem aXr[YL]{K:XV->Option R}{r:R}(h:bAo ty K l=some r){KP:AV->Prop}(hK:∀v,K v=some r->KP v.er):KP (.agg (XV.fcL l)):=by
 unfold bAo at h;split at h
 ·rename_i n k;split at h
  ·rename_i xs hx;split at h
   ·rename_i hb;have:=hK _ h;have e:(XV.d (.ar n k) (Arr.from xs n)).er=.agg (XV.fcL l):=by show AV.agg (((Arr.from xs n).l.map (DV.I k)).map .D)=_;rw[aLw hx,Arr.l_from (Nat.le_of_eq (η hb).symm),bn (Nat.le_of_eq (η hb))]
    rw[e]at this;exact this
   ·exact hK _ h
  ·exact hK _ h
 ·exact hK _ h
def xp(T:List Sig)(s:XS)(ty:Option Ty)(op:ROp)(K:XV->List XB->List Hd->Option R):Option R:=
 match op with
 |.mv x=>w1 s x fun v=>K v [] []
 |.pick c a b=>w1 s c fun vc=>w1 s a fun va=>w1 s b fun vb=>match vc with
  |.d .b x=>aUs x (fun v=>K v [] []) va vb
  |_=>none
 |.new zs=>match aO4 ty zs with
  |some l=>K (.ptr (.O s.own.length) 0) [.box l] []
  |none=>none
 |.build zs ps=>match xzB ty zs ps with
  |some l=>aMk s ps l fun l=>bAo ty (fun v=>K v [] []) l
  |none=>none
 |.bslice k ps=>match ps with
  |[]=>K (.fln ((elT ty).getD .u)) [] []
  |ps=>match elT ty with
   |some t=>match χ t.n k with
    |true=>wL s ps fun vs=>xbs s t vs fun xs=>K (.slw (.O s.own.length) t ps.length) [.row true t xs] (xfz s (XV.hrL vs))
    |false=>none
   |none=>none
 |.bsF k ps=>match ps with
  |[]=>K (.fln ((elT ty).getD .u)) [] []
  |ps=>match elT ty with
   |some t=>match χ t.n k with
    |true=>wL s ps fun vs=>xbs ⟨s.env,[],[]⟩ t vs fun xs=>K (.fl t xs) [] []
    |false=>none
   |none=>none
 |.box x=>w1 s x fun v=>match pE v with
  |some cs=>K (.ptr (.O s.own.length) 0) [.box cs] []
  |none=>none
 |.load ag x=>w1 s x (aPg s ag fun a=>K a [] [])
 |.bin op x y=>w1 s x fun a=>w1 s y fun c=>bCb op (fun a=>K a [] []) a c
 |.eqs neg kds x y=>w1 s x fun a=>w1 s y fun c=>match a,c with
  |.agg xs,.agg ys=>match aK9 kds xs ys with
   |some q=>K (.d .b (match neg with
    |true=>!q
    |false=>q)) [] []
   |none=>none
  |_,_=>none
 |.beq neg x y=>w1 s x fun a=>w1 s y fun c=>match a,c with
  |.d .b p,.d .b q=>K (.d .b (match neg with
   |true=>!(p==q)
   |false=>p==q)) [] []
  |_,_=>none
 |.un op x=>w1 s x (xun op fun a=>K a [] [])
 |.faddr off x=>w1 s x fun v=>match rL s v with
  |true=>aHt off (fun a=>K a [] []) v
  |false=>none
 |.field off ag x=>w1 s x fun v=>match v with
  |.agg cs=>aJk ag cs off fun a=>K a [] []
  |_=>none
 |.iaddr k x i=>w1 s x fun v=>w1 s i fun vi=>match rL s v with
  |true=>match vi with
   |.d (.i _) j=>aE4 k j (fun a=>K a [] []) v
   |_=>none
  |false=>none
 |.ixs x i=>w1 s x fun v=>w1 s i fun vi=>match v,vi with
  |.d .s t,.d (.i _) j=>bS t j fun c=>K (.d (.i .u8) c.toNat) [] []
  |_,_=>none
 |.sls x lo hi=>w1 s x fun v=>match v with
  |.d .s t=>mM s hi t.length fun h=>mM s lo 0 fun l=>gd? (l<=h) (gd? (h<=t.length) (K (.d .s ((t.drop l).take (h-l))) [] []))
  |_=>none
 |.sll k x lo hi mx=>w1 s x fun v=>match rL s v with
  |true=>aD6 s k lo hi mx (fun a=>K a [] []) v
  |false=>none
 |.ext x i=>w1 s x fun v=>match v with
  |.tup vs=>match nth vs i with
   |some a=>K a [] []
   |none=>none
  |_=>none
 |.call f args=>w1 s f fun vf=>wL s args fun vs=>aVo T s vs K vf
 |.len str x=>w1 s x fun v=>match rL s v with
  |true=>match aSt str v with
   |some m=>K (.d (.i .i64) (m:Int)) [] []
   |none=>none
  |false=>none
 |.mm isMax x y=>w1 s x fun a=>w1 s y fun c=>match a,c with
  |.d (.i k) p,.d (.i k') q=>if k=k' then K (.d (.i k) (match isMax with
   |true=>max p q
   |false=>min p q)) [] []else none
  |_,_=>none
 |.mkf f caps=>wL s caps fun vs=>K (.clo f vs) [] []
 |.cvI k x=>w1 s x fun v=>match v with
  |.d (.i _) j=>K (.d (.i k) (k.wrap j)) [] []
  |_=>none
 |.cvS x=>w1 s x fun v=>lW s (.sl (.i .u8)) v fun xs=>K (.d .s (aU xs)) [] []
 |.cvB x=>w1 s x fun v=>match v with
  |.d .s t=>K (.d (.sl (.i .u8)) (aD t)) [] []
  |_=>none
 |.iaddrA m k x i=>w1 s x fun v=>w1 s i fun vi=>match rL s v with
  |true=>match vi with
   |.d (.i _) j=>bAs s m k j (fun a=>K a [] []) v
   |_=>none
  |false=>none
 |.idxA m k ag x i=>w1 s x fun v=>w1 s i fun vi=>match vi with
  |.d (.i _) j=>bCg m k ag j (fun a=>K a [] []) (unA v)
  |_=>none
 |.slsA m x lo hi=>w1 s x fun v=>bD3 s m lo hi (fun a=>K a [] []) v
 |.newR zs=>match ty with
  |some t=>aZ9 zs (fun v b=>K v [b] []) s.own.length t
  |none=>none
 |.boxR x=>w1 s x fun v=>aZz ty (fun v b=>K v [b] []) s.own.length v
 |.eqa neg k m x y=>w1 s x fun a=>w1 s y fun c=>bC2 k m (fun q=>K (.d (.b) (match neg with
  |true=>!q
  |false=>q)) [] []) (unA a) (unA c)
 |.isnil neg x=>w1 s x fun v=>match rL s v with
  |true=>match aSt false v with
   |some m=>if? (decide (0<m)) (K (.d .b neg) [] []) (K .ab [] [])
   |none=>none
  |false=>none
 |.nilc x=>w1 s x fun v=>match rL s v with
  |true=>aO9 (fun a=>K a [] []) v
  |false=>none
 |.isp neg x=>w1 s x fun v=>match rL s v with
  |true=>bBo neg (fun a=>K a [] []) v
  |false=>none
 |.eqg neg sh x y=>w1 s x fun a=>w1 s y fun c=>match a,c with
  |.agg xs,.agg ys=>match aL6 sh xs ys with
   |some q=>K (.d .b (match neg with
    |true=>!q
    |false=>q)) [] []
   |none=>none
  |_,_=>none
 |.newB T=>K (.mref (.O s.own.length)) [.sb T false []] []
 |.mkm kd=>none
 |.mkmW kd=>none
 |.mget kd z _ ok x y=>none
 |.mlen x=>none
 |.ent x=>none
 |.loadD ag x=>w1 s x fun v=>match v with
  |.rop t x off=>bDd ag off (fun a=>K a [] []) t x
  |_=>none
 |.sllD k x lo hi mx=>w1 s x fun v=>match v with
  |.d (.sl t) xs=>aD6 s k lo hi mx (fun a=>K a [] []) (.d (.sl t) xs)
  |.fl t xs=>aD6 s k lo hi mx (fun a=>K a [] []) (.fl t xs)
  |_=>none
 |.iaddrD k x i=>w1 s x fun v=>w1 s i fun vi=>match vi,v with
  |.d (.i _) j,.d (.sl t) xs=>aE4 k j (fun a=>K a [] []) (.d (.sl t) xs)
  |.d (.i _) j,.fl t xs=>aE4 k j (fun a=>K a [] []) (.fl t xs)
  |_,_=>none
 |.mks k bytes zs x y=>w1 s x fun vx=>w1 s y fun vy=>match elT ty with
  |some t=>bAt t k bytes zs (fun v b=>K v [b] []) s.own.length vx vy
  |none=>none
 |.arrP m x=>w1 s x fun v=>match v with
  |.asl h off len=>match s.lk h with
   |some (.arr _ _ _ _)=>gd? (m<=len) (gd? (0<len) (K (.apt h off) [] []))
   |_=>none
  |.rsl h off l len=>match s.lk h with
   |some (.rb _ _ _)=>gd? (m<=len) (gd? (0<len) (K (.rpt h (off+l)) [] []))
   |_=>none
  |_=>none
 |.capK x=>w1 s x fun v=>match v with
  |.fl _ xs=>K (.d (.i .i64) (xs.length:Int)) [] []
  |.fln _=>K (.d (.i .i64) 0) [] []
  |_=>none
 |.appZ k bytes zs x y=>w1 s x fun vx=>w1 s y fun vy=>match vx,vy,elT ty with
  |.fln _,.d (.i _) j,some t=>match χ t.n k,zeq (zs.map .D) ((t.ds t.z).map .D)with
   |true,true=>gd? (0<j) (gd? ((0+j.toNat)*bytes<=140737488355328) (K (.slw (.O s.own.length) t j.toNat) [.row true t (br j.toNat t.z)] []))
   |_,_=>none
  |_,_,_=>none
 |.mkI t x=>w1 s x fun v=>match v with
  |.agg []=>K (.c (.iface t (.agg #[]))) [] []
  |_=>none
 |.isn neg x=>w1 s x fun v=>match v with
  |.c .nilIface=>K (.d .b (!neg)) [] []
  |.c (.iface _ _)=>K (.d .b neg) [] []
  |_=>none
 |.tas t x=>w1 s x fun v=>match v with
  |.c (.iface t' (.agg a))=>match χ t' t,a.isEmpty with
   |true,true=>K (.tup [.agg [],.d .b true]) [] []
   |_,_=>none
  |_=>none
 |_=>none
theorem aQr{lk:aY}{KP:AV->Prop}(h:lQ lk ag KP (.rop ds)):lQ (fun _=>none) ag KP (.rop ds):=h
theorem bEy[YL]{T:List Sig}(hT:gQ P T){op:ROp}{K:XV->List XB->List Hd->Option R}{r:R}(h:xp T s ty op K=some r){KP:AV->List Blk->List Hd->Prop}
  (hK:∀v nbs fz,K v nbs fz=some r->KP v.er (nbs.map XB.er) fz):aQ P s.er.lk s.er.nx s.er.ev op KP:=by
 unfold xp at h;split at h
 ·obtain⟨h,e⟩:=aN h;show KP (s.er.ev _) [] [];rw[e];exact hK _ _ _ h
 ·obtain⟨h,e1⟩:=aN h;obtain⟨h,e2⟩:=aN h;obtain⟨h,e3⟩:=aN h;split at h
  ·rename_i x hx;refine⟨x,by rw[e1,hx];rfl,?_⟩;rw[e2,e3];exact aSh (KP:=fun a=>KP a [] []) h fun v h=>hK _ _ _ h
  ·cases h
 ·split at h
  ·rename_i l hl;have:=hK _ _ _ h;show KP (.ptr (.O s.own.length) 0) [.box _] [];rw[<-aLq hl];exact this
  ·cases h
 ·split at h
  ·rename_i l hl;have e:=bCk hl;exact aGq (KP:=fun a=>KP a [] []) (fun l h=>aXr (KP:=fun a=>KP a [] []) h fun v h=>hK v [] [] h) (acc:=[]) e (by rw[e]) h
  ·cases h
 ·rename_i k ps;split at h
  ·exact hK _ _ _ h
  ·rename_i ps' hne;split at h
   ·rename_i t _;split at h
    ·rename_i hb;have hk:=η hb;obtain⟨vs,h,e⟩:=aB3 h;obtain⟨xs,h,h1,h2⟩:=aNm hk e h;show if ps=[]then _ else _
     rw[if_neg hne];refine⟨_,h1,?_⟩;rw[h2,oA];have:=hK _ _ _ h;have e2:([XB.row true t xs].map XB.er)=[Blk.row true k (xs.map t.ds)]:=by show[Blk.row true t.n (xs.map t.ds)]=_;rw[hk]
     have e3:(XV.slw (.O s.own.length) t ps.length).er=.sl (.O s.own.length) k 0 ps.length:=by show AV.sl (.O s.own.length) t.n 0 ps.length=_;rw[hk]
     rw[e2,e3]at this;exact this
    ·cases h
   ·cases h
 ·rename_i k ps;split at h
  ·exact .inl ⟨rfl,hK _ _ _ h⟩
  ·rename_i ps' hne;split at h
   ·rename_i t _;split at h
    ·rename_i hb;have hk:=η hb;obtain⟨vs,h,e⟩:=aB3 h;have e':ps.map (XS.er ⟨s.env,[],[]⟩).ev=XV.erL vs:=by rw[<-e];apply List.map_congr_left;intro x _;cases x<;>rfl
     obtain⟨xs,h,h1,_⟩:=aNm hk e' h;refine .inr ⟨hne,xs.map t.ds,?_,hK _ _ _ h⟩;have e1:(XS.er ⟨s.env,[],[]⟩).lk=fun _=>none:=by funext x;cases x<;>rfl
     have e2:(XS.er ⟨s.env,[],[]⟩).ev=s.er.ev:=by funext x;cases x<;>rfl
     rw[e1,e2]at h1;exact h1
    ·cases h
   ·cases h
 ·obtain⟨h,e1⟩:=aN h;split at h
  ·rename_i cs hcs;exact⟨_,by rw[e1];exact kW hcs,hK _ _ _ h⟩
  ·cases h
 ·obtain⟨h,e1⟩:=aN h;show lQ s.er.lk _ (fun a=>KP a [] []) (s.er.ev _);rw[e1];exact aFm h fun v h=>hK _ _ _ h
 ·obtain⟨h,e1⟩:=aN h;obtain⟨h,e2⟩:=aN h;show aQf _ (fun a=>KP a [] []) (s.er.ev _) (s.er.ev _);rw[e1,e2];exact aYv h fun v h=>hK _ _ _ h
 ·obtain⟨h,e1⟩:=aN h;obtain⟨h,e2⟩:=aN h;split at h
  ·rename_i xs ys hx hy;split at h
   ·rename_i q hq;refine⟨XV.fcL xs,XV.fcL ys,q,by rw[e1,hx];rfl,by rw[e2,hy];rfl,aKq hq,?_⟩;have:=hK _ _ _ h;split at this<;>exact this
   ·cases h
  ·cases h
 ·obtain⟨h,e1⟩:=aN h;obtain⟨h,e2⟩:=aN h;split at h
  ·rename_i p q hx hy;refine⟨p,q,by rw[e1,hx];rfl,by rw[e2,hy];rfl,?_⟩;have:=hK _ _ _ h;split at this<;>exact this
  ·cases h
 ·obtain⟨h,e1⟩:=aN h;show aun _ (fun a=>KP a [] []) (s.er.ev _);rw[e1];exact bBf h fun v h=>hK _ _ _ h
 ·obtain⟨h,e1⟩:=aN h;split at h
  ·rename_i hl;show AV.live s.er.lk (s.er.ev _)=true/\_;rw[e1];exact⟨gN hl,aG3 h (KP:=fun a=>KP a [] []) fun v h=>hK _ _ _ h⟩
  ·cases h
 ·obtain⟨h,e1⟩:=aN h;split at h
  ·rename_i cs hx;refine⟨XV.fcL cs,by rw[e1,hx];rfl,?_⟩;obtain⟨v,h1,h2⟩:=vL h;split
   ·exact⟨_,h2,hK _ _ _ h1⟩
   ·exact⟨h2.1,by rw[<-h2.2];exact hK _ _ _ h1⟩
  ·cases h
 ·obtain⟨h,e1⟩:=aN h;obtain⟨h,e2⟩:=aN h;split at h
  ·rename_i hl;split at h
   ·rename_i k j hj;obtain⟨h1,h2⟩:=aAr h (KP:=fun a=>KP a [] []) fun v h=>hK _ _ _ h;show AV.live s.er.lk (s.er.ev _)=true/\_;rw[e1];exact⟨gN hl,k,j,by rw[e2,hj];rfl,h1,h2⟩
   ·cases h
  ·cases h
 ·obtain⟨h,e1⟩:=aN h;obtain⟨h,e2⟩:=aN h;split at h
  ·rename_i t k j hx hj;obtain⟨c,h0,hc,h⟩:=aJu h;exact⟨t,k,j,c,by rw[e1,hx];rfl,by rw[e2,hj];rfl,h0,hc,hK _ _ _ h⟩
  ·cases h
 ·obtain⟨h,e1⟩:=aN h;split at h
  ·rename_i t hx;refine⟨t,by rw[e1,hx];rfl,cQ h fun hh h=>cQ h fun l h=>?_⟩;obtain⟨h1,h⟩:=aS h;obtain⟨h2,h⟩:=aS h;exact⟨h1,h2,hK _ _ _ h⟩
  ·cases h
 ·obtain⟨h,e1⟩:=aN h;split at h
  ·rename_i hl;show AV.live s.er.lk (s.er.ev _)=true/\nV _ s.er.ev _ _ _ (fun a=>KP a [] []) (s.er.ev _);rw[e1];exact⟨gN hl,aA6 h fun v h=>hK _ _ _ h⟩
  ·cases h
 ·obtain⟨h,e1⟩:=aN h;split at h
  ·rename_i vs hx;split at h
   ·rename_i a ha;exact⟨XV.erL vs,_,by rw[e1,hx];rfl,aUj ha,hK _ _ _ h⟩
   ·cases h
  ·cases h
 ·obtain⟨h,e1⟩:=aN h;obtain⟨vs,h,e2⟩:=aB3 h;obtain⟨fn,caps,ks,z,rr,nbs,f1,fz,f2,f3⟩:=aUx hT h hK;exact⟨fn,caps,ks,z,rr,nbs,by rw[e1];exact f1,fz,by rw[e2];exact f2,by rw[e2];exact f3⟩
 ·obtain⟨h,e1⟩:=aN h;split at h
  ·rename_i hl;split at h
   ·rename_i m hm;show AV.live s.er.lk (s.er.ev _)=true/\∃m,(s.er.ev _).len? _=some m/\_;rw[e1];exact⟨gN hl,m,aI5 hm,hK _ _ _ h⟩
   ·cases h
  ·cases h
 ·obtain⟨h,e1⟩:=aN h;obtain⟨h,e2⟩:=aN h;split at h
  ·rename_i k p k' q hx hy;rw[δ]at h;obtain⟨rfl,h⟩:=h;refine⟨k,p,q,by rw[e1,hx];rfl,by rw[e2,hy];rfl,?_⟩;have:=hK _ _ _ h;split at this<;>exact this
  ·cases h
 ·obtain⟨vs,h,e⟩:=aB3 h;show KP (.clo _ (_:List AV)) [] [];rw[e];exact hK _ _ _ h
 ·obtain⟨h,e1⟩:=aN h;split at h
  ·rename_i k j hx;exact⟨k,j,by rw[e1,hx];rfl,hK _ _ _ h⟩
  ·cases h
 ·obtain⟨h,e1⟩:=aN h;obtain⟨xs,h,h1,h2⟩:=aBz h;refine⟨_,aU xs,by rw[e1];exact h1,?_,by rw[e1];exact h2,hK _ _ _ h⟩;exact aBg
 ·obtain⟨h,e1⟩:=aN h;split at h
  ·rename_i t hx;refine⟨t,by rw[e1,hx];rfl,?_⟩;have:=hK _ _ _ h;simp only[XV.er,gI,aD,fk]at this;exact this
  ·cases h
 ·obtain⟨h,e1⟩:=aN h;obtain⟨h,e2⟩:=aN h;split at h
  ·rename_i hl;split at h
   ·rename_i k j hj;obtain⟨h1,h2,h3⟩:=aXs h (KP:=fun a=>KP a [] []) fun v h=>hK _ _ _ h;show AV.live s.er.lk (s.er.ev _)=true/\_;rw[e1];exact⟨gN hl,k,j,by rw[e2,hj];rfl,h1,h2,h3⟩
   ·cases h
  ·cases h
 ·obtain⟨h,e1⟩:=aN h;obtain⟨h,e2⟩:=aN h;split at h
  ·rename_i k j hj;obtain⟨cs,h1,h2,h3,h4⟩:=aXp h (KP:=fun a=>KP a [] []) fun v h=>hK _ _ _ h;exact⟨cs,k,j,by rw[e1,<-aId,h1],by rw[e2,hj];rfl,h2,h3,h4⟩
  ·cases h
 ·obtain⟨h,e1⟩:=aN h;unfold bD3 at h;split at h
  ·rename_i hd ix hx;split at h
   ·rename_i mt n kk y hl;split at h
    ·rename_i hb;have hb:=e8 hb;refine⟨hd,ix,mt,y.l.map (arD kk),by rw[e1,hx];rfl,by rw[aP,hl];rfl,by rw[ι,y.len];exact hb,?_⟩;refine cQ h fun hh h=>cQ h fun l h=>?_;obtain⟨h1,h⟩:=aS h;obtain⟨h2,h⟩:=aS h;have:=hK _ _ _ h;rw[pS,dk]at this;exact⟨h1,h2,this⟩
    ·cases h
   ·cases h
  ·rename_i hd off hx;split at h
   ·rename_i mt t x hl;split at h
    ·rename_i a ha;split at h
     ·rename_i hb;have hb:=η hb;subst hb;obtain⟨c1,_⟩:=aCo (l:=0) (len:=a.n) ha (by omega);refine⟨hd,off,mt,sgD (t.ds x),by rw[e1,hx];rfl,by rw[aP,hl];rfl,c1,?_⟩;refine cQ h fun hh h=>cQ h fun l h=>?_;obtain⟨h1,h⟩:=aS h;obtain⟨h2,h⟩:=aS h;exact⟨h1,h2,hK _ _ _ h⟩
     ·cases h
    ·cases h
   ·cases h
  ·cases h
 ·split at h
  ·rename_i t;unfold aZ9 at h;split at h
   ·rename_i n k;split at h
    ·rename_i hz;refine⟨br n (DV.I k 0),by rw[aZv hz];exact yQ _,?_⟩;have:=hK _ _ _ h;have e:(br n (DV.I k 0)).map (fun d=>[d])=(Arr.zero n).l.map (arD k):=by show _=(br n (0:Int)).map (arD k);rw[f9,f9];rfl
     rw[e];exact this
    ·cases h
   ·split at h
    ·rename_i hz;exact⟨_,by rw[aEa hz];exact yQ _,hK _ _ _ h⟩
    ·cases h
  ·cases h
 ·obtain⟨h,e1⟩:=aN h;unfold aZz at h;split at h
  ·rename_i n k y hx;refine⟨(y.l.map (DV.I k)).map .D,y.l.map (DV.I k),?_,yQ _,?_⟩
   ·rw[e1,hx];show(if AV.allOne (((Ty.ar n k).ds y).map AV.D)=true then some (((Ty.ar n k).ds y).map AV.D)else none)=some (((Ty.ar n k).ds y).map AV.D);rw[if_pos (pN _ _)]
   have:=hK _ _ _ h;have e:(y.l.map (DV.I k)).map (fun d=>[d])=y.l.map (arD k):=by rw[fk];rfl
   rw[e];exact this
  ·rename_i cs hx;split at h
   ·rename_i t _;split at h
    ·rename_i x hp;obtain⟨l1,e2,e3⟩:=pK hp;rw[bj]at e2;subst e2;refine⟨(t.ds x).map .D,t.ds x,?_,yQ _,hK _ _ _ h⟩;rw[e1,hx];show(if AV.allOne (XV.fcL cs)=true then some (XV.fcL cs)else none)=_;rw[e3,if_pos (pN _ _)]
    ·cases h
   ·cases h
  ·cases h
 ·obtain⟨h,e1⟩:=aN h;obtain⟨h,e2⟩:=aN h;obtain⟨xs,ys,p,q,h1,h2,h3,h4,h5,h6,h⟩:=aYk h;refine⟨xs,ys,p,q,by rw[e1,<-aId,h1],by rw[e2,<-aId,h2],h3,h4,h5,h6,?_⟩;have:=hK _ _ _ h;split at this<;>exact this
 ·obtain⟨h,e1⟩:=aN h;split at h
  ·rename_i hl;split at h
   ·rename_i m hm;show AV.live s.er.lk (s.er.ev _)=true/\∃m,(s.er.ev _).len? false=some m/\_;rw[e1];refine⟨gN hl,m,aI5 hm,?_⟩;rcases aHx h with⟨h0,h⟩|⟨h0,h⟩
    ·rw[if_neg (by have:=of_decide_eq_true h0;omega)];exact hK _ _ _ h
    ·rw[if_pos (by have:=of_decide_eq_false h0;omega)];exact hK _ _ _ h
   ·cases h
  ·cases h
 ·obtain⟨h,e1⟩:=aN h;split at h
  ·rename_i hl;show AV.live s.er.lk (s.er.ev _)=true/\_;rw[e1];exact⟨gN hl,aKi h (KP:=fun a=>KP a [] []) fun v h=>hK _ _ _ h⟩
  ·cases h
 ·obtain⟨h,e1⟩:=aN h;split at h
  ·rename_i hl;show AV.live s.er.lk (s.er.ev _)=true/\_;rw[e1];exact⟨gN hl,aXl h (KP:=fun a=>KP a [] []) fun v h=>hK _ _ _ h⟩
  ·cases h
 ·obtain⟨h,e1⟩:=aN h;obtain⟨h,e2⟩:=aN h;split at h
  ·rename_i xs ys hx hy;split at h
   ·rename_i q hq;refine⟨XV.fcL xs,XV.fcL ys,q,by rw[e1,hx];rfl,by rw[e2,hy];rfl,aIw hq,?_⟩;have:=hK _ _ _ h;split at this<;>exact this
   ·cases h
  ·cases h
 ·exact hK _ _ _ h
 ·cases h
 ·cases h
 ·cases h
 ·cases h
 ·cases h
 ·obtain⟨h,e1⟩:=aN h;split at h
  ·rename_i t x off hx;show lQ (fun _=>none) _ (fun a=>KP a [] []) (s.er.ev _);rw[e1,hx];exact aQr (aFm (s:=s) (a:=.rop t x off) h (KP:=fun a=>KP a [] []) fun v h=>hK _ _ _ h)
  ·cases h
 ·obtain⟨h,e1⟩:=aN h;show(match s.er.ev _ with
   |.D (.L es)=>nV _ s.er.ev _ _ _ (fun a=>KP a [] []) (.D (.L es))
   |.fl es=>nV _ s.er.ev _ _ _ (fun a=>KP a [] []) (.fl es)
   |_=>False)
  rw[e1];split at h
  ·rename_i t xs hx;rw[hx];exact aA6 (v:=.d (.sl t) xs) h fun v h=>hK _ _ _ h
  ·rename_i t xs hx;rw[hx];exact aA6 (v:=.fl t xs) h fun v h=>hK _ _ _ h
  ·cases h
 ·obtain⟨h,e1⟩:=aN h;obtain⟨h,e2⟩:=aN h;split at h
  ·rename_i k j t xs hj hx;obtain⟨h1,h2⟩:=aAr h (KP:=fun a=>KP a [] []) fun v h=>hK _ _ _ h;exact⟨k,j,by rw[e2,hj];rfl,h1,by rw[e1,hx];exact h2⟩
  ·rename_i k j t xs hj hx;obtain⟨h1,h2⟩:=aAr h (KP:=fun a=>KP a [] []) fun v h=>hK _ _ _ h;exact⟨k,j,by rw[e2,hj];rfl,h1,by rw[e1,hx];exact h2⟩
  ·cases h
 ·obtain⟨h,e1⟩:=aN h;obtain⟨h,e2⟩:=aN h;split at h
  ·rename_i t _;obtain⟨k1,k2,l,c,v,b,h1,h2,h3,h4,h5,h6,h7,h8,h9⟩:=aXd h;refine⟨k1,k2,l,c,by rw[e1,h1],by rw[e2,h2],h3,h4,h5,h6,?_⟩;have:=hK _ _ _ h7;rw[h8]at this;rw[<-h9];exact this
  ·cases h
 ·obtain⟨h,e1⟩:=aN h;split at h
  ·rename_i hd off len hv;split at h
   ·rename_i mt n k x hl;obtain⟨h1,h⟩:=aS h;obtain⟨h2,h⟩:=aS h;exact⟨hd,off,len,mt,x.l.map (arD k),by rw[e1,hv];rfl,by rw[aP,hl];rfl,h1,h2,hK _ _ _ h⟩
   ·cases h
  ·rename_i hd off l len hv;split at h
   ·rename_i mt t x hl;obtain⟨h1,h⟩:=aS h;obtain⟨h2,h⟩:=aS h;exact⟨hd,off+l,len,mt,sgD (t.ds x),by rw[e1,hv];rfl,by rw[aP,hl];rfl,h1,h2,hK _ _ _ h⟩
   ·cases h
  ·cases h
 ·obtain⟨h,e1⟩:=aN h;split at h
  ·rename_i t xs hv;refine⟨by rw[e1,hv];rfl,xs.length,.inr ⟨xs.map t.ds,by rw[e1,hv];rfl,(ι _).symm⟩,hK _ _ _ h⟩
  ·rename_i t hv;refine⟨by rw[e1,hv];rfl,0,.inr ⟨[],by rw[e1,hv];rfl,rfl⟩,hK _ _ _ h⟩
  ·cases h
 ·obtain⟨h,e1⟩:=aN h;obtain⟨h,e2⟩:=aN h;split at h
  ·rename_i t0 kd j t hv hw ht;split at h
   ·rename_i hb hz;have hb:=η hb;obtain⟨h1,h⟩:=aS h;obtain⟨h2,h⟩:=aS h;have h1:(0:Int)<j:=h1;have hz:=jQ (aEa hz);have hq:=hK _ _ _ h;subst hb hz;have h1':(0:Int)<=j:=Int.le_of_lt h1;have h1'':0<0+Int.toNat j:=by omega
    refine⟨by rw[e1,hv];rfl,0,0,kd,j,[],.inr ⟨by rw[e1,hv];rfl,rfl,rfl,rfl⟩,by rw[e2,hw];rfl,h1',π _,fun e he=>(by simp at he),h1'',h2,?_⟩;have e3:(XV.slw (.O s.own.length) t (Int.toNat j)).er=.sl (.O s.own.length) t.n 0 (0+Int.toNat j):=by show AV.sl _ t.n 0 _=_;rw[bq]
    have e4:([XB.row true t (br (Int.toNat j) t.z)].map XB.er:List Blk)=[.row true t.n (([]:List (List DV)).take 0++br (Int.toNat j) (t.ds t.z))]:=by show[Blk.row true t.n ((br _ t.z).map t.ds)]=_;rw[f9];rfl
    rw[e3,e4]at hq;exact hq
   ·cases h
  ·cases h
 ·obtain⟨h,e1⟩:=aN h;split at h
  ·rename_i hv;exact⟨by rw[e1,hv];rfl,hK _ _ _ h⟩
  ·cases h
 ·obtain⟨h,e1⟩:=aN h;split at h
  ·rename_i hv;exact⟨_,by rw[e1,hv];rfl,hK _ _ _ h⟩
  ·rename_i hv;exact⟨_,by rw[e1,hv];rfl,hK _ _ _ h⟩
  ·cases h
 ·obtain⟨h,e1⟩:=aN h;split at h
  ·rename_i t' a hv;split at h
   ·rename_i ht ha;refine⟨?_,hK _ _ _ h⟩;rw[e1,hv,η ht,Array.isEmpty_iff.1 ha];rfl
   ·cases h
  ·cases h
 ·cases h
end
section
variable{R:Type}
def aWv(s:XS)(sz:Nat)(v:XV)(K:XS->Option R)(h:Hd)(off:Nat):Option R:=match s.lk h with
 |some (.box cs)=>match pE v with
  |some ys=>match χ (szL ys) sz with
   |true=>match aIn cs off ys sz with
    |some cs'=>K (s.setBlk h (some (.box cs')))
    |none=>none
   |false=>none
  |none=>none
 |_=>none
def aS0(k:IntKind):XV->Option Int
 |.d t c=>t.cst (.i k) c
 |_=>none
theorem aIj[YL]{k:IntKind}{c:Int}(h:aS0 k v=some c):v.er=.D (.I k c):=by
 unfold aS0 at h;split at h
 ·obtain⟨e,rfl⟩:=Ty.cst_ok h;subst e;rfl
 ·cases h
theorem aIl{l:List α}{i:Nat}{v:α}(h:i<l.length):l.take i++[v]++l.drop (i+1)=l.set i v:=by rw[List.set_eq_take_append_cons_drop,if_pos h,a9];rfl
theorem aU4{l:List α}{j:Nat}{v:α}(h:off+n<=l.length)(hj:j<n):l.take off++((l.drop off).take n).set j v++l.drop (off+n)=l.set (off+j) v:=by
 apply List.ext_getElem?;intro i;rw[List.getElem?_set];have hl:(((l.drop off).take n).set j v).length=n:=by rw[List.length_set,bz,υ];omega
 have ht:(l.take off).length=off:=by rw[bz];omega
 rcases dv i off with h1|h1
 ·rw[a9,b6 (by omega),dq h1,if_neg (by omega)]
 ·rcases dv i (off+n)with h2|h2
  ·rw[b6 (by rw[κ];omega),cg (by omega),ht,List.getElem?_set];by_cases e:off+j=i
   ·subst e;rw[if_pos (by omega),if_pos rfl,if_pos (by rw[bz,υ];omega),if_pos (by omega)]
   ·rw[if_neg (by omega),if_neg e,dq (by omega),en];congr 1;omega
  ·rw[cg (by rw[κ];omega),κ,ht,hl,en,if_neg (by omega)];congr 1;omega
def aPs(cs:List XV)(off j:Nat)(a:ArL)(c:Int):Option (List XV):=aIn cs off [.d (.ar a.n a.k) (a.x.set j c)] a.n
theorem aDt[YL]{j:Nat}{a:ArL}{c:Int}(ha:xJ cs off=some a)(hj:j<a.n)(h:aPs cs off j a c=some l):off+j<(XV.fcL cs).length/\XV.fcL l=(XV.fcL cs).set (off+j) (.D (.I a.k c)):=by
 obtain⟨h1,h2⟩:=yV ha;obtain⟨_,h3⟩:=qP h;refine⟨by omega,?_⟩;rw[h3];have e:XV.fcL [XV.d (.ar a.n a.k) (a.x.set j c)]=(((XV.fcL cs).drop off).take a.n).set j (.D (.I a.k c)):=by rw[h1];show(((a.x.set j c).l.map (DV.I a.k)).map AV.D)++[]=_;rw[bj,Arr.l_set,gt,gt]
 rw[e];exact aU4 h2 hj
def aN3(s:XS)(sz:Nat)(v:XV)(K:XS->Option R):XV->Option R
 |.ptr h off=>aWv s sz v K h off
 |.pa h off j=>match s.lk h with
  |some (.box cs)=>match xJ cs off,sz with
   |some a,1=>match aS0 a.k v with
    |some c=>gd? (j<a.n) (match aPs cs off j a c with
     |some cs'=>K (s.setBlk h (some (.box cs')))
     |none=>none)
    |none=>none
   |none,sz=>aWv s sz v K h (off+j)
   |_,_=>none
  |_=>none
 |.epa h t ix off j=>match s.lk h with
  |some (.row true t' xs)=>match t'.beq t,sz with
   |true,1=>gn? xs ix fun e=>match xJ (lvs t' e) off with
    |some a=>match aS0 a.k v with
     |some c=>gd? (j<a.n) (match aPs (lvs t' e) off j a c with
      |some l=>match pkD t' l with
       |some (y,[])=>K (s.setBlk h (some (.row true t' (xs.set ix y))))
       |_=>none
      |none=>none)
     |none=>none
    |none=>none
   |_,_=>none
  |_=>none
 |.ept h t ix off=>match s.lk h with
  |some (.row true t' xs)=>match t'.beq t,pE v with
   |true,some ys=>match χ (szL ys) sz,(χ sz 1|| !(χ t'.n 1))with
    |true,true=>gn? xs ix fun e=>match aIn (lvs t' e) off ys sz with
     |some l=>match pkD t' l with
      |some (y,[])=>K (s.setBlk h (some (.row true t' (xs.set ix y))))
      |_=>none
     |none=>none
    |_,_=>none
   |_,_=>none
  |_=>none
 |.apt h ix=>match s.lk h with
  |some (.arr true n k x)=>match sz with
   |1=>match v with
    |.d t c=>match t.cst (.i k) c with
     |some c=>gd? (ix<n) (K (s.setBlk h (some (.arr true n k (x.set ix c)))))
     |none=>none
    |_=>none
   |sz=>match ix,v with
    |0,.d t y=>match t.cst (.ar n k) y,χ sz n with
     |some y,true=>K (s.setBlk h (some (.arr true n k y)))
     |_,_=>none
    |0,.agg [.d t y]=>match t.cst (.ar n k) y,χ sz n with
     |some y,true=>K (s.setBlk h (some (.arr true n k y)))
     |_,_=>none
    |ix,v=>match unA v with
     |.d t y=>match t.cst (.ar sz k) y with
      |some y=>gd? (ix+sz<=n) (K (s.setBlk h (some (.arr true n k (x.put ix y.l)))))
      |none=>none
     |_=>none
  |_=>none
 |.rpt h off=>match s.lk h with
  |some (.rb true t x)=>match pE v with
   |some ys=>match χ (szL ys) sz&&j2 1 sz with
    |true=>match aIn (lvs t x) off ys sz with
     |some l=>match pkD t l with
      |some (y,[])=>K (s.setBlk h (some (.rb true t y)))
      |_=>none
     |none=>none
    |false=>none
   |none=>none
  |_=>none
 |.rpa h off j=>match s.lk h with
  |some (.rb true t x)=>match xJ (lvs t x) off,sz with
   |some a,1=>match aS0 a.k v with
    |some c=>gd? (j<a.n) (match aPs (lvs t x) off j a c with
     |some l=>match pkD t l with
      |some (y,[])=>K (s.setBlk h (some (.rb true t y)))
      |_=>none
     |none=>none)
    |none=>none
   |_,_=>none
  |_=>none
 |_=>none
theorem bE0[YL]{x y:t.T}{vs:List DV}{a:AV}(hl:s.lk hd=some (.rb true t x))(hc:a.cells?=some (vs.map .D))(hn:vs.length=sz)(hle:off+sz<=(t.ds x).length)
  (hlt:off<(t.ds x).length) (hds:t.ds y=(t.ds x).take off++vs++(t.ds x).drop (off+sz)) (hK:KP (s.setBlk hd (some (.rb true t y))).er):mF s.er sz a KP (.eptr hd 1 off 0):=by
 rw[bX hl]at hK;have hK:KP (s.er.setBlk hd (some (.row true 1 (sgD (t.ds y))))):=hK;rw[hds]at hK;by_cases h1:sz=1
 ·subst h1;obtain⟨d,rfl⟩:=List.length_eq_one_iff.1 hn;refine .inl ⟨.inr rfl,sgD (t.ds x),[(t.ds x)[off]],_,[d],by rw[aP,hl];rfl,aCn (ν hlt),hc,rfl,rfl,π _,?_⟩;have e:(sgD (t.ds x)).set off ([(t.ds x)[off]].take 0++[d]++[(t.ds x)[off]].drop (0+1))=sgD ((t.ds x).take off++[d]++(t.ds x).drop (off+1)):=by rw[aIl hlt];unfold sgD;rw[gt];rfl
  rw[e];exact hK
 ·refine .inr ⟨rfl,rfl,h1,sgD (t.ds x),_,vs,by rw[aP,hl];rfl,hc,uI _,hn,by rw[vN];exact hle,?_⟩;have e:(sgD (t.ds x)).take off++(vs.map fun d=>[d])++(sgD (t.ds x)).drop (off+sz)=sgD ((t.ds x).take off++vs++(t.ds x).drop (off+sz)):=by unfold sgD;rw[cd,cd,ce,cj]
  rw[e];exact hK
theorem wR{k:IntKind}{y:Arr n}:(AV.agg (((Ty.ar n k).ds y).map .D)).cells?=some (((Ty.ar n k).ds y).map .D):=by show(if AV.allOne (((Ty.ar n k).ds y).map .D)=true then some (((Ty.ar n k).ds y).map AV.D)else none)=_;rw[if_pos (pN _ _)]
theorem aFj[YL]{k:IntKind}{x y:Arr n}(hl:s.lk hd=some (.arr true n k x))(h1:sz≠1)(hb:sz=n)(hc:(s.er.ev xo).cells?=some (((Ty.ar n k).ds y).map .D))
  (hK:KP (s.setBlk hd (some (.arr true n k y))).er):mF s.er sz (s.er.ev xo) KP (.eptr hd 1 0 0):=by
 have e1:=x.len;have e2:=y.len;refine .inr ⟨rfl,rfl,h1,x.l.map (arD k),_,(Ty.ar n k).ds y,by rw[aP,hl];rfl,hc,uI _,by rw[Ty.ds_len];exact hb.symm,by rw[ι];omega,?_⟩;have e:(x.l.map (arD k)).take 0++(((Ty.ar n k).ds y).map fun d=>[d])++(x.l.map (arD k)).drop (0+sz)=y.l.map (arD k):=by rw[List.take_zero,d6,ef (by rw[ι];omega),bj];show((y.l.map (DV.I k)).map fun d=>[d])=_;rw[fk];rfl
 rw[e];rw[bX hl]at hK;exact hK
theorem aOh[YL]{K:XS->Option R}{r:R}(hv:s.er.ev xo=v.er)(h:aWv s sz v K hd off=some r)(hK:∀s',K s'=some r->KP s'.er):mF s.er sz (s.er.ev xo) KP (.ptr hd off):=by
 unfold aWv at h;split at h
 ·rename_i cs hl;split at h
  ·rename_i ys hy;split at h
   ·rename_i hb;split at h
    ·rename_i cs' hu;obtain⟨h1,h2⟩:=qP hu;have:=hK _ h;rw[bX hl]at this;refine⟨XV.fcL cs,XV.fcL ys,by rw[aP,hl];rfl,by rw[hv];exact kW hy,by rw[aA7];exact η hb,h1,?_⟩;rw[<-h2];exact this
    ·cases h
   ·cases h
  ·cases h
 ·cases h
theorem aQ3[YL]{K:XS->Option R}{r:R}(hv:s.er.ev xo=v.er)(h:aN3 s sz v K a=some r)(hK:∀s',K s'=some r->KP s'.er):mF s.er sz (s.er.ev xo) KP a.er:=by
 unfold aN3 at h;split at h
 ·exact aOh hv h hK
 ·rename_i hd off j;split at h
  ·rename_i cs hl;split at h
   ·rename_i a ha;split at h
    ·rename_i c hc;obtain⟨hj,h⟩:=aS h;split at h
     ·rename_i cs' hs;obtain⟨h1,h2⟩:=aDt ha hj hs;have:=hK _ h;rw[bX hl]at this;have e:s.er.ev xo=.D (.I a.k c):=by rw[hv];exact aIj hc
      refine⟨XV.fcL cs,[.D (.I a.k c)],by rw[aP,hl];rfl,by rw[e];rfl,rfl,by omega,?_⟩;rw[aIl h1,<-h2];exact this
     ·cases h
    ·cases h
   ·exact aOh hv h hK
   ·cases h
  ·cases h
 ·rename_i hd t ix off j;split at h
  ·rename_i t' xs hl;split at h
   ·rename_i hb;obtain rfl:=Ty.eq_of hb
    replace h:=aLa h
    obtain⟨e,he,h⟩:=h;split at h
    ·rename_i a ha;split at h
     ·rename_i c hc;obtain⟨hj,h⟩:=aS h;split at h
      ·rename_i l hs;split at h
       ·rename_i y hp;obtain⟨h1,h2⟩:=aDt ha hj hs;obtain⟨l1,e1,e2⟩:=pK hp;rw[bj]at e1;subst e1;rw[cS]at h1 h2;rw[ι]at h1;have hds:t'.ds y=(t'.ds e).set (off+j) (.I a.k c):=by
         have h3:(t'.ds y).map AV.D=((t'.ds e).set (off+j) (.I a.k c)).map AV.D:=by rw[<-e2,h2,gt]
         exact jQ h3
        have ev:s.er.ev xo=.D (.I a.k c):=by rw[hv];exact aIj hc
        refine .inl ⟨.inr rfl,xs.map t'.ds,t'.ds e,[.D (.I a.k c)],[.I a.k c],by rw[aP,hl];rfl,by rw[τ,he];rfl,by rw[ev];rfl,rfl,rfl,by omega,?_⟩;have:=hK _ h;rw[bX hl]at this;rw[aIl h1,<-hds];have e3:(xs.map t'.ds).set ix (t'.ds y)=(xs.set ix y).map t'.ds:=by rw[gt]
        rw[e3];exact this
       ·cases h
      ·cases h
     ·cases h
    ·cases h
   ·cases h
  ·cases h
 ·rename_i hd t ix off;split at h
  ·rename_i t' xs hl;split at h
   ·rename_i ys hb hy;obtain rfl:=Ty.eq_of hb;split at h
    ·rename_i hb1 hb2
     replace h:=aLa h
     obtain⟨e,he,h⟩:=h;split at h
     ·rename_i l hu;split at h
      ·rename_i y hp;obtain⟨h1,h2⟩:=qP hu;obtain⟨l1,e1,e2⟩:=pK hp;rw[bj]at e1;subst e1;rw[cS]at h1 h2;rw[ι]at h1;have hsz:=η hb1;have hlen:(XV.fcL ys).length=sz:=by rw[aA7];exact hsz
       have hys:XV.fcL ys=(((t'.ds y).drop off).take sz).map .D:=by
        have:(((XV.fcL l).drop off).take sz)=XV.fcL ys:=by rw[h2,a9,d8 (by rw[bz,ι];omega),ef (by rw[bz,ι];omega),d6,ey (by omega),bn (by omega)]
        rw[<-this,e2,ce,cj]
       have hds:t'.ds y=(t'.ds e).take off++((t'.ds y).drop off).take sz++(t'.ds e).drop (off+sz):=by
        have h3:(t'.ds y).map AV.D=((t'.ds e).take off++((t'.ds y).drop off).take sz++(t'.ds e).drop (off+sz)).map AV.D:=by rw[cd,cd,<-hys,ce,cj,<-h2,e2]
        have:=congrArg AV.data h3;rwa[uI,uI,Option.some.injEq]at this
       refine .inl ⟨?_,xs.map t'.ds,t'.ds e,XV.fcL ys,((t'.ds y).drop off).take sz,by rw[aP,hl];rfl,by rw[τ,he];rfl,by rw[hv];exact kW hy,by rw[hys];exact uI _,?_,h1,?_⟩
       ·rw[fh]at hb2;rcases hb2 with hb2|hb2
        ·exact .inr (η hb2)
        ·exact .inl fun e=>by rw[e]at hb2;cases hb2
       ·have:=congrArg List.length hys;rw[ι,hlen]at this;exact this.symm
       ·have:=hK _ h;rw[bX hl]at this;rw[<-hds];have e3:(xs.map t'.ds).set ix (t'.ds y)=(xs.set ix y).map t'.ds:=by rw[gt]
        rw[e3];exact this
      ·cases h
     ·cases h
    ·cases h
   ·cases h
  ·cases h
 ·rename_i hd ix;split at h
  ·rename_i n k x hl;split at h
   ·split at h
    ·rename_i t c;split at h
     ·rename_i c' hc;obtain⟨e,rfl⟩:=Ty.cst_ok hc;subst e;obtain⟨h1,h⟩:=aS h;have e1:=x.len;refine .inl ⟨.inr rfl,x.l.map (arD k),arD k (x.l[ix]'(by omega)),[.D (.I k c)],[.I k c],by rw[aP,hl];rfl,by rw[τ,ν (by omega)];rfl,by rw[hv];rfl,rfl,rfl,π _,?_⟩;have:=hK _ h;rw[bX hl]at this;have e3:(x.l.map (arD k)).set ix ((arD k (x.l[ix]'(by omega))).take 0++[.I k c]++(arD k (x.l[ix]'(by omega))).drop (0+1))=(x.set ix c).l.map (arD k):=by rw[Arr.l_set,gt];rfl
      rw[e3];exact this
     ·cases h
    ·cases h
   ·rename_i h1;split at h
    ·rename_i t y;split at h
     ·rename_i y' hy hb;obtain⟨e,rfl⟩:=Ty.cst_ok hy;subst e;exact aFj hl h1 (η hb) (by rw[hv];exact wR) (hK _ h)
     ·cases h
    ·rename_i t y;split at h
     ·rename_i y' hy hb;obtain⟨e,rfl⟩:=Ty.cst_ok hy;subst e;exact aFj hl h1 (η hb) (by
       rw[hv];show(AV.agg (((Ty.ar n k).ds _).map AV.D++[])).cells?=_;rw[bj];exact wR) (hK _ h)
     ·cases h
    ·split at h
     ·rename_i t y hu;split at h
      ·rename_i y' hy;obtain⟨e,rfl⟩:=Ty.cst_ok hy;subst e;obtain⟨h2,h⟩:=aS h;have e1:=x.len;refine .inr ⟨rfl,rfl,h1,x.l.map (arD k),_,(Ty.ar sz k).ds y,by rw[aP,hl];rfl,by rw[hv,<-aId,hu];exact wR,uI _,by rw[Ty.ds_len];rfl,by rw[ι,e1];exact h2,?_⟩;have:=hK _ h;rw[bX hl]at this;have e3:(x.l.map (arD k)).take ix++(((Ty.ar sz k).ds y).map fun d=>[d])++(x.l.map (arD k)).drop (ix+sz)=(x.put ix y.l).l.map (arD k):=by rw[Arr.l_put (by rw[y.len];exact h2),cd,cd,ce,cj,y.len];congr 2;show((y.l.map (DV.I k)).map fun d=>[d])=_;rw[fk];rfl
       rw[e3];exact this
      ·cases h
     ·cases h
  ·cases h
 ·rename_i hd off;split at h
  ·rename_i t x hl;split at h
   ·rename_i ys hy;split at h
    ·rename_i hb;rw[μ]at hb;have hb0:=e8 hb.2;split at h
     ·rename_i l hu;split at h
      ·rename_i y hp;obtain⟨h1,h2⟩:=qP hu;obtain⟨l1,e1,e2⟩:=pK hp;rw[bj]at e1;subst e1;rw[cS]at h1 h2;rw[ι]at h1;have hlen:(XV.fcL ys).length=sz:=by rw[aA7];exact η hb.1
       have hys:XV.fcL ys=(((t.ds y).drop off).take sz).map .D:=by
        have:(((XV.fcL l).drop off).take sz)=XV.fcL ys:=by rw[h2,a9,d8 (by rw[bz,ι];omega),ef (by rw[bz,ι];omega),d6,ey (by omega),bn (by omega)]
        rw[<-this,e2,ce,cj]
       have hds:t.ds y=(t.ds x).take off++((t.ds y).drop off).take sz++(t.ds x).drop (off+sz):=by
        have h3:(t.ds y).map AV.D=((t.ds x).take off++((t.ds y).drop off).take sz++(t.ds x).drop (off+sz)).map AV.D:=by rw[cd,cd,<-hys,ce,cj,<-h2,e2]
        exact jQ h3
       have hn:(((t.ds y).drop off).take sz).length=sz:=by have:=congrArg List.length hys;rw[ι,hlen]at this;exact this.symm
       exact bE0 hl (by rw[hv,<-hys];exact kW hy) hn h1 (by omega) hds (hK _ h)
      ·cases h
     ·cases h
    ·cases h
   ·cases h
  ·cases h
 ·rename_i hd off j;split at h
  ·rename_i t x hl;split at h
   ·rename_i a ha;split at h
    ·rename_i c hc;obtain⟨hj,h⟩:=aS h;split at h
     ·rename_i l hs;split at h
      ·rename_i y hp;obtain⟨h1,h2⟩:=aDt ha hj hs;obtain⟨l1,e1,e2⟩:=pK hp;rw[bj]at e1;subst e1;rw[cS]at h1 h2;rw[ι]at h1;have hds:t.ds y=(t.ds x).set (off+j) (.I a.k c):=by
        have h3:(t.ds y).map AV.D=((t.ds x).set (off+j) (.I a.k c)).map AV.D:=by rw[<-e2,h2,gt]
        exact jQ h3
       have ev:s.er.ev xo=.D (.I a.k c):=by rw[hv];exact aIj hc
       exact bE0 (vs:=[.I a.k c]) hl (by rw[ev];rfl) rfl h1 h1 (by rw[aIl h1];exact hds) (hK _ h)
      ·cases h
     ·cases h
    ·cases h
   ·cases h
  ·cases h
 ·cases h
def bAy:List XV->Bool
 |[]=>true
 |.d _ _::l=>bAy l
 |.nl _::l=>bAy l
 |_::_=>false
def bF5(v a:XV):Bool:=match a with
 |.ept _ _ _ _=>match pE v with
  |some ys=>!(bAy ys)
  |none=>false
 |_=>false
def bEt(s s1:XS)(sz:Nat)(v:XV)(K:XS->Option R)(h:Hd)(t:Ty)(ix off:Nat):Option R:=match s1.lk h with
 |some (.row true t' xs)=>match t'.beq t,pE v with
  |true,some ys=>match χ (szL ys) sz,(χ sz 1|| !(χ t'.n 1))with
   |true,true=>gn? xs ix fun e=>match aIn (lvs t' e) off ys sz with
    |some l=>pkC s t' l fun y rest=>match rest with
     |[]=>K (s1.setBlk h (some (.row true t' (xs.set ix y))))
     |_::_=>none
    |none=>none
   |_,_=>none
  |_,_=>none
 |_=>none
def aIu(s:XS)(sz:Nat)(v:XV)(K:XS->Option R):XV->Option R
 |.ept h t ix off=>bEt s (s.put none .un [] (xfz s v.hr)) sz v K h t ix off
 |_=>none
theorem aMv{lk:aY}{φ:Hd->Option Hd}{a:AV}{cs:List AV}(h:a.cells?=some cs)(hc:AV.convL lk φ cs=ds.map .D)(ho:AV.allOne (ds.map .D)=true):(AV.conv lk φ a).cells?=some (ds.map .D):=by
 have key:∀a:AV,(∀l,a≠.agg l)->a.cells?=some cs->(AV.conv lk φ a).cells?=some (ds.map .D):=fun a hn h=>by
  have h1:cs=[a]:=by
   unfold AV.cells? at h;split at h
   ·exact absurd rfl (hn _)
   ·split at h
    ·cases h;rfl
    ·cases h
  subst h1;have hc:[AV.conv lk φ a]=ds.map .D:=hc;cases ds with
  |nil=>cases hc
  |cons d ds=>
   cases ds with
   |cons _ _=>exact absurd (congrArg List.length hc) (by simp)
   |nil=>
    have hc:AV.conv lk φ a=.D d:=(List.cons.inj hc).1;rw[hc];have ho:(AV.one (.D d)&&true)=true:=ho;rw[ga]at ho;show(if AV.one (.D d)=true then some [AV.D d]else none)=_;rw[if_pos ho];rfl
 cases a with
 |agg l=>
  have h:(if AV.allOne l=true then some l else none)=some cs:=h;split at h
  ·have e:l=cs:=Option.some.inj h;rw[<-e]at hc;show(if AV.allOne (AV.convL lk φ l)=true then some (AV.convL lk φ l)else none)=_;rw[hc,if_pos ho]
  ·cases h
 |_=>exact key _ (fun _=>AV.noConfusion) h
theorem zV(lk:aY)(φ:Hd->Option Hd):∀l:List AV,(AV.convL lk φ l).length=l.length
 |[]=>rfl
 |x::l=>by show(AV.convL lk φ l).length+1=_;rw[zV lk φ l];rfl
theorem aM7[YL]{K:XS->Option R}{r:R}(hv:s.er.ev xo=v.er)(h:aIu s sz v K a=some r)(hK:∀s',K s'=some r->KP s'.er):
  mF (s.er.put none AV.un [] (fzL s.er.lk (AV.rows (s.er.ev xo)))) sz (AV.conv s.er.lk (fun _=>none) (s.er.ev xo)) KP a.er:=by
 unfold aIu at h;split at h
 ·rename_i hd t ix off;have hs1:s.er.put none AV.un [] (fzL s.er.lk (AV.rows (s.er.ev xo)))=(s.put none .un [] (xfz s v.hr)).er:=by rw[cU,hv,aB5,oA];rfl
  rw[hs1,hv];revert h;generalize s.put none .un [] (xfz s v.hr)=s1;intro h;unfold bEt at h;split at h
  ·rename_i t' xs hl;split at h
   ·rename_i ys hb hy;obtain rfl:=Ty.eq_of hb;split at h
    ·rename_i hb1 hb2
     replace h:=aLa h
     obtain⟨e,he,h⟩:=h;split at h
     ·rename_i l hu;obtain⟨y,l1,l2,rfl,h,ec⟩:=aTk (φ:=fun _=>none) (fun _ _ _=>rfl) h;split at h
      ·obtain⟨h1,h2⟩:=qP hu;rw[bj]at h2;rw[cS]at h1 h2;rw[ι]at h1;have hsz:=η hb1;have hlen:(XV.fcL ys).length=sz:=by rw[aA7];exact hsz
       have hC:((t'.ds e).take off).map AV.D++AV.convL s.er.lk (fun _=>none) (XV.fcL ys)++((t'.ds e).drop (off+sz)).map AV.D=(t'.ds y).map .D:=by rw[<-ec,h2,qC,qC,<-ce,<-cj,yI,yI]
       have hcl:(AV.convL s.er.lk (fun _=>none) (XV.fcL ys)).length=sz:=by rw[zV,hlen]
       have hys:AV.convL s.er.lk (fun _=>none) (XV.fcL ys)=(((t'.ds y).drop off).take sz).map .D:=by rw[ce,cj,<-hC,a9,d8 (by rw[ι,bz];omega),ef (by rw[ι,bz];omega),d6,ey (by omega),bn (by omega)]
       have hds:t'.ds y=(t'.ds e).take off++((t'.ds y).drop off).take sz++(t'.ds e).drop (off+sz):=by
        have h3:(t'.ds y).map AV.D=((t'.ds e).take off++((t'.ds y).drop off).take sz++(t'.ds e).drop (off+sz)).map AV.D:=by rw[cd,cd,<-hys,hC]
        have:=congrArg AV.data h3;rwa[uI,uI,Option.some.injEq]at this
       have hone:AV.allOne ((((t'.ds y).drop off).take sz).map .D)=true:=by
        have h4:=pN t' y;have h6:(t'.ds y).map AV.D=((t'.ds e).take off).map AV.D++(((t'.ds y).drop off).take sz).map AV.D++((t'.ds e).drop (off+sz)).map AV.D:=by rw[<-cd,<-cd,<-hds]
        rw[h6,aAd,aAd,μ,μ]at h4;exact h4.1.2
       refine .inl ⟨?_,xs.map t'.ds,t'.ds e,(((t'.ds y).drop off).take sz).map .D,((t'.ds y).drop off).take sz,by rw[aP,hl];rfl,by rw[τ,he];rfl,aMv (kW hy) hys hone,uI _,?_,h1,?_⟩
       ·rw[fh]at hb2;rcases hb2 with hb2|hb2
        ·exact .inr (η hb2)
        ·exact .inl fun e=>by rw[e]at hb2;cases hb2
       ·have:=congrArg List.length hys;rw[ι,hcl]at this;exact this.symm
       ·have:=hK _ h;rw[bX hl]at this;rw[<-hds];have e3:(xs.map t'.ds).set ix (t'.ds y)=(xs.set ix y).map t'.ds:=by rw[gt]
        rw[e3];exact this
      ·cases h
     ·cases h
    ·cases h
   ·cases h
  ·cases h
 ·cases h
end
section
variable{R:Type}
def nX(s:XS)(t:Ty)(v:XV)(K:List t.T->Option R):Option R:=match v with
 |.d .s b=>match(Ty.sl (.i .u8)).cst (.sl t) (aD b)with
  |some y=>K y
  |none=>none
 |v=>lW s (.sl t) v K
theorem jK[YL]{K:List t.T->Option R}{r:R}(h:nX s t v K=some r):∃xs:List t.T,K xs=some r/\AV.content s.er.lk v.er=some (xs.map t.ds):=by
 unfold nX at h;split at h
 ·rename_i b;split at h
  ·rename_i y hy;obtain⟨e,rfl⟩:=Ty.cst_ok hy;cases e;refine⟨_,h,?_⟩;show some (b.map fun c=>[DV.I .u8 c.toNat])=_;simp only[aD,fk];rfl
  ·cases h
 ·obtain⟨xs,h,h1,_⟩:=aBz h;exact⟨xs,h,h1⟩
def bHc(s:XS)(t:Ty)(xs:List t.T)(k bytes:Nat)(y:XV)(K:XV->List XB->List Hd->Option R):Option R:=match χ t.n k with
 |true=>nX s t y fun ys=>match xs,ys with
  |[],ys=>gd? (ys.length*bytes<=140737488355328) (K (.slw (.O s.own.length) t ys.length) [.row true t ys] (xfz s y.hr))
  |xs,y0::yr=>gd? ((xs.length+(y0::yr).length)*bytes<=140737488355328) (K (.slw (.O s.own.length) t (xs++y0::yr).length) [.row true t (xs++y0::yr)] (xfz s y.hr))
  |_,_=>none
 |false=>none
def aH0(s:XS)(ty:Option Ty)(k bytes:Nat)(y:XV)(dst:Option Nat)(K:XS->Option R):XV->Option R
 |.slw h t len=>match s.lk h with
  |some (.row mt t' xs)=>match t'.beq t,χ t'.n k with
   |true,true=>gl? len xs (nX s t' y fun ys=>gd? ((xs.length+ys.length)*bytes<=140737488355328) (K ((s.setBlk h none).put dst (.slw (.O s.own.length) t' (xs++ys).length) [.row mt t' (xs++ys)] [])))
   |_,_=>none
  |_=>none
 |.fln _=>match elT ty,dst with
  |some t,some d=>match χ t.n k with
   |true=>nX s t y fun ys=>gd? (ys.length*bytes<=140737488355328) (K (s.put (some d) (.slw (.O s.own.length) t ys.length) [.row true t ys] (xfz s y.hr)))
   |false=>none
  |_,_=>none
 |.fl t xs=>match χ t.n k,dst with
  |true,some d=>nX s t y fun ys=>match ys with
   |[]=>none
   |y0::yr=>gd? ((xs.length+(y0::yr).length)*bytes<=140737488355328) (K (s.put (some d) (.slw (.O s.own.length) t (xs++y0::yr).length) [.row true t (xs++y0::yr)] (xfz s y.hr)))
  |_,_=>none
 |_=>none
theorem aNx[YL]{K:XS->Option R}{r:R}(hy:s.er.ev yo=y.er)(h:aH0 s ty k bytes y dst K a=some r)(hK:∀s',K s'=some r->KP s'.er):oM s.er k bytes yo dst KP a.er:=by
 unfold aH0 at h;split at h
 ·rename_i hd t len;split at h
  ·rename_i mt t' xs hl;split at h
   ·rename_i hb hb2;obtain rfl:=Ty.eq_of hb;have hk:=η hb2
    replace h:=aSs h
    obtain⟨rfl,h⟩:=h;obtain⟨ys,h,hc⟩:=jK h;obtain⟨hsz,h⟩:=aS h;refine⟨hk,rfl,mt,xs.map t'.ds,ys.map t'.ds,by rw[aP,hl,<-hk];rfl,by rw[ι],by rw[hy];exact hc,hk▸pZ t' xs,hk▸pZ t' ys,aN8 t' ys,by rw[ι];exact hsz,?_⟩;have:=hK _ h;rw[cU,bX hl]at this;have e:(XV.slw (.O s.own.length) t' (xs++ys).length).er=.sl (.O s.own.length) k 0 (xs.length+(ys.map t'.ds).length):=by show AV.sl (.O s.own.length) t'.n 0 (xs++ys).length=_;rw[hk,κ,ι]
    rw[e]at this;have e2:([XB.row mt t' (xs++ys)].map XB.er)=[Blk.row mt k (xs.map t'.ds++ys.map t'.ds)]:=by show[Blk.row mt t'.n ((xs++ys).map t'.ds)]=_;rw[hk,cd]
    rw[e2]at this;exact this
   ·cases h
  ·cases h
 ·split at h
  ·rename_i t d _;split at h
   ·rename_i hb;have hk:=η hb;obtain⟨ys,h,hc⟩:=jK h;obtain⟨hsz,h⟩:=aS h;refine⟨rfl,ys.map t.ds,by rw[hy];exact hc,hk▸pZ t ys,by rw[ι];exact hsz,?_⟩;have:=hK _ h;rw[cU]at this;have e:(XV.slw (.O s.own.length) t ys.length).er=.sl (.O s.own.length) k 0 (ys.map t.ds).length:=by show AV.sl (.O s.own.length) t.n 0 ys.length=_;rw[hk,ι]
    rw[e]at this;have e2:([XB.row true t ys].map XB.er)=[Blk.row true k (ys.map t.ds)]:=by show[Blk.row true t.n (ys.map t.ds)]=_;rw[hk]
    rw[e2]at this;rw[hy,aB5,oA];exact this
   ·cases h
  ·cases h
 ·rename_i t xs;split at h
  ·rename_i d hb;have hk:=η hb;obtain⟨ys,h,hc⟩:=jK h;split at h
   ·cases h
   ·rename_i y0 yr;obtain⟨hsz,h⟩:=aS h;have:=hK _ h;rw[cU]at this;have e2:([XB.row true t (xs++y0::yr)].map XB.er)=[Blk.row true k (xs.map t.ds++(y0::yr).map t.ds)]:=by show[Blk.row true t.n ((xs++y0::yr).map t.ds)]=_;rw[hk,cd]
    have e:(XV.slw (.O s.own.length) t (xs++y0::yr).length).er=.sl (.O s.own.length) k 0 (xs.length+(y0::yr).length):=by show AV.sl (.O s.own.length) t.n 0 (xs++y0::yr).length=_;rw[hk,κ]
    rw[e,e2,show s.own.length=s.er.nx from rfl]at this;cases xs with
    |nil=>
     refine⟨rfl,(y0::yr).map t.ds,by rw[hy];exact hc,hk▸pZ t _,by rw[ι];simpa using hsz,?_⟩;rw[hy,aB5,oA,ι];simpa using this
    |cons x0 xr=>
     refine⟨(y0::yr).map t.ds,by rw[hy];exact hc,hk▸pZ t (x0::xr),hk▸pZ t _,by simpa using hsz,?_⟩;rw[if_neg (by simp),hy,aB5,oA];simpa using this
  ·cases h
 ·cases h
def bCp(s:XS)(ty:Option Ty)(k bytes:Nat)(y:XV)(K:XV->List XB->List Hd->Option R):XV->Option R
 |.fln _=>match elT ty with
  |some t=>match χ t.n k with
   |true=>nX s t y fun ys=>gd? (ys.length*bytes<=140737488355328) (K (.slw (.O s.own.length) t ys.length) [.row true t ys] (xfz s y.hr))
   |false=>none
  |none=>none
 |.fl t xs=>match χ t.n k with
  |true=>nX s t y fun ys=>match ys with
   |[]=>none
   |y0::yr=>gd? ((xs.length+(y0::yr).length)*bytes<=140737488355328) (K (.slw (.O s.own.length) t (xs++y0::yr).length) [.row true t (xs++y0::yr)] (xfz s y.hr))
  |false=>none
 |_=>none
theorem aXu[YL]{K:XV->List XB->List Hd->Option R}{r:R}(hy:s.er.ev yo=y.er)(h:bCp s ty k bytes y K a=some r){KP:AV->List Blk->List Hd->Prop}(hK:∀v nbs fz,K v nbs fz=some r->KP v.er (nbs.map XB.er) fz):
  ∃es,a.er=.fl es/\∃ys,AV.content s.er.lk (s.er.ev yo)=some ys/\Uni k es/\Uni k ys/\(es.length+ys.length)*bytes<=140737488355328/\
   (if ys=[]/\es≠[]then KP (.fl es) [] []else KP (.sl (.O s.er.nx) k 0 (es.length+ys.length)) [.row true k (es++ys)] (fzL s.er.lk (AV.rows (s.er.ev yo)))):=by
 unfold bCp at h;split at h
 ·split at h
  ·rename_i t _;split at h
   ·rename_i hb;have hk:=η hb;obtain⟨ys,h,hc⟩:=jK h;obtain⟨hsz,h⟩:=aS h;refine⟨[],rfl,ys.map t.ds,by rw[hy];exact hc,fun _ h=>(by cases h),hk▸pZ t ys,by rw[ι];simpa using hsz,?_⟩;rw[if_neg (fun h=>h.2 rfl),hy,aB5,oA];have:=hK _ _ _ h;have e:(XV.slw (.O s.own.length) t ys.length).er=.sl (.O s.own.length) k 0 (([]:List (List DV)).length+(ys.map t.ds).length):=by show AV.sl (.O s.own.length) t.n 0 ys.length=_;rw[hk,ι,List.length_nil,bq]
    rw[e]at this;have e2:([XB.row true t ys].map XB.er)=[Blk.row true k ([]++ys.map t.ds)]:=by show[Blk.row true t.n (ys.map t.ds)]=_;rw[hk];rfl
    rw[e2]at this;exact this
   ·cases h
  ·cases h
 ·rename_i t xs;split at h
  ·rename_i hb;have hk:=η hb;obtain⟨ys,h,hc⟩:=jK h;split at h
   ·cases h
   ·rename_i y0 yr;obtain⟨hsz,h⟩:=aS h;refine⟨xs.map t.ds,rfl,(y0::yr).map t.ds,by rw[hy];exact hc,hk▸pZ t xs,hk▸pZ t (y0::yr),by rw[ι,ι];exact hsz,?_⟩;rw[if_neg (fun h=>by cases h.1),hy,aB5,oA];have:=hK _ _ _ h;have e:(XV.slw (.O s.own.length) t (xs++y0::yr).length).er=.sl (.O s.own.length) k 0 ((xs.map t.ds).length+((y0::yr).map t.ds).length):=by show AV.sl (.O s.own.length) t.n 0 (xs++y0::yr).length=_;rw[hk,ι,ι,κ]
    rw[e]at this;have e2:([XB.row true t (xs++y0::yr)].map XB.er)=[Blk.row true k (xs.map t.ds++(y0::yr).map t.ds)]:=by show[Blk.row true t.n ((xs++y0::yr).map t.ds)]=_;rw[hk,cd]
    rw[e2]at this;exact this
  ·cases h
 ·cases h
def aYp{α:Type}(xs:List α)(off len:Nat)(ys:List α):List α:=xs.take off++ys.take (min ys.length len)++xs.drop (off+min ys.length len)
def aI9(s:XS)(k:Nat)(vy:XV)(dst:Option Nat)(K:XS->Option R)(h:Hd)(t:Ty)(off len:Nat):Option R:=match s.lk h with
 |some (.row true t' xs)=>match t'.beq t,χ t'.n k with
  |true,true=>gd? (off+len<=xs.length) (nX s t' vy fun ys=>K ((s.setBlk h (some (.row true t' (aYp xs off len ys)))).put dst (.d (.i .i64) (min ys.length len:Nat)) [] []))
  |_,_=>none
 |_=>none
def aTl(s:XS)(k:Nat)(vy:XV)(dst:Option Nat)(K:XS->Option R):XV->Option R
 |.slw h t len=>aI9 s k vy dst K h t 0 len
 |.sl h t off len=>aI9 s k vy dst K h t off len
 |.asl h off len=>match s.lk h with
  |some (.arr true n kd x)=>match χ 1 k with
   |true=>gd? (off+len<=n) (nX s (.i kd) vy fun ys=>K ((s.setBlk h (some (.arr true n kd (x.put off (ys.take (min ys.length len)))))).put dst (.d (.i .i64) (min ys.length len:Nat)) [] []))
   |false=>none
  |_=>none
 |.rsl h off l len=>match s.lk h with
  |some (.rb true t x)=>match χ 1 k,xJ (lvs t x) off with
   |true,some a=>gd? (l+len<=a.n) (nX s (.i a.k) vy fun ys=>match aIn (lvs t x) off [.d (.ar a.n a.k) (a.x.put l (ys.take (min ys.length len)))] a.n with
    |some q=>match pkD t q with
     |some (y,[])=>K ((s.setBlk h (some (.rb true t y))).put dst (.d (.i .i64) (min ys.length len:Nat)) [] [])
     |_=>none
    |none=>none)
   |_,_=>none
  |_=>none
 |_=>none
theorem aSp{l p:List α}{i:Nat}(h:off+n<=l.length)(hi:i+p.length<=n):l.take off++(((l.drop off).take n).take i++p++((l.drop off).take n).drop (i+p.length))++l.drop (off+n)=l.take (off+i)++p++l.drop (off+i+p.length):=by
 have e1:l.take (off+i)=l.take off++(l.drop off).take i:=by rw[List.take_add]
 have e2:((l.drop off).take n).take i=(l.drop off).take i:=by rw[List.take_take,Nat.min_eq_left (by omega)]
 have e3:l.drop (off+i+p.length)=((l.drop off).take n).drop (i+p.length)++l.drop (off+n):=by
  have h1:l.drop (off+i+p.length)=(l.drop off).drop (i+p.length):=by rw[eg,gc]
  have h2:l.drop (off+n)=(l.drop off).drop n:=by rw[eg]
  rw[h1,h2];have h3:l.drop off=(l.drop off).take n++(l.drop off).drop n:=(List.take_append_drop _ _).symm;have h4:((l.drop off).take n).length=n:=by rw[bz,υ];omega
  conv=>lhs;rw[h3]
  rw[d8 (by omega)]
 rw[e1,e2,e3];simp only[a9]
theorem aG0[YL]{K:XS->Option R}{r:R}{len:Nat}(hy:s.er.ev yo=vy.er)(h:aI9 s k vy dst K hd t off len=some r)(hK:∀s',K s'=some r->KP s'.er):aGl s.er k yo dst KP (.sl hd t.n off len):=by
 unfold aI9 at h;split at h
 ·rename_i t' xs hl;split at h
  ·rename_i hb hb2;obtain rfl:=Ty.eq_of hb;have hk:=η hb2;obtain⟨h1,h⟩:=aS h;obtain⟨ys,h,hc⟩:=jK h;refine⟨hk,xs.map t'.ds,ys.map t'.ds,by rw[aP,hl,<-hk];rfl,by rw[ι];exact h1,by rw[hy];exact hc,hk▸pZ t' ys,by rw[<-ce];exact aN8 t' _,?_⟩;have:=hK _ h;rw[cU,bX hl]at this;have e:(some (XB.row true t' (aYp xs off len ys))).map XB.er=some (.row true k ((xs.map t'.ds).take off++(ys.map t'.ds).take (min (ys.map t'.ds).length len)++(xs.map t'.ds).drop (off+min (ys.map t'.ds).length len))):=by show some (Blk.row true t'.n ((aYp xs off len ys).map t'.ds))=_;unfold aYp;rw[hk,cd,cd,ce,ce,cj,ι]
   rw[e]at this;have e2:(XV.d (.i .i64) ((min ys.length len:Nat):Int)).er=.D (.I .i64 (min (ys.map t'.ds).length len:Nat)):=by rw[ι];rfl
   rw[e2]at this;exact this
  ·cases h
 ·cases h
theorem aSy[YL]{K:XS->Option R}{r:R}(hy:s.er.ev yo=vy.er)(h:aTl s k vy dst K a=some r)(hK:∀s',K s'=some r->KP s'.er):aGl s.er k yo dst KP a.er:=by
 unfold aTl at h;split at h
 ·exact aG0 hy h hK
 ·exact aG0 hy h hK
 ·rename_i hd off len;split at h
  ·rename_i n kd x hl;split at h
   ·rename_i hb;obtain rfl:=η hb;obtain⟨h1,h⟩:=aS h;obtain⟨ys,h,hc⟩:=jK h;refine⟨rfl,x.l.map (arD kd),ys.map (Ty.i kd).ds,by rw[aP,hl];rfl,by rw[ι,x.len];exact h1,by rw[hy];exact hc,pZ (.i kd) ys,by rw[<-ce];exact aN8 (.i kd) _,?_⟩;have:=hK _ h;rw[cU,bX hl]at this;have hm:(ys.take (min ys.length len)).length=min ys.length len:=by rw[bz];omega
    have e:(some (XB.arr true n kd (x.put off (ys.take (min ys.length len))))).map XB.er=some (.row true 1 ((x.l.map (arD kd)).take off++(ys.map (Ty.i kd).ds).take (min (ys.map (Ty.i kd).ds).length len)++(x.l.map (arD kd)).drop (off+min (ys.map (Ty.i kd).ds).length len))):=by show some (Blk.row true 1 ((x.put off (ys.take (min ys.length len))).l.map (arD kd)))=_;rw[Arr.l_put (by rw[hm];omega),cd,cd,hm,ce,ce,cj,ι];rfl
    rw[e]at this;have e2:(XV.d (.i .i64) ((min ys.length len:Nat):Int)).er=.D (.I .i64 (min (ys.map (Ty.i kd).ds).length len:Nat)):=by rw[ι];rfl
    rw[e2]at this;exact this
   ·cases h
  ·cases h
 ·rename_i hd off l len;split at h
  ·rename_i t x hl;split at h
   ·rename_i a hb ha;obtain rfl:=η hb;obtain⟨h1,h⟩:=aS h;obtain⟨ys,h,hc⟩:=jK h;split at h
    ·rename_i q hu;split at h
     ·rename_i y hp;obtain⟨c1,c2⟩:=qP hu;obtain⟨d1,d2⟩:=yV ha;obtain⟨l1,e1,e2⟩:=pK hp;rw[bj]at e1;subst e1;have hm:(ys.take (min ys.length len)).length=min ys.length len:=by rw[bz];omega
      have hp1:(((ys.take (min ys.length len)).map (DV.I a.k)).map AV.D).length=min ys.length len:=by rw[ι,ι,hm]
      have e3:XV.fcL [XV.d (.ar a.n a.k) (a.x.put l (ys.take (min ys.length len)))]=((((XV.fcL (lvs t x)).drop off).take a.n).take l++((ys.take (min ys.length len)).map (DV.I a.k)).map .D++(((XV.fcL (lvs t x)).drop off).take a.n).drop (l+(((ys.take (min ys.length len)).map (DV.I a.k)).map AV.D).length)):=by rw[d1,hp1];show(((a.x.put l (ys.take (min ys.length len))).l.map (DV.I a.k)).map AV.D)++[]=_;rw[bj,Arr.l_put (by rw[hm];omega),hm];simp only[cd,ce,cj]
      have e4:=aSp (p:=((ys.take (min ys.length len)).map (DV.I a.k)).map AV.D) d2 (i:=l) (by rw[hp1];omega);rw[<-e3,<-c2,hp1,cS]at e4;have e5:t.ds y=(t.ds x).take (off+l)++(ys.take (min ys.length len)).map (DV.I a.k)++(t.ds x).drop (off+l+min ys.length len):=by refine jQ ?_;rw[<-e2,e4];simp only[cd,ce,cj]
      rw[cS,ι]at d2;refine⟨rfl,sgD (t.ds x),ys.map (Ty.i a.k).ds,by rw[aP,hl];rfl,by rw[vN];omega,by rw[hy];exact hc,pZ (.i a.k) ys,by rw[<-ce];exact aN8 (.i a.k) _,?_⟩;have:=hK _ h;rw[cU,bX hl]at this;have e:(some (XB.rb true t y)).map XB.er=some (.row true 1 ((sgD (t.ds x)).take (off+l)++(ys.map (Ty.i a.k).ds).take (min (ys.map (Ty.i a.k).ds).length len)++(sgD (t.ds x)).drop (off+l+min (ys.map (Ty.i a.k).ds).length len))):=by show some (Blk.row true 1 (sgD (t.ds y)))=_;rw[e5,ι];unfold sgD;simp only[cd,ce,cj,fk];rfl
      rw[e]at this;have e6:(XV.d (.i .i64) ((min ys.length len:Nat):Int)).er=.D (.I .i64 (min (ys.map (Ty.i a.k).ds).length len:Nat)):=by rw[ι];rfl
      rw[e6]at this;exact this
     ·cases h
    ·cases h
   ·cases h
  ·cases h
 ·cases h
def aOm(s:XS)(k:Nat)(zs:List DV)(dst:Option Nat)(K:XS->Option R)(h:Hd)(t:Ty)(off len:Nat):Option R:=match s.lk h with
 |some (.row true t' xs)=>match t'.beq t,χ t'.n k,zeq (zs.map .D) ((t'.ds t'.z).map .D)with
  |true,true,true=>gd? (off+len<=xs.length) (K ((s.setBlk h (some (.row true t' (xs.take off++br len t'.z++xs.drop (off+len))))).put dst .any [] []))
  |_,_,_=>none
 |_=>none
def bBa(s:XS)(k:Nat)(zs:List DV)(dst:Option Nat)(K:XS->Option R):XV->Option R
 |.slw h t len=>aOm s k zs dst K h t 0 len
 |.sl h t off len=>aOm s k zs dst K h t off len
 |_=>none
theorem aK0[YL]{zs:List DV}{K:XS->Option R}{r:R}{len:Nat}(h:aOm s k zs dst K hd t off len=some r)(hK:∀s',K s'=some r->KP s'.er):aBe s.er k zs dst KP (.sl hd t.n off len):=by
 unfold aOm at h;split at h
 ·rename_i t' xs hl;split at h
  ·rename_i hb hb2 hz;obtain rfl:=Ty.eq_of hb;have hk:=η hb2;have hz:=jQ (aEa hz);obtain⟨h1,h⟩:=aS h;refine⟨hk,xs.map t'.ds,by rw[aP,hl,<-hk];rfl,by rw[ι];exact h1,?_⟩;have:=hK _ h;rw[cU,bX hl]at this;have e:(some (XB.row true t' (xs.take off++br len t'.z++xs.drop (off+len)))).map XB.er=some (.row true k ((xs.map t'.ds).take off++br len zs++(xs.map t'.ds).drop (off+len))):=by show some (Blk.row true t'.n ((xs.take off++br len t'.z++xs.drop (off+len)).map t'.ds))=_;rw[hk,cd,cd,f9,ce,cj,hz]
   rw[e]at this;exact this
  ·cases h
 ·cases h
theorem aXt[YL]{zs:List DV}{K:XS->Option R}{r:R}(h:bBa s k zs dst K a=some r)(hK:∀s',K s'=some r->KP s'.er):aBe s.er k zs dst KP a.er:=by
 unfold bBa at h;split at h
 ·exact aK0 h hK
 ·exact aK0 h hK
 ·cases h
def bCc{α:Type}[DecidableEq α]:List α->α->List α
 |[],_=>[]
 |x::l,y=>if x=y then bCc l y else x::bCc l y
def bFb(V:Ty):XV->Option V.T
 |.d t x=>t.cst V x
 |.agg cs=>match kV V with
  |true=>none
  |false=>match pkD V cs with
   |some (x,[])=>some x
   |_=>none
 |_=>none
def isO:Ty->Bool
 |.o _=>true
 |_=>false
def bB1{α:Type}[DecidableEq α](hole:Option α)(y:α)(K:Option R):Option R:=match hole with
 |none=>K
 |some z=>gd? (z=y) K
def bGs(s:XS)(wr:Bool)(V:Ty)(vz:XV)(K:V.T->Option Hd->Option R):Option R:=match V,K with
 |.o t,K=>match vz with
  |.slw hr t' len=>match s.lk hr with
   |some (.row mt t2 xs)=>match t2.beq t'&&(!wr||mt),(Ty.sl t2).cst (.sl t) xs with
    |true,some x=>gl? len xs (K x (some hr))
    |_,_=>none
   |_=>none
  |_=>none
 |V,K=>match bFb V vz with
  |some x=>K x none
  |none=>none
def bEh(s:XS)(h:Hd)(b:XB)(hr:Option Hd)(K:XS->Option R):Option R:=match hr with
 |none=>K (s.setBlk h (some b))
 |some a=>match a.eqb h with
  |true=>none
  |false=>K ((s.setBlk a none).setBlk h (some b))
def bBv(s:XS)(h:Hd)(wr:Bool)(K0 V:Ty)(es:List (K0.T×V.T))(hole:Option K0.T)(y:K0.T)(vz:XV)(K:XS->Option R):Option R:=
 bGs s wr V vz fun x hr=>bB1 hole y (bEh s h (.mp wr K0 V (bDo es y x) none none) hr K)
def bHb(s:XS)(kd:KD)(vy vz:XV)(K:XS->Option R):XV->Option R
 |.mref h=>match s.lk h with
  |some (.mp wr K0 V es hole i)=>match aBt K0&&kdB K0.kd kd&&bFl wr i,aPq K0 vy with
   |true,some y=>bBv s h wr K0 V es hole y vz K
   |_,_=>none
  |_=>none
 |_=>none
def bBd{α:Type}[DecidableEq α](y:α):Option (Hd×Option α×List α)->Option (Hd×Option α×List α)
 |none=>none
 |some (hi,_,rem)=>some (hi,none,bCc rem y)
def bHe(s:XS)(kd:KD)(vy:XV)(K:XS->Option R):XV->Option R
 |.mref h=>match s.lk h with
  |some (.mp false K0 V es none i)=>match aBt K0&&kdB K0.kd kd,aPq K0 vy with
   |true,some y=>K (s.setBlk h (some (.mp false K0 V (bF6 es y) none (bBd y i))))
   |_,_=>none
  |_=>none
 |_=>none
def bHj(s:XS)(kd:KD)(dst:Option Nat)(K:XS->Option R):XV->Option R
 |.mref h=>match s.lk h with
  |some (.mp wr K0 V es hole i)=>match kdB K0.kd kd&&(!wr||(i.isNone&&hole.isNone))with
   |true=>K ((s.setBlk h (some (.mp wr K0 V es hole (some (.O s.own.length,none,es.map (·.1)))))).put dst (.itr h (.O s.own.length)) [.it] [])
   |false=>none
  |_=>none
 |_=>none
def bF9(s:XS)(kd:KD)(z:AV)(k:Nat)(ok:Bool)(vy:XV)(dst:Option Nat)(K:XS->Option R):XV->Option R
 |.mref h=>match ok,s.lk h with
  |false,some (.mp wr K0 (.o t) es none i)=>match aBt K0&&kdB K0.kd kd&&zeq [z] [.D (.L [])]&&χ t.n k&&bFl wr i,aPq K0 vy with
   |true,some y=>K ((s.setBlk h (some (.mp wr K0 (.o t) es (some y) i))).put dst (.slw (.O s.own.length) t ((yE es y).getD []).length) [.row wr t ((yE es y).getD [])] [])
   |_,_=>none
  |_,_=>none
 |_=>none
def bHd(s:XS)(dst:Option Nat)(K:XS->Option R):XV->Option R
 |.itr h hi=>match s.lk h,s.lk hi with
  |some (.mp true K0 (.o t) es none (some (hi',some cur,rem))),some _=>match aBt K0&&hi.eqb hi' with
   |true=>gd? (¬cur∈rem)<|bd? (yE es cur) fun v=>K ((s.setBlk h (some (.mp true K0 (.o t) es none (some (hi,none,rem))))).put dst (.tup [aA1 K0 cur,.slw (.O s.own.length) t v.length]) [.row true t v] [])
   |false=>none
  |_,_=>none
 |_=>none
end
section
variable{R:Type}
def bA3(vr:Hd->Option Nat)(s:XS):Nat->List (Option XB)->List (Option Hd)->List (Option Hd)
 |_,[],l=>l
 |i,m::r,l=>bA3 vr s (i+1) r (match bB2 l i,m with
  |some h,some (.box ms)=>match s.lk h with
   |some (.box cs)=>aU8 vr ms cs l
   |_=>l
  |_,_=>l)
def aSm:List (Option Hd)->Option (List Hd)
 |[]=>some []
 |some h::r=>match aSm r with
  |some l=>some (h::l)
  |none=>none
 |none::_=>none
def aIg:List Hd->Bool
 |[]=>true
 |h::r=>!(hin h r)&&aIg r
theorem aGd:∀{l:List Hd},aIg l=true->l.Nodup
 |[],_=>i8
 |h::r,e=>by unfold aIg at e;rw[μ,dh]at e;exact eq.2 ⟨fun q=>(by rw[qO.2 q]at e;cases e.1),aGd e.2⟩
def aHq(s:XS):List Hd->List (Option XB)
 |[]=>[]
 |h::r=>s.lk h::aHq s r
theorem aPh[YL](s:XS):∀hs:List Hd,erB (aHq s hs)=hs.map s.er.lk
 |[]=>rfl
 |h::r=>by show(s.lk h).map XB.er::erB (aHq s r)=s.er.lk h::r.map s.er.lk;rw[aP,aPh s r]
theorem aJ3(s:XS):∀(hs:List Hd) (i:Nat),bB (aHq s hs) i=(hs[i]?).bind s.lk
 |[],_=>by simp[aHq,bB]
 |h::r,0=>rfl
 |h::r,i+1=>by show bB (aHq s r) i=_;rw[aJ3 s r i];simp
def okH(s:XS):List Hd->Bool
 |[]=>true
 |h::r=>(match s.lk h with
  |some .it=>false
  |some _=>true
  |none=>false)&&okH s r
theorem aU6[YL]{s:XS}:∀{hs:List Hd},okH s hs=true->∀h∈hs,∃b,s.lk h=some b/\b.er.isIt=false
 |[],_,_,h=>by cases h
 |x::r,e,h,hh=>by
  unfold okH at e;rw[μ]at e;rcases cq.1 hh with rfl|hh
  ·have e:=e.1;split at e
   ·cases e
   ·rename_i b hn hl;refine⟨b,hl,?_⟩;cases b with
    |it=>exact(hn rfl).elim
    |_=>rfl
   ·cases e
  ·exact aU6 e.2 h hh
def XB.hr:XB->List Hd
 |.box cs=>XV.hrL cs
 |_=>[]
theorem bDi[YL](b:XB):b.er.rows=b.hr:=by
 cases b with
 |box cs=>exact aHw cs
 |_=>rfl
def uS(s:XS):List Hd->List Hd
 |[]=>[]
 |h::r=>(match s.lk h with
  |some b=>b.hr
  |none=>[])++uS s r
theorem aBx[YL](s:XS):∀hs:List Hd,qV s.er.lk hs=uS s hs
 |[]=>rfl
 |h::r=>by
  unfold qV uS;rw[aBx s r,aP];cases s.lk h with
  |none=>rfl
  |some b=>exact congrArg (· ++_) (bDi b)
def aG2(hs:List Hd):List Hd->List Hd
 |[]=>[]
 |h::r=>match hin h hs with
  |true=>aG2 hs r
  |false=>h::aG2 hs r
theorem aEz(hs:List Hd):∀l:List Hd,l.filter (fun h=>decide (h∉hs))=aG2 hs l
 |[]=>rfl
 |h::r=>by
  rw[List.filter_cons];unfold aG2;cases hq:hin h hs with
  |true=>rw[if_neg (by simp[qO.1 hq])];exact aEz hs r
  |false=>rw[if_pos (by simp only[decide_eq_true_eq];exact fun q=>by rw[qO.2 q]at hq;cases hq),aEz hs r]
def pY(ψ:Hd->Hd):List Hd->List (Option XB)->XS->XS
 |h::hs,b::bs,s=>pY ψ hs bs (s.setBlk h (match b with
  |some b=>some (b.ren ψ)
  |none=>none))
 |_,_,s=>s
def inR(s:XS):Hd->Prop
 |.B i=>i<s.bs.length
 |.O i=>i<s.own.length
theorem bBg{b:XB}(hl:s.lk h=some b):inR s h:=by
 cases h with
 |B i=>exact pC (l:=s.bs) hl
 |O i=>exact pC (l:=s.own) hl
theorem aMz[YL](hl:inR s h)(b:Option XB):(s.setBlk h b).er=s.er.setBlk h (b.map XB.er):=by
 cases h with
 |B i=>
  refine AState.ext' (fun _=>rfl) (fun j=>?_) (fun _=>rfl) rfl;show(bB (tY s.bs i b) j).map XB.er=if j=i then b.map XB.er else(bB s.bs j).map XB.er
  rw[nI _ _ _ _ hl];split<;>rfl
 |O i=>
  refine AState.ext' (fun _=>rfl) (fun _=>rfl) (fun j=>?_) (uF _ _ _);show(bB (tY s.own i b) j).map XB.er=if j=i then b.map XB.er else(bB s.own j).map XB.er
  rw[nI _ _ _ _ hl];split<;>rfl
theorem aYj{h':Hd}(hl:inR s h')(b:Option XB):inR (s.setBlk h b) h':=by
 cases h with
 |B i=>cases h' with
  |B j=>show j<(tY s.bs i b).length;rw[uF];exact hl
  |O j=>exact hl
 |O i=>cases h' with
  |B j=>exact hl
  |O j=>show j<(tY s.own i b).length;rw[uF];exact hl
theorem aB2[YL](ψ:Hd->Hd):∀(hs:List Hd) (bs:List (Option XB)) (s:XS),(∀h∈hs,inR s h)->(pY ψ hs bs s).er=bQ s.er ψ hs (erB bs)
 |[],bs,s,_=>by unfold pY bQ;rfl
 |h::hs,[],s,_=>by unfold pY bQ;rfl
 |h::hs,b::bs,s,hr=>by
  have h1:=hr h c9;show(pY ψ hs bs (s.setBlk h _)).er=bQ (s.er.setBlk h ((b.map XB.er).map (Blk.ren ψ))) ψ hs (erB bs);rw[aB2 ψ hs bs _ (fun x hx=>aYj (hr x (dw _ hx)) _),aMz h1];cases b with
  |none=>rfl
  |some b=>
   show bQ (s.er.setBlk h (some (b.ren ψ).er)) ψ hs (erB bs)=_;rw[aJe];rfl
def aEn(s:XS)(hs:List Hd)(vs:List XV)(dst:Option Nat)(o:XS)(bl:List XB):XS:=
 (pY (aZ hs s.own.length) hs o.bs (s.put none .un [] (aG2 hs (xfz s (XV.hrL vs++uS s hs))))).put dst ((XV.val o.env).ren (aZ hs s.own.length)) (bl.map (XB.ren (aZ hs s.own.length))) []
theorem aYy(hl:inR s h)(fz:List Hd):inR (s.put none .un [] fz) h:=by
 cases h with
 |B i=>
  show i<(match fz with|[]=>s.bs|fz=>vV .B fz 0 s.bs).length;cases fz with
  |nil=>exact hl
  |cons x r=>show i<(vV .B (x::r) 0 s.bs).length;rw[tS];exact hl
 |O i=>
  show i<((match fz with|[]=>s.own|fz=>vV .O fz 0 s.own)++([]:List XB).map some).length;rw[κ];cases fz with
  |nil=>exact d7 hl (ge _ _)
  |cons x r=>
   show i<(vV .O (x::r) 0 s.own).length+_;rw[tS];exact d7 hl (ge _ _)
theorem aQz[YL](hr:∀h∈hs,inR s h)(vs:List XV)(dst:Option Nat)(o:XS)(bl:List XB):(aEn s hs vs dst o bl).er=eE s.er hs (XV.erL vs) dst (XV.val o.env).er (erB o.bs) (bl.map XB.er):=by
 have e:fzE s.er.lk hs (XV.erL vs)=aG2 hs (xfz s (XV.hrL vs++uS s hs)):=by unfold fzE;rw[aEz,xR,aBx,oA]
 unfold aEn eE;rw[cU,aB2 _ _ _ _ (fun h hh=>aYy (hr h hh) _),cU,aH9,aZ1,e];rfl
def aOx(s:XS)(hs:List Hd)(vs:List XV)(dst:Option Nat)(K:XS->Option R)(o:XS):Option R:=match χ o.bs.length hs.length,aL3 o.own,o.pv with
 |true,some bl,none=>K (aEn s hs vs dst o bl)
 |_,_,_=>none
def aCt(s:XS)(g:Sig)(vs:List XV)(dst:Option Nat)(K:XS->Option R)(hs:List Hd):Option R:=match aIg hs&&aFw s.own.length hs&&okH s hs&&wQ 0 g.ent.env vs,g.ent.own with
 |true,[]=>rdK s (vU hs) g.ent (qE vs) (aHq s hs) [] fun v=>bd? (apF g.ent.tys g.F v) fun r=>aX9 g.out r (aOx s hs vs dst K)
 |_,_=>none
def aNa(T:List Sig)(s:XS)(vs:List XV)(dst:Option Nat)(K:XS->Option R):XV->Option R
 |.clo fn caps=>match aRn T fn (vs++caps)with
  |some g=>match aSm (bA3 vrB s 0 g.ent.bs (aVn vrB (qE (vs++caps)) g.ent.env (aKc g.ent.bs)))with
   |some hs=>aCt s g (vs++caps) dst K hs
   |none=>none
  |none=>none
 |_=>none
theorem aRw:∀h h' b,vU hs h=some h'->s.lk h=some b->match h' with|.B i=>bB (aHq s hs) i=some b|.O i=>bB [] i=some b:=fun h h' b e hl=>by have e:(aAm h hs 0).map Hd.B=some h':=e;rw[ζ]at e;obtain⟨i,hi,rfl⟩:=e;obtain⟨_,h2⟩:=vE hi;show bB (aHq s hs) i=some b;rw[aJ3,show hs[i]?=some h from h2];exact hl
theorem aDf[YL]{g:Sig}{K:XS->Option R}{r:R}{hds:List Hd}(h:aCt s g vs dst K hds=some r):
  ∃v rr bl,apF g.ent.tys g.F v=some rr/\(bl.map XB.er).map some=erB (cV g.out rr).own/\(cV g.out rr).pv=none/\(g.ent.fill v).env.map (fun p=>p.2.er)=AV.convL s.er.lk (vU hds) (XV.erL vs)/\pQ s.er.lk hds=erB (g.ent.fill v).bs/\
   hds.Nodup/\aFw s.er.nx hds=true/\(∀h∈hds,(s.er.lk h).isSome=true)/\(∀h∈hds,(s.er.lk h).any Blk.isIt=false)/\(erB (cV g.out rr).bs).length=hds.length/\
   K (aEn s hds vs dst (cV g.out rr) bl)=some r/\(aEn s hds vs dst (cV g.out rr) bl).er=eE s.er hds (XV.erL vs) dst (XV.val (cV g.out rr).env).er (erB (cV g.out rr).bs) (bl.map XB.er):=by
 unfold aCt at h;split at h
 case h_2=>cases h
 rename_i hb ho;rw[μ,μ,μ]at hb;obtain⟨⟨⟨b1,b2⟩,b3⟩,b4⟩:=hb;obtain⟨v,h,e1,e2,_⟩:=aR1 aRw h;obtain⟨rr,hr,h⟩:=bAm h;have h:=aHf h;unfold aOx at h;split at h
 case h_2=>cases h
 rename_i bl hlen hbl hpv;have hlen:=η hlen;have hargs:(g.ent.fill v).env.map (fun p=>p.2.er)=AV.convL s.er.lk (vU hds) (XV.erL vs):=by have:=congrArg (fun l=>l.map (fun p:Nat×AV=>p.2)) e1;simp only[fk]at this;rw[aEi,<-aAz (f:=fun v=>AV.conv s.er.lk (vU hds) v.er) b4 (ev:=qE vs) fun i _=>by rw[bq]];exact this
 have hh:pQ s.er.lk hds=erB (g.ent.fill v).bs:=by rw[e2,aPh,fk];rfl
 have hlive:=aU6 b3;refine⟨v,rr,bl,hr,aDm hbl,hpv,hargs,hh,aGd b1,b2,fun x hx=>?_,fun x hx=>?_,?_,h,?_⟩
 ·obtain⟨b,q,_⟩:=hlive x hx;rw[aP,q];rfl
 ·obtain⟨b,q,q2⟩:=hlive x hx;rw[aP,q];exact q2
 ·show(List.map _ _).length=_;rw[ι];exact hlen
 ·rw[aQz (fun x hx=>by obtain⟨b,q,_⟩:=hlive x hx;exact bBg q)]
theorem aRt[YL]{T:List Sig}(hT:gQ P T){K:XS->Option R}{r:R}(h:aNa T s vs dst K vf=some r)(hK:∀s',K s'=some r->KP s'.er):aFa P s.er dst KP (XV.erL vs) vf.er:=by
 unfold aNa at h;split at h
 case h_2=>cases h
 rename_i fn caps;split at h
 case h_2=>cases h
 rename_i g hg;obtain⟨hs,hfn⟩:=aC1 hT hg;split at h
 case h_2=>cases h
 rename_i hds _;obtain⟨v,rr,bl,hr,hbl,hpv,hargs,hh,c1,c2,c3,c4,c5,hk,he⟩:=aDf h;have hcall:=hs v rr hr (bl.map XB.er) hbl;unfold zY at hcall;rw[hpv]at hcall;rw[hargs,hfn,<-hh,mN]at hcall;refine⟨hds,_,_,_,c1,c2,c3,c4,c5,hcall,?_⟩;have:=hK _ hk;rw[he,mN]at this;exact this
structure XRO where
 ro:RO
 ty:Option Ty
def aEu(T:List Sig)(s:XS)(o:XRO)(K:XS->Option R):Option R:=
 match o.ro.op with
 |.store sz a x=>w1 s a fun va=>w1 s x fun vx=>match bF5 vx va with
  |true=>aIu s sz vx K va
  |false=>aN3 s sz vx K va
 |.appE k bytes x y=>w1 s x fun vx=>w1 s y fun vy=>aH0 s o.ty k bytes vy o.ro.dst K vx
 |.app k bytes x y=>w1 s x fun vx=>w1 s y fun vy=>bCp s o.ty k bytes vy (fun v nbs fz=>K (s.put o.ro.dst v nbs fz)) vx
 |.callE f args=>w1 s f fun vf=>wL s args fun vs=>aNa T s vs o.ro.dst K vf
 |.clr k zs x=>w1 s x (bBa s k zs o.ro.dst K)
 |.cpy k x y=>w1 s x fun vx=>w1 s y fun vy=>aTl s k vy o.ro.dst K vx
 |.mtake kd z k ok x y=>none
 |.mput kd x y z=>none
 |.mdel kd x y=>none
 |.rng kd x=>none
 |.entT x=>none
 |op=>xp T s o.ty op fun v nbs fz=>K (s.put o.ro.dst v nbs fz)
theorem aAj[YL]{T:List Sig}(hT:gQ P T){o:XRO}{K:XS->Option R}{r:R}(h:aEu T s o K=some r)(hK:∀s',K s'=some r->KP s'.er):mH P s.er o.ro KP:=by
 have hput:∀v nbs fz,K (s.put o.ro.dst v nbs fz)=some r->KP (s.er.put o.ro.dst v.er (nbs.map XB.er) fz):=fun v nbs fz h=>by rw[<-cU];exact hK _ h
 unfold aEu at h;unfold mH;split at h
 ·rename_i sz a x e;obtain⟨h,e1⟩:=aN h;obtain⟨h,e2⟩:=aN h;rw[e];show mF s.er sz (s.er.ev x) KP (s.er.ev a)\/mF (s.er.put none .un [] (fzL s.er.lk (AV.rows (s.er.ev x)))) sz (AV.conv s.er.lk (fun _=>none) (s.er.ev x)) KP (s.er.ev a);split at h
  ·right;rw[e1];exact aM7 e2 h hK
  ·left;rw[e1];exact aQ3 e2 h hK
 ·rename_i k bytes x y e;obtain⟨h,e1⟩:=aN h;obtain⟨h,e2⟩:=aN h;rw[e];show oM s.er k bytes y o.ro.dst KP (s.er.ev x);rw[e1];exact aNx e2 h hK
 ·rename_i k bytes x y e;obtain⟨h,e1⟩:=aN h;obtain⟨h,e2⟩:=aN h;rw[e];show∃es,s.er.ev x=.fl es/\_;rw[e1];exact aXu e2 h (KP:=fun a nbs fz=>KP (s.er.put o.ro.dst a nbs fz)) hput
 ·rename_i f args e;obtain⟨h,e1⟩:=aN h;obtain⟨vs,h,e2⟩:=aB3 h;rw[e];show aFa P s.er o.ro.dst KP (args.map s.er.ev) (s.er.ev f);rw[e1,e2];exact aRt hT h hK
 ·rename_i k zs x e;obtain⟨h,e1⟩:=aN h;rw[e];show aBe s.er k zs o.ro.dst KP (s.er.ev x);rw[e1];exact aXt h hK
 ·rename_i k x y e;obtain⟨h,e1⟩:=aN h;obtain⟨h,e2⟩:=aN h;rw[e];show aGl s.er k y o.ro.dst KP (s.er.ev x);rw[e1];exact aSy e2 h hK
 ·cases h
 ·cases h
 ·cases h
 ·cases h
 ·cases h
 ·rename_i n1 n2 n3 n4 n5 n6 n7 n8 n9 n10 n11;have:=bEy hT h (KP:=fun a nbs fz=>KP (s.er.put o.ro.dst a nbs fz)) hput;split
  ·rename_i e;exact absurd e (n1 _ _ _)
  ·rename_i e;exact absurd e (n2 _ _ _ _)
  ·rename_i e;exact absurd e (n4 _ _)
  ·rename_i e;exact absurd e (n5 _ _ _)
  ·rename_i e;exact absurd e (n6 _ _ _)
  ·rename_i e;exact absurd e (n7 _ _ _ _ _ _)
  ·rename_i e;exact absurd e (n8 _ _ _ _)
  ·rename_i e;exact absurd e (n9 _ _ _)
  ·rename_i e;exact absurd e (n10 _ _)
  ·rename_i e;exact absurd e (n11 _)
  ·exact this
def lV(s:XS)(t:Nat)(q:Bool):XS:={s with env:=(t,.d .b q)::s.env}
theorem iB[YL]{t:Nat}{c:Bool}(h:cN s.env t=.d .b c)(e:c=q):(lV s t q).er=s.er:=by
 subst e;refine AState.ext' (fun i=>?_) (fun _=>rfl) (fun _=>rfl) rfl;show(if χ i t=true then XV.d .b c else cN s.env i).er=(cN s.env i).er;by_cases hi:i=t
 ·rw[if_pos (by rw[f8];exact hi),hi,h]
 ·rw[if_neg (by rw[f8];exact hi)]
def yL(T:List Sig):List XRO->XS->(XS->Option R)->Option R
 |[],s,K=>K s
 |o::r,s,K=>match o.ro.guard with
  |none=>aEu T s o fun s'=>yL T r s' K
  |some (t,want)=>match cN s.env t with
   |.d .b c=>match want with
    |true=>if? c (aEu T (lV s t true) o fun s'=>yL T r s' K) (yL T r ((lV s t false).put o.ro.dst .un [] []) K)
    |false=>if? c (yL T r ((lV s t true).put o.ro.dst .un [] []) K) (aEu T (lV s t false) o fun s'=>yL T r s' K)
   |.un=>yL T r (s.put o.ro.dst .un [] []) K
   |_=>none
theorem iT[YL]{P:Program}{T:List Sig}(hT:gQ P T){r:R}:∀{os:List XRO} {s:XS} {K:XS->Option R},yL T os s K=some r->∀{KP:AState->Prop},(∀s',K s'=some r->KP s'.er)->iL P (os.map XRO.ro) s.er KP
 |[],s,K,h,KP,hK=>hK _ h
 |o::os,s,K,h,KP,hK=>by
  unfold yL at h;show iL P (o.ro::os.map XRO.ro) s.er KP;unfold iL;split at h
  ·rename_i hg;rw[hg];exact aAj hT h fun s' h=>iT hT h hK
  ·rename_i t want hg;rw[hg];split at h
   ·rename_i c hc;have ht:s.er.env t=.D (.B c):=by show(cN s.env t).er=_;rw[hc];rfl
    show match s.er.env t with
     |.D (.B c)=>(c=want->_)/\(¬c=want->_)
     |.D (.C (.tuple _))=>_
     |_=>False
    rw[ht];split at h
    ·rcases aHx h with⟨e,h⟩|⟨e,h⟩
     ·have:=aAj hT h (KP:=fun s'=>iL P (os.map XRO.ro) s' KP) fun s' h=>iT hT h hK;rw[iB hc e]at this;exact⟨fun _=>this,fun h=>absurd e h⟩
     ·have:=iT hT h hK;rw[cU,iB hc e]at this;exact⟨fun h=>c6 (e.symm.trans h),fun _=>this⟩
    ·rcases aHx h with⟨e,h⟩|⟨e,h⟩
     ·have:=iT hT h hK;rw[cU,iB hc e]at this;exact⟨fun h=>c6 (e.symm.trans h),fun _=>this⟩
     ·have:=aAj hT h (KP:=fun s'=>iL P (os.map XRO.ro) s' KP) fun s' h=>iT hT h hK;rw[iB hc e]at this;exact⟨fun _=>this,fun h=>absurd e h⟩
   ·rename_i hc;have ht:s.er.env t=.D (.C undef):=by show(cN s.env t).er=_;rw[hc];rfl
    have:=iT hT h hK;rw[cU]at this;show match s.er.env t with
     |.D (.B c)=>(c=want->_)/\(¬c=want->_)
     |.D (.C (.tuple _))=>_
     |_=>False
    rw[ht];exact this
   ·cases h
def aWz:Option XB->Option XB->Bool
 |some (.arr _ n _ _),some (.arr _ m _ _)=>χ n m
 |some (.rb _ t _),some (.rb _ t' _)=>t.beq t'
 |_,_=>false
theorem aWh[YL]{c:Option XB}(h:aWz b c=true):keepB false (b.map XB.er) (c.map XB.er):=by
 unfold aWz at h;split at h
 ·rename_i mt n k x mt' m k' y;have h:=η h;subst h;show shp (some (Blk.row mt' 1 (y.l.map (arD k'))))=shp (some (Blk.row mt 1 (x.l.map (arD k))));unfold shp;simp only[ι,x.len,y.len]
 ·rename_i mt t x mt' t' y;obtain rfl:=Ty.eq_of h;show shp (some (Blk.row mt' 1 (sgD (t.ds y))))=shp (some (Blk.row mt 1 (sgD (t.ds x))));unfold shp;simp only[vN,Ty.ds_len]
 ·cases h
def aO5(s s':XS):List Hd->Bool
 |[]=>true
 |h::r=>aWz (s.lk h) (s'.lk h)&&aO5 s s' r
theorem aKp[YL]{s s':XS}:∀{hs:List Hd},aO5 s s' hs=true->aGt false hs s.er s'.er
 |[],_=>fun _ h=>by cases h
 |h::r,e=>by
  have e:(aWz (s.lk h) (s'.lk h)&&aO5 s s' r)=true:=e;rw[μ]at e;intro x hx;rcases cq.1 hx with rfl|hx
  ·rw[aP,aP];exact aWh e.1
  ·exact aKp e.2 x hx
def xhd:XV->Option Hd
 |.apt h _=>some h
 |.asl h _ _=>some h
 |.rpt h _=>some h
 |.rpa h _ _=>some h
 |.rsl h _ _ _=>some h
 |.ptr h _=>some h
 |.pa h _ _=>some h
 |.ept h _ _ _=>some h
 |.epa h _ _ _ _=>some h
 |.slw h _ _=>some h
 |.sl h _ _ _=>some h
 |_=>none
theorem aC7[YL](e:xhd v=some h):v.er.hd?=some h:=by unfold xhd at e;split at e<;>first|exact e|cases e
def ldX(hs:List Hd)(s:XS)(op:ROp):Bool:=match op.sArg with
 |none=>true
 |some x=>match xhd (s.ev x)with
  |some h=>hin h hs
  |none=>noG x
theorem aVr[YL](e:xhd v=none):v.er.hd?=none:=by
 cases v<;>first|rfl|(cases e;done)|skip
 rename_i t x;cases t<;>rfl
theorem aM4[YL]{op:ROp}(h:ldX hs s op=true):aUc hs op s.er.ev:=by
 unfold ldX at h;unfold aUc;split at h
 ·rename_i e;rw[e];trivial
 ·rename_i x e;rw[e];split at h
  ·rename_i hd hx;intro h' e';rw[aBn s rfl,aC7 hx]at e';cases e';exact qO.1 h
  ·rename_i hx;intro h' e';rw[aBn s rfl,aVr hx]at e';cases e'
def aHg(s:XS)(x:Operand)(K:List Hd):List Hd:=match xhd (s.ev x)with
 |some h=>match hin h K with
  |true=>K
  |false=>h::K
 |none=>K
def aM0:List XV->Nat->Option XV
 |[],_=>none
 |v::_,0=>some v
 |.d t _::r,off+1=>match j2 t.n (off+1)with
  |true=>aM0 r (off+1-t.n)
  |false=>none
 |_::r,off+1=>aM0 r off
def ldP(s:XS)(ag:Option Nat)(dst:Option Nat)(x:Operand):XS:=match ag,s.ev x with
 |none,.ptr h off=>match s.lk h with
  |some (.box cs)=>match aM0 cs off with
   |some v=>s.put dst v [] []
   |none=>s
  |_=>s
 |_,_=>s
def tX(s:XS):List XRO->List Hd
 |[]=>[]
 |o::r=>match o.ro.op with
  |.mv x=>tX (s.put o.ro.dst (s.ev x) [] []) r
  |.nilcS x=>aHg s x (tX (s.put o.ro.dst (s.ev x) [] []) r)
  |.loadS ag x=>aHg s x (tX (ldP s ag o.ro.dst x) r)
  |.faddrS _ x=>aHg s x (tX (s.put o.ro.dst (s.ev x) [] []) r)
  |.iaddr _ x _=>tX (s.put o.ro.dst (s.ev x) [] []) r
  |.faddr _ x=>tX (s.put o.ro.dst (s.ev x) [] []) r
  |.iaddrA _ _ x _=>tX (s.put o.ro.dst (s.ev x) [] []) r
  |op=>match op.sArg with
   |some x=>aHg s x (tX s r)
   |none=>tX s r
def aY0(v w:XV)(K:Option R):Option R:=match v,w with
 |.d t x,.d t' y=>match t'.cst t y with
  |some y=>gd? (x=y) K
  |none=>none
 |.slw h t n,.slw h' t' n'=>match h.eqb h',t.beq t' with
  |true,true=>gd? (n=n') K
  |_,_=>none
 |.ptr h o,.ptr h' o'=>match h.eqb h',χ o o' with
  |true,true=>K
  |_,_=>none
 |.apt h o,.apt h' o'=>match h.eqb h',χ o o' with
  |true,true=>K
  |_,_=>none
 |.rpt h o,.rpt h' o'=>match h.eqb h',χ o o' with
  |true,true=>K
  |_,_=>none
 |.mref h,.mref h'=>match h.eqb h' with
  |true=>K
  |false=>none
 |.fln _,.fln _=>K
 |.nl _,.nl _=>K
 |.sc,.sc=>K
 |.c x,.c y=>match cEq x y with
  |true=>K
  |false=>none
 |_,_=>none
theorem aPy[YL]{w:XV}{K:Option R}{r:R}(h:aY0 v w K=some r):(v.fc=w.fc/\v.er=w.er)/\K=some r:=by
 unfold aY0 at h;split at h
 ·split at h
  ·rename_i y hy;obtain⟨e,rfl⟩:=Ty.cst_ok hy;subst e;obtain⟨rfl,h⟩:=aS h;exact⟨⟨rfl,rfl⟩,by assumption⟩
  ·cases h
 ·split at h
  ·rename_i h1 h2;obtain rfl:=Hd.eqb_iff.1 h1;obtain rfl:=Ty.eq_of h2
   replace h:=aS h
   obtain⟨e,h⟩:=h;subst e;exact⟨⟨rfl,rfl⟩,h⟩
  ·cases h
 ·split at h
  ·rename_i h1 h2;obtain rfl:=Hd.eqb_iff.1 h1;obtain rfl:=η h2;exact⟨⟨rfl,rfl⟩,h⟩
  ·cases h
 ·split at h
  ·rename_i h1 h2;obtain rfl:=Hd.eqb_iff.1 h1;obtain rfl:=η h2;exact⟨⟨rfl,rfl⟩,h⟩
  ·cases h
 ·split at h
  ·rename_i h1 h2;obtain rfl:=Hd.eqb_iff.1 h1;obtain rfl:=η h2;exact⟨⟨rfl,rfl⟩,h⟩
  ·cases h
 ·split at h
  ·rename_i h1;obtain rfl:=Hd.eqb_iff.1 h1;exact⟨⟨rfl,rfl⟩,h⟩
  ·cases h
 ·exact⟨⟨rfl,rfl⟩,h⟩
 ·exact⟨⟨rfl,rfl⟩,h⟩
 ·exact⟨⟨rfl,rfl⟩,h⟩
 ·split at h
  ·rename_i h1;obtain rfl:=aUk h1;exact⟨⟨rfl,rfl⟩,h⟩
  ·cases h
 ·cases h
def aPe:List XV->List XV->Option R->Option R
 |[],[],K=>K
 |v::vs,w::ws,K=>aY0 v w (aPe vs ws K)
 |_,_,_=>none
theorem aJ7[YL]{r:R}:∀{vs ws:List XV} {K:Option R},aPe vs ws K=some r->XV.erL vs=XV.erL ws/\K=some r
 |[],[],_,h=>⟨rfl,h⟩
 |v::vs,w::ws,K,h=>by
  obtain⟨⟨_,e⟩,h⟩:=aPy (K:=aPe vs ws K) h;obtain⟨e2,h⟩:=aJ7 h;exact⟨by show v.er::XV.erL vs=w.er::XV.erL ws;rw[e,e2],h⟩
 |[],_::_,_,h=>by cases h
 |_::_,[],_,h=>by cases h
def eqX(v w:XV)(K:Option R):Option R:=match v,w with
 |.clo f vs,.clo f' ws=>match χ f f' with
  |true=>aPe vs ws K
  |false=>none
 |v,w=>aY0 v w K
theorem bC7[YL]{w:XV}{K:Option R}{r:R}(h:eqX v w K=some r):v.fc=w.fc/\K=some r:=by
 unfold eqX at h;split at h
 ·split at h
  ·rename_i hf;obtain rfl:=η hf;obtain⟨e,h⟩:=aJ7 h;exact⟨by show[AV.clo _ (XV.erL _)]=[AV.clo _ (XV.erL _)];rw[e],h⟩
  ·cases h
 ·obtain⟨⟨e,_⟩,h⟩:=aPy h;exact⟨e,h⟩
def aWy:List XV->List XV->Option R->Option R
 |[],[],K=>K
 |v::vs,w::ws,K=>eqX v w (aWy vs ws K)
 |_,_,_=>none
theorem aO3[YL]{r:R}:∀{vs ws:List XV} {K:Option R},aWy vs ws K=some r->XV.fcL vs=XV.fcL ws/\K=some r
 |[],[],_,h=>⟨rfl,h⟩
 |v::vs,w::ws,K,h=>by
  obtain⟨e,h⟩:=bC7 (K:=aWy vs ws K) h;obtain⟨e2,h⟩:=aO3 h;exact⟨by show v.fc++XV.fcL vs=w.fc++XV.fcL ws;rw[e,e2],h⟩
 |[],_::_,_,h=>by cases h
 |_::_,[],_,h=>by cases h
def bC9(b c:Option XB)(K:Option R):Option R:=match b,c with
 |some (.box vs),some (.box ws)=>aWy vs ws K
 |some (.row mt t xs),some (.row mt' t' ys)=>match mt==mt',(Ty.sl t').cst (.sl t) ys with
  |true,some ys=>gd? (xs=ys) K
  |_,_=>none
 |some (.arr mt n k x),some (.arr mt' n' k' y)=>match mt==mt',(Ty.ar n' k').cst (.ar n k) y with
  |true,some y=>gd? (x=y) K
  |_,_=>none
 |some (.rb mt t x),some (.rb mt' t' y)=>match mt==mt',t'.cst t y with
  |true,some y=>gd? (x=y) K
  |_,_=>none
 |_,_=>none
theorem aXm[YL]{c:Option XB}{K:Option R}{r:R}(h:bC9 b c K=some r):b.map XB.er=c.map XB.er/\K=some r:=by
 unfold bC9 at h;split at h
 ·obtain⟨e,h⟩:=aO3 h;exact⟨congrArg (fun l=>some (Blk.box l)) e,h⟩
 ·split at h
  ·rename_i ys h1 hy;obtain⟨e,hy⟩:=Ty.cst_ok hy;cases e;cases hy
   replace h:=aS h
   obtain⟨e,h⟩:=h;cases e;exact⟨by rw[eq_of_beq h1],h⟩
  ·cases h
 ·split at h
  ·rename_i y h1 hy;obtain⟨e,hy⟩:=Ty.cst_ok hy;cases e;cases hy
   replace h:=aS h
   obtain⟨e,h⟩:=h;cases e;exact⟨by rw[eq_of_beq h1],h⟩
  ·cases h
 ·split at h
  ·rename_i y h1 hy;obtain⟨e,hy⟩:=Ty.cst_ok hy;subst e;cases hy
   replace h:=aS h
   obtain⟨e,h⟩:=h;cases e;exact⟨by rw[eq_of_beq h1],h⟩
  ·cases h
 ·cases h
def aJh(s s':XS):List Hd->Option R->Option R
 |[],K=>K
 |h::r,K=>bC9 (s.lk h) (s'.lk h) (aJh s s' r K)
theorem aGs[YL]{s s':XS}{r:R}:∀{hs:List Hd} {K:Option R},aJh s s' hs K=some r->aGt true hs s.er s'.er/\K=some r
 |[],_,h=>⟨fun _ h=>(by cases h),h⟩
 |x::hs,K,h=>by
  obtain⟨e,h⟩:=aXm (K:=aJh s s' hs K) h;obtain⟨e2,h⟩:=aGs h;refine⟨fun y hy=>?_,h⟩;rcases cq.1 hy with rfl|hy
  ·show s'.er.lk y=s.er.lk y;rw[aP,aP,e]
  ·exact e2 y hy
def aTq(ld:Bool)(s s':XS)(hs:List Hd)(K:Option R):Option R:=match ld with
 |true=>aJh s s' hs K
 |false=>match aO5 s s' hs with
  |true=>K
  |false=>none
theorem aS4[YL]{ld:Bool}{K:Option R}{r:R}(h:aTq ld s s' hs K=some r):aGt ld hs s.er s'.er/\K=some r:=by
 unfold aTq at h;split at h
 ·exact aGs h
 ·split at h
  ·rename_i e;exact⟨aKp e,h⟩
  ·cases h
def yB(s:XS)(o:XRO)(K:XS->Option R):Option R:=match o.ro.op with
 |.loadS ag x=>w1 s x fun v=>match xhd v with
  |some _=>aPg s ag (fun a=>K (s.put o.ro.dst a [] [])) v
  |none=>none
 |.faddrS off x=>w1 s x fun v=>match xhd v,rL s v with
  |some _,true=>aHt off (fun a=>K (s.put o.ro.dst a [] [])) v
  |_,_=>none
 |.lenS str x=>w1 s x fun v=>match xhd v,rL s v,aSt str v with
  |some _,true,some m=>K (s.put o.ro.dst (.d (.i .i64) (m:Int)) [] [])
  |_,_,_=>none
 |.nilcS x=>w1 s x fun v=>match xhd v,rL s v with
  |some _,true=>aO9 (fun a=>K (s.put o.ro.dst a [] [])) v
  |_,_=>none
 |_=>none
theorem aCs(s:XS)(dst:Option Nat)(v:XV)(h:Hd):(s.put dst v [] []).lk h=s.lk h:=by
 cases h with
 |B i=>rfl
 |O i=>show bB (s.own++[]) i=bB s.own i;rw[bj]
theorem wZ[YL]{o:XRO}{K:XS->Option R}{r:R}(h:yB s o K=some r)(hK:∀s',(∀h,s'.lk h=s.lk h)->K s'=some r->KP s'.er):mH P s.er o.ro KP:=by
 have hput:∀v,K (s.put o.ro.dst v [] [])=some r->KP (s.er.put o.ro.dst v.er [] []):=fun v h=>by have:=hK _ (aCs s _ v) h;rw[cU]at this;exact this
 unfold yB at h;split at h
 ·rename_i ag x e;obtain⟨h,e1⟩:=aN h;split at h
  ·rename_i hd hh;unfold mH;rw[e];show(s.er.ev x).hd?.isSome=true/\lQ s.er.lk ag _ (s.er.ev x);rw[e1,aC7 hh];exact⟨rfl,aFm h fun v h=>hput v h⟩
  ·cases h
 ·rename_i off x e;obtain⟨h,e1⟩:=aN h;split at h
  ·rename_i hd hh hl;unfold mH;rw[e];show(s.er.ev x).hd?.isSome=true/\AV.live s.er.lk (s.er.ev x)=true/\_;rw[e1,aC7 hh];exact⟨rfl,gN hl,aG3 h (KP:=fun a=>KP (s.er.put o.ro.dst a [] [])) fun v h=>hput v h⟩
  ·cases h
 ·rename_i str x e;obtain⟨h,e1⟩:=aN h;split at h
  ·rename_i hd m hh hl hm;unfold mH;rw[e];show(s.er.ev x).hd?.isSome=true/\AV.live s.er.lk (s.er.ev x)=true/\_;rw[e1,aC7 hh];exact⟨rfl,gN hl,m,aI5 hm,hput _ h⟩
  ·cases h
 ·rename_i x e;obtain⟨h,e1⟩:=aN h;split at h
  ·rename_i hd hh hl;unfold mH;rw[e];show(s.er.ev x).hd?.isSome=true/\AV.live s.er.lk (s.er.ev x)=true/\_;rw[e1,aC7 hh];exact⟨rfl,gN hl,aKi h (KP:=fun a=>KP (s.er.put o.ro.dst a [] [])) fun v h=>hput v h⟩
  ·cases h
 ·cases h
def aN2(s:XS)(o:XRO)(K:XS->Option R):Option R:=match o.ro.guard with
 |none=>yB s o K
 |some (t,want)=>match cN s.env t with
  |.d .b c=>match want with
   |true=>if? c (yB (lV s t true) o K) (K ((lV s t false).put o.ro.dst .un [] []))
   |false=>if? c (K ((lV s t true).put o.ro.dst .un [] [])) (yB (lV s t false) o K)
  |.un=>K (s.put o.ro.dst .un [] [])
  |_=>none
theorem aRb[YL]{o:XRO}{K:XS->Option R}{r:R}(h:aN2 s o K=some r)(hK:∀s',(∀h,s'.lk h=s.lk h)->K s'=some r->KP s'.er):iL P [o.ro] s.er KP:=by
 unfold aN2 at h;unfold iL;split at h
 ·rename_i hg;rw[hg];exact wZ h hK
 ·rename_i t want hg;rw[hg];split at h
  ·rename_i c hc;have ht:s.er.env t=.D (.B c):=by show(cN s.env t).er=_;rw[hc];rfl
   show match s.er.env t with
    |.D (.B c)=>(c=want->_)/\(¬c=want->_)
    |.D (.C (.tuple _))=>_
    |_=>False
   rw[ht];split at h
   ·rcases aHx h with⟨e,h⟩|⟨e,h⟩
    ·have:=wZ (P:=P) h fun s' e=>hK s' e;rw[iB hc e]at this;exact⟨fun _=>this,fun h=>absurd e h⟩
    ·have:=hK _ (fun x=>aCs (lV s t false) _ _ x) h;rw[cU,iB hc e]at this;exact⟨fun h=>c6 (e.symm.trans h),fun _=>this⟩
   ·rcases aHx h with⟨e,h⟩|⟨e,h⟩
    ·have:=hK _ (fun x=>aCs (lV s t true) _ _ x) h;rw[cU,iB hc e]at this;exact⟨fun h=>c6 (e.symm.trans h),fun _=>this⟩
    ·have:=wZ (P:=P) h fun s' e=>hK s' e;rw[iB hc e]at this;exact⟨fun _=>this,fun h=>absurd e h⟩
  ·rename_i hc;have ht:s.er.env t=.D (.C undef):=by show(cN s.env t).er=_;rw[hc];rfl
   show match s.er.env t with
    |.D (.B c)=>(c=want->_)/\(¬c=want->_)
    |.D (.C (.tuple _))=>_
    |_=>False
   rw[ht];have:=hK _ (fun x=>aCs s _ _ x) h;rw[cU]at this;exact this
  ·cases h
def bE8:ROp->Bool
 |.loadS _ _=>true
 |.faddrS _ _=>true
 |.nilcS _=>true
 |.lenS _ _=>true
 |_=>false
def aO0:Bool->List XRO->Bool
 |true,[]=>true
 |_,_=>false
theorem aT5{l:Bool}{os:List XRO}(h:aO0 l os=true):¬(l=false\/os.map XRO.ro≠[]):=by
 unfold aO0 at h;split at h
 ·simp
 ·cases h
def aG5(T:List Sig)(ld:Bool)(hs:List Hd)(lst:Bool):List XRO->XS->(XS->Option R)->Option R
 |[],s,K=>K s
 |o::r,s,K=>match ldX hs s o.ro.op with
  |true=>match bE8 o.ro.op with
   |true=>aN2 s o fun s'=>aG5 T ld hs lst r s' K
   |false=>match o.ro.op.ht,aO0 lst r with
    |true,false=>yL T [o] s fun s'=>aTq ld s s' hs (aG5 T ld hs lst r s' K)
    |_,_=>yL T [o] s fun s'=>aG5 T ld hs lst r s' K
  |false=>none
theorem zM[YL]{P:Program}{T:List Sig}(hT:gQ P T){ld:Bool}{hs:List Hd}{lst:Bool}{r:R}:∀{os:List XRO} {s:XS} {K:XS->Option R},aG5 T ld hs lst os s K=some r->∀{KP:AState->Prop},(∀s',K s'=some r->KP s'.er)->aO7 P ld hs lst (os.map XRO.ro) s.er KP
 |[],s,K,h,KP,hK=>hK _ h
 |o::os,s,K,h,KP,hK=>by
  unfold aG5 at h;split at h
  ·rename_i e;split at h
   ·refine⟨aM4 e,aRb h fun s' e2 h=>⟨fun _ _ x hx=>?_,zM hT h hK⟩⟩;rw[aP,aP,e2];exact keepB.refl _ _
   ·split at h
    ·refine⟨aM4 e,iT (os:=[o]) hT h fun s' h=>?_⟩;obtain⟨e2,h⟩:=aS4 h;exact⟨fun _ _=>e2,zM hT h hK⟩
    ·rename_i hn;refine⟨aM4 e,iT (os:=[o]) hT h fun s' h=>⟨fun e1 e2=>?_,zM hT h hK⟩⟩;cases e3:aO0 lst os with
     |true=>exact absurd e2 (aT5 e3)
     |false=>exact absurd e3 (hn e1)
  ·cases h
theorem AV.flat_renE{ψ:Hd->Hd}:∀(a:AV),AV.flat (AV.ren ψ a)=AV.flat a:=by
 intro a;apply AV.rec (motive_1:=fun a=>AV.flat (AV.ren ψ a)=AV.flat a) (motive_2:=fun as=>AV.flatL (AV.renL ψ as)=AV.flatL as)
 all_goals intros
 all_goals simp_all[AV.flat,AV.ren,AV.flatL,AV.renL]
def aFi(T:List Sig)(dr:Bool):List XRO->XS->(XS->Option R)->(Value->XS->Option R)->Option R
 |[],s,K,_=>K s
 |o::r,s,K,Kp=>match o.ro.op with
  |.callP f args=>match o.ro.guard with
   |none=>w1 s f fun vf=>wL s args fun vs=>aMi T s vs (fun v nbs fz=>match dr,flX v,nbs with
    |false,_,_=>aFi T dr r (s.put o.ro.dst v nbs fz) K Kp
    |true,true,[]=>aFi T dr r (s.put o.ro.dst v nbs fz) K Kp
    |true,_,_=>none) (fun pv=>Kp pv (s.put none .any [] [])) vf
   |some _=>none
  |.pan x=>match o.ro.guard with
   |none=>w1 s x fun v=>match v with
    |.c (.iface t u)=>Kp (.iface t u) s
    |_=>none
   |some _=>none
  |_=>yL T [o] s fun s'=>aFi T dr r s' K Kp
theorem uV[YL]{P:Program}{T:List Sig}(hT:gQ P T){dr:Bool}{r:R}{Pn:Value->AState->Prop}:∀{os:List XRO} {s:XS} {K:XS->Option R} {Kp:Value->XS->Option R},aFi T dr os s K Kp=some r->∀{KP:AState->Prop},(∀s',K s'=some r->KP s'.er)->(∀pv s',Kp pv s'=some r->Pn pv s'.er)->nP P dr (os.map XRO.ro) s.er KP Pn
 |[],s,K,_,h,KP,hK,_=>hK _ h
 |o::os,s,K,Kp,h,KP,hK,hP=>by
  unfold aFi at h;show nP P dr (o.ro::os.map XRO.ro) s.er KP Pn;unfold nP;split at h
  ·rename_i f args e;rw[e];split at h
   ·rename_i hg;refine⟨hg,?_⟩;obtain⟨h,e1⟩:=aN h;obtain⟨vs,h,e2⟩:=aB3 h;obtain⟨fn,caps,h1,h2⟩:=aQw hT h (KP:=fun a nbs fz=>(dr=true->AV.flat a=true/\nbs=[])/\nP P dr (os.map XRO.ro) (s.er.put o.ro.dst a nbs fz) KP Pn) fun v nbs fz h=>by
     rw[<-cU];split at h
     ·exact⟨fun h=>c6 h,uV hT h hK hP⟩
     ·exact⟨fun _=>⟨(aNu v).trans (by assumption),rfl⟩,uV hT h hK hP⟩
     ·cases h
    refine⟨fn,caps,e1.trans h1,?_⟩;rw[e2];rcases h2 with⟨rr,nbs,h2,h3,h4⟩|⟨pv,h2,h3⟩
    ·exact .inl ⟨rr,nbs,fun hd=>by
      obtain⟨a1,a2⟩:=h3 hd;rw[AV.flat_renE]at a1;exact⟨a1,jo.1 a2⟩,h2,h4⟩
    ·refine .inr ⟨pv,h2,?_⟩;have:=hP _ _ h3;rw[cU]at this;exact this
   ·cases h
  ·rename_i x e;rw[e];split at h
   ·rename_i hg;refine⟨hg,?_⟩;obtain⟨h,e1⟩:=aN h;split at h
    ·rename_i t u hv;rw[hv]at e1;exact⟨t,u,e1,hP _ _ h⟩
    ·cases h
   ·cases h
  ·rename_i n1 n2;split
   ·rename_i f args e;exact absurd e (n1 f args)
   ·rename_i x e;exact absurd e (n2 x)
   ·exact iT (os:=[o]) hT h fun s' h=>uV hT h hK hP
def aOn:List XRO->XS->XS
 |[],s=>s
 |o::os,s=>aOn os (s.put o.ro.dst .any [] [])
theorem aK8[YL]:∀(os:List XRO) (s:XS),(aOn os s).er=wM (os.map XRO.ro) s.er
 |[],_=>rfl
 |o::os,s=>by show(aOn os _).er=wM (os.map XRO.ro) (s.er.put o.ro.dst .any [] []);rw[aK8 os,cU];rfl
end
section
variable{R:Type}
end
section
variable{R:Type}
instance rtyDeq:(ts:List Ty)->DecidableEq (rty ts)
 |[]=>inferInstanceAs (DecidableEq Unit)
 |[t]=>t.deq
 |t::t2::ts=>@instDecidableEqProd _ _ t.deq (rtyDeq (t2::ts))
instance rtDeq:(l:List XS)->DecidableEq (RT l)
 |[]=>inferInstanceAs (DecidableEq Unit)
 |[m]=>rtyDeq m.tys
 |m::m2::l=>@instDecidableEqSum _ _ (rtyDeq m.tys) (rtDeq (m2::l))
inductive XC where
 |skip
 |reg (dr:Bool) (os:List XRO)
 |regS (lst:Bool) (os:List XRO)
 |regP (os:List XRO)
 |regDP (os:List XRO)
 |regN (os:List XRO)
 |regM (os:List XRO) (x:MA)
 |seq (a b:XC)
 |join (pure:Bool) (m:XS) (a b:XC)
 |cond (c:Operand) (a b:XC)
 |block (id:Nat) (b:XC)
 |loop (m:XS) (b:XC)
 |exit (id:Nat)
 |scope (b:XC)
 |ret
 |regY (os:List XRO)
 |rangeF (N0:Nat) (g:Operand) (ps:Array Tmp) (ca cb:Code) (f N2:Nat) (a b it:XC)
 |bad (rc:RCode)
def XC.rc:XC->RCode
 |.skip=>.skip
 |.reg dr os=>.reg dr (os.map XRO.ro)
 |.regS lst os=>.regS lst (os.map XRO.ro)
 |.regP os=>.regP (os.map XRO.ro)
 |.regDP os=>.regDP (os.map XRO.ro)
 |.regN os=>.regN (os.map XRO.ro)
 |.regM os x=>.regM (os.map XRO.ro) x
 |.seq a b=>.seq a.rc (.wkr b.rc)
 |.join _ _ a b=>.seq a.rc (.wkr b.rc)
 |.cond c a b=>.cond c a.rc b.rc
 |.block id b=>.block id b.rc
 |.loop _ b=>.loop b.rc
 |.exit id=>.exit id
 |.scope b=>.scope b.rc
 |.ret=>.ret
 |.regY os=>.regY (os.map XRO.ro)
 |.rangeF N0 g ps ca cb _ _ _ _ _=>.sem N0 (.rangeFunc g ps ca cb)
 |.bad rc=>rc
def XC.Wf(P:Program):XC->Prop
 |.seq a b=>a.Wf P/\b.Wf P
 |.join _ _ a b=>a.Wf P/\b.Wf P
 |.cond _ a b=>a.Wf P/\b.Wf P
 |.block _ b=>b.Wf P
 |.loop _ b=>b.Wf P
 |.scope b=>b.Wf P
 | .rangeF N0 g _ ca cb f N2 a b it => (∃ fl flB fn c2, P.funcs[f]? = some fn /\ fn.body = some c2 /\ (fn.name == "runtime.NumGoroutine") = false /\ P.follows .mixedOrders = true /\ aE P fl N2 c2 = some it.rc /\ aE P flB N0 ca = some a.rc /\ aE P flB N0 cb = some b.rc /\
   fn.results=#[]/\g.inN N0=true/\fn.ntmps=N2)/\a.Wf P/\b.Wf P/\it.Wf P
 |_=>True
def aQd(f:XS->Option R)(K:Exit->XS->Option R):Exit->XS->Option R
 |.normal,s=>f s
 |e,s=>K e s
def aNh(id:Nat)(K:Exit->XS->Option R):Exit->XS->Option R
 |.exit i,s=>match χ i id with
  |true=>K .normal s
  |false=>K (.exit i) s
 |e,s=>K e s
def aTg(K:Exit->XS->Option R):Exit->XS->Option R
 |.goto _,_=>none
 |e,s=>K e s
def jN{α β:Type}(a:Option β):Option (β⊕α):=match a with
 |some r=>some (.inl r)
 |none=>none
def jn?{α β:Type}(a:Option (β⊕α))(f:α->Option β):Option β:=match a with
 |some (.inl r)=>some r
 |some (.inr x)=>f x
 |none=>none
theorem aZ2{β:Type}{a:Option β}{r:β⊕α}(h:jN a=some r):∃x,a=some x/\r=.inl x:=by
 unfold jN at h;split at h
 ·cases h;exact⟨_,rfl,rfl⟩
 ·cases h
theorem bGu{β:Type}{a:Option (β⊕α)}{f:α->Option β}{r:β}(h:jn? a f=some r):a=some (.inl r)\/∃x,a=some (.inr x)/\f x=some r:=by
 unfold jn? at h;split at h
 ·cases h;exact .inl rfl
 ·exact .inr ⟨_,rfl,h⟩
 ·cases h
def aZ4(m:XS)(K:Exit->XS->Option R):Exit->XS->Option (R⊕rty m.tys)
 |.normal,s=>rd m s fun v=>some (.inr (toR m.tys v))
 |e,s=>jN (K e s)
def aUv(m:XS):Exit->XS->Option (rty m.tys)
 |.normal,s=>rd m s fun v=>some (toR m.tys v)
 |_,_=>none
def bAz(s:XS)(c:Operand)(q:Bool):XS:=match c with
 |.tmp t=>lV s t q
 |_=>s
def cF(ts:List Ty)(f:fty ts R->fty ts R):Nat->fty ts R
 |0=>cuN ts
 |n+1=>f (cF ts f n)
where cuN (ts:List Ty):fty ts R:=cuF ts fun _=>none
theorem bBx(ts:List Ty)(v:tup ts):apF ts (cF.cuN (R:=R) ts) v=none:=by show apF ts (cuF ts _) v=none;rw[cR]
structure YX where
 plain:Bool
 f:{R:Type}->[DecidableEq R]->List XV->XS->(Bool->XS->Option R)->Option R
def noX:YX:=⟨true,fun _ _ _=>none⟩
def pB:YX:=⟨false,fun _ _ _=>none⟩
def aTd(s:XS)(o:XRO):Option (List XV):=match o.ro.op with
 |.callE f args=>match s.ev f with
  |.yld=>some (args.map s.ev)
  |_=>none
 |_=>none
def rW[DecidableEq R](T:List Sig)(Y:YX):List XRO->XS->(XS->Option R)->Option R
 |[],s,K=>K s
 |o::r,s,K=>match aTd s o with
  |none=>yL T [o] s fun s'=>rW T Y r s' K
  |some args=>match o.ro.guard with
   |none=>Y.f args s fun c s'=>rW T Y r (s'.put o.ro.dst (.d .b c) [] []) K
   |some (t,want)=>match cN s.env t with
    |.d .b x=>match want with
     |true=>if? x (Y.f args s fun c s'=>rW T Y r (s'.put o.ro.dst (.d .b c) [] []) K) (rW T Y r (s.put o.ro.dst .un [] []) K)
     |false=>if? x (rW T Y r (s.put o.ro.dst .un [] []) K) (Y.f args s fun c s'=>rW T Y r (s'.put o.ro.dst (.d .b c) [] []) K)
    |.un=>rW T Y r (s.put o.ro.dst .un [] []) K
    |_=>none
mutual
def XV.cln:XV->Bool
 |.yld=>false
 |.agg cs=>XV.clnL cs
 |.tup cs=>XV.clnL cs
 |.clo _ cs=>XV.clnL cs
 |_=>true
def XV.clnL:List XV->Bool
 |[]=>true
 |v::r=>v.cln&&XV.clnL r
end
def XB.cln:XB->Bool
 |.box cs=>XV.clnL cs
 |_=>true
def bD2:List (Nat×XV)->Bool
 |[]=>true
 |(_,v)::r=>v.cln&&bD2 r
def aXw:List (Option XB)->Bool
 |[]=>true
 |none::r=>aXw r
 |some b::r=>b.cln&&aXw r
def XS.cln(s:XS):Bool:=bD2 s.env&&aXw s.bs&&aXw s.own
def bBq(n:Nat):List (Nat×XV)->List (Nat×XV)
 |[]=>[]
 |(k,v)::r=>match j2 n k with
  |true=>(k-n,v)::bBq n r
  |false=>bBq n r
def ltE(n:Nat):List (Nat×XV)->List (Nat×XV)
 |[]=>[]
 |(k,v)::r=>match Nat.blt k n with
  |true=>(k,v)::ltE n r
  |false=>ltE n r
def noE(n:Nat):List (Nat×XV)->List (Nat×XV)
 |[]=>[]
 |(k,v)::r=>match χ k n with
  |true=>noE n r
  |false=>(k,v)::noE n r
def aJa(N0 N2:Nat)(s:XS):XS:={s with env:=noE N0 (bBq (N2+1) s.env)}
def bHi(N0 N2:Nat)(K:Exit->XS->Option R)(s:XS):Option R:=match(aJa N0 N2 s).cln,cN s.env N2 with
 |true,.gst .go=>K .normal (aJa N0 N2 s)
 |true,.gst (.exit id)=>K (.exit id) (aJa N0 N2 s)
 |true,.gst .ret=>K .ret (aJa N0 N2 s)
 |_,_=>none
def dU(N:Nat)(T:List Sig):XC->YX->{R:Type}->[DecidableEq R]->XS->(Exit->XS->Option R)->Option R
 |.skip,_,_,_,s,K=>K .normal s
 |.reg _ os,_,_,_,s,K=>yL T os s (K .normal)
 |.regP os,_,_,_,s,K=>aFi T false os s (K .normal) fun v s'=>K (.panic [{v:=v,recovered:=false}]) s'
 |.regDP os,_,_,_,s,K=>aFi T true os s (K .normal) fun v s'=>K (.panic [{v:=v,recovered:=false}]) (aOn os s')
 |.regS lst os,_,_,_,s,K=>aG5 T (aVh (os.map XRO.ro)) (tX s os) lst os s (K .normal)
 |.regN _,_,_,_,_,_=>none
 |.regM _ _,_,_,_,_,_=>none
 |.regY os,Y,_,_,s,K=>rW T Y os s (K .normal)
 |.rangeF ..,_,_,_,_,_=>none
 |.seq a b,Y,_,_,s,K=>dU N T a Y s (aQd (fun s'=>dU N T b Y s' K) K)
 |.join true m a b,Y,_,_,s,K=>bd? (dU N T a Y (R:=rty m.tys) s (aUv m)) fun v=>dU N T b Y (m.fill (ofR m.tys v)) K
 |.join false m a b,Y,R,_,s,K=>jn? (dU N T a Y (R:=R⊕rty m.tys) s (aZ4 m K)) fun v=>dU N T b Y (m.fill (ofR m.tys v)) K
 |.cond c a b,Y,_,_,s,K=>w1 s c fun v=>match v with
  |.d .b x=>if? x (dU N T a Y (bAz s c true) K) (dU N T b Y (bAz s c false) K)
  |.ab=>ab? (dU N T a Y s K) (dU N T b Y s K)
  |_=>none
 |.block id b,Y,_,_,s,K=>dU N T b Y s (aNh id K)
 |.loop m b,Y,_,_,s,K=>rd m s fun v=>apF m.tys (cF m.tys (fun rec=>cuF m.tys fun v=>dU N T b Y (m.fill v) (aQd (fun s'=>rd m s' (apF m.tys rec)) K)) N) v
 |.exit id,_,_,_,s,K=>K (.exit id) s
 |.scope b,Y,_,_,s,K=>dU N T b Y s (aTg K)
 |.ret,_,_,_,s,K=>K .ret s
 |.bad _,_,_,_,_,_=>none
theorem aPu[YL]{c:Operand}{x:Bool}(h:s.ev c=.d .b x)(e:x=q):(bAz s c q).er=s.er:=by
 cases c with
 |tmp t=>exact iB h e
 |_=>rfl
theorem bC4[YL]{l:Nat}(h:v.er=.yld l):v=.yld:=by
 cases v with
 |yld=>rfl
 |d t x=>exfalso;cases t<;>cases h
 |_=>exfalso;cases h
theorem bCf[YL]{o:XRO}{args:List XV}(h:aTd s o=some args):yst s.er o.ro=some (YL.l,XV.erL args):=by
 unfold aTd at h;unfold yst;split at h
 ·rename_i f as e;rw[e];show(match s.er.ev f with|.yld l=>some (l,as.map s.er.ev)|_=>none)=_;split at h
  ·rename_i e2;cases h;have:s.er.ev f=.yld YL.l:=by rw[aBn s rfl,e2];rfl
   rw[this];show some (YL.l,as.map s.er.ev)=_;congr 2
   induction as with
   |nil=>rfl
   |cons a as ih=>
    show s.er.ev a::as.map s.er.ev=(s.ev a).er::XV.erL (as.map s.ev);rw[aBn s rfl];congr 1;clear e ih this
    induction as with
    |nil=>rfl
    |cons b as ih=>
     show s.er.ev b::as.map s.er.ev=(s.ev b).er::XV.erL (as.map s.ev);rw[aBn s rfl,ih]
  ·cases h
 ·cases h
theorem bAw[YL]{o:XRO}(h:aTd s o=none):yst s.er o.ro=none:=by
 unfold aTd at h;unfold yst;split
 ·rename_i f as e;rw[e]at h;simp only at h;split
  ·rename_i l e2;rw[aBn s rfl]at e2;rw[bC4 e2]at h;cases h
  ·rfl
 ·rfl
def YRel[YL](Yx:YX)(Y:Yh):Prop:=(Yx.plain=true->Y.plain=true)/\∀{R:Type} [DecidableEq R] {r:R} {args:List XV} {s:XS} {K:Bool->XS->Option R},Yx.f args s K=some r->∀{KP:Bool->AState->Prop},(∀c s',K c s'=some r->KP c s'.er)->Y.f YL.l (XV.erL args) s.er KP
theorem YRel.no[YL]:YRel noX noY:=⟨fun h=>h,fun h=>by cases h⟩
theorem YRel.body[YL]:YRel pB iN:=⟨fun h=>h,fun h=>by cases h⟩
theorem yC[YL]{P:Program}{T:List Sig}(hT:gQ P T){Yx:YX}{Y:Yh}(hY:YRel Yx Y)[DecidableEq R]{r:R}:∀{os:List XRO} {s:XS} {K:XS->Option R},rW T Yx os s K=some r->∀{KP:AState->Prop},(∀s',K s'=some r->KP s'.er)->nB P Y (os.map XRO.ro) s.er KP
 |[],s,K,h,KP,hK=>hK _ h
 |o::os,s,K,h,KP,hK=>by
  unfold rW at h;show nB P Y (o.ro::os.map XRO.ro) s.er KP;unfold nB;split at h
  ·rename_i e;rw[bAw e];exact iT (os:=[o]) hT h fun s' h=>yC hT hY h hK
  ·rename_i args e;rw[bCf e];have go:∀{h0:Unit},(Yx.f args s fun c s'=>rW T Yx os (s'.put o.ro.dst (.d .b c) [] []) K)=some r->Y.f YL.l (XV.erL args) s.er fun c s'=>nB P Y (os.map XRO.ro) (s'.put o.ro.dst (.D (.B c)) [] []) KP:=fun h=>hY.2 h fun c s' h=>by have:=yC hT hY h hK;rw[cU]at this;exact this
   have un:∀{h0:Unit},rW T Yx os (s.put o.ro.dst .un [] []) K=some r->nB P Y (os.map XRO.ro) (s.er.put o.ro.dst .un [] []) KP:=fun h=>by have:=yC hT hY h hK;rw[cU]at this;exact this
   simp only;split at h
   ·rename_i hg;rw[hg];exact go (h0:=()) h
   ·rename_i t want hg;rw[hg];simp only;split at h
    ·rename_i x hx;have ht:s.er.env t=.D (.B x):=by show(cN s.env t).er=_;rw[hx];rfl
     rw[ht];split at h
     ·rcases aHx h with⟨e,h⟩|⟨e,h⟩
      ·exact⟨fun _=>go (h0:=()) h,fun h=>absurd e h⟩
      ·exact⟨fun h=>c6 (e.symm.trans h),fun _=>un (h0:=()) h⟩
     ·rcases aHx h with⟨e,h⟩|⟨e,h⟩
      ·exact⟨fun h=>c6 (e.symm.trans h),fun _=>un (h0:=()) h⟩
      ·exact⟨fun _=>go (h0:=()) h,fun h=>absurd e h⟩
    ·rename_i hx;have ht:s.er.env t=.D (.C (.tuple #[])):=by show(cN s.env t).er=_;rw[hx];rfl
     rw[ht];exact un (h0:=()) h
    ·cases h
def bA6(P:Program)(N:Nat)(T:List Sig)(c:XC):Prop:=∀(y:YL) (Yx:YX) (Y:Yh),YRel Yx Y->∀{R:Type} [DecidableEq R] {r:R} {s:XS} {K:Exit->XS->Option R},dU N T c Yx s K=some r->∀{Q:Exit->AState->Prop},(∀e s',K e s'=some r->Q e s'.er)->dX P Y c.rc Q s.er
theorem cC{P:Program}{N:Nat}{T:List Sig}(hT:gQ P T):∀{c:XC},c.Wf P->bA6 P N T c
 |.skip,hw,y,Yx,Y,hY,R,_,r,s,K,h,Q,hK=>hK _ _ h
 |.reg _ os,hw,y,Yx,Y,hY,R,_,r,s,K,h,Q,hK=>iT hT h (KP:=Q .normal) fun s' h=>hK _ _ h
 |.regP os,hw,y,Yx,Y,hY,R,_,r,s,K,h,Q,hK=>uV hT h (KP:=Q .normal) (fun s' h=>hK _ _ h) fun v s' h=>hK _ _ h
 | .regDP os,hw,y,Yx,Y,hY,R,_,r,s,K,h,Q,hK=>uV hT h (KP:=Q .normal) (fun s' h=>hK _ _ h) fun v s' h=>by
   have:=hK _ _ h;rw[aK8]at this;exact this
 |.regN os,hw,y,Yx,Y,hY,R,_,r,s,K,h,Q,hK=>by cases h
 |.regM os x,hw,y,Yx,Y,hY,R,_,r,s,K,h,Q,hK=>by cases h
 |.regS _ os,hw,y,Yx,Y,hY,R,_,r,s,K,h,Q,hK=>⟨tX s os,zM hT h (KP:=Q .normal) fun s' h=>hK _ _ h⟩
 |.regY os,hw,y,Yx,Y,hY,R,_,r,s,K,h,Q,hK=>yC hT hY h (KP:=Q .normal) fun s' h=>hK _ _ h
 |.rangeF ..,hw,y,Yx,Y,hY,R,_,r,s,K,h,Q,hK=>by cases h
 |.seq a b,hw,y,Yx,Y,hY,R,_,r,s,K,h,Q,hK=>by
  refine cC hT (c:=a) hw.1 y Yx Y hY h (Q:=tQ (dX P Y (.wkr b.rc) Q) Q) fun e s' h=>?_;cases e with
  |normal=>exact⟨s'.er,Wk.refl _,cC hT (c:=b) hw.2 y Yx Y hY h hK⟩
  |_=>exact hK _ _ h
 |.join true m a b,hw,y,Yx,Y,hY,R,_,r,s,K,h,Q,hK=>by
  obtain⟨x,h1,h2⟩:=bAm (show bd? (dU N T a Yx (R:=rty m.tys) s (aUv m)) (fun v=>dU N T b Yx (m.fill (ofR m.tys v)) K)=some r from h);refine cC hT (c:=a) hw.1 y Yx Y hY h1 (Q:=tQ (dX P Y (.wkr b.rc) Q) Q) fun e s' h=>?_;cases e with
  |normal=>
   obtain⟨v,hv,hw'⟩:=aJ0 (show rd m s' _=some x from h);cases hv;rw[qR]at h2;exact⟨_,hw',cC hT (c:=b) hw.2 y Yx Y hY h2 hK⟩
  |_=>cases h
 |.join false m a b,hw,y,Yx,Y,hY,R,_,r,s,K,h,Q,hK=>by
  rcases bGu (show jn? (dU N T a Yx (R:=R⊕rty m.tys) s (aZ4 m K)) (fun v=>dU N T b Yx (m.fill (ofR m.tys v)) K)=some r from h)with h1|⟨x,h1,h2⟩
  ·refine cC hT (c:=a) hw.1 y Yx Y hY h1 (Q:=tQ (dX P Y (.wkr b.rc) Q) Q) fun e s' h=>?_;cases e with
   |normal=>
    obtain⟨v,hv,_⟩:=aJ0 (show rd m s' _=_ from h);cases hv
   |_=>
    obtain⟨y,hy,e⟩:=aZ2 (show jN _=_ from h);cases e;exact hK _ _ hy
  ·refine cC hT (c:=a) hw.1 y Yx Y hY h1 (Q:=tQ (dX P Y (.wkr b.rc) Q) Q) fun e s' h=>?_;cases e with
   |normal=>
    obtain⟨v,hv,hw'⟩:=aJ0 (show rd m s' _=_ from h);cases hv;rw[qR]at h2;exact⟨_,hw',cC hT (c:=b) hw.2 y Yx Y hY h2 hK⟩
   |_=>
    obtain⟨y,hy,e⟩:=aZ2 (show jN _=_ from h);cases e
 |.cond c a b,hw,y,Yx,Y,hY,R,_,r,s,K,h,Q,hK=>by
  obtain⟨h,e1⟩:=aN (show w1 s c _=some r from h);show aOy (dX P Y a.rc Q s.er) (dX P Y b.rc Q s.er) (s.er.ev c);rw[e1];split at h
  ·rename_i x hx;rw[hx];rcases aHx h with⟨e,h⟩|⟨e,h⟩
   ·have:=cC hT (c:=a) hw.1 y Yx Y hY h hK;rw[aPu hx e]at this;exact⟨fun _=>this,fun h=>c6 (e.symm.trans h)⟩
   ·have:=cC hT (c:=b) hw.2 y Yx Y hY h hK;rw[aPu hx e]at this;exact⟨fun h=>c6 (e.symm.trans h),fun _=>this⟩
  ·rename_i hx;rw[hx];obtain⟨h1,h2⟩:=bGm h;exact⟨cC hT (c:=a) hw.1 y Yx Y hY h1 hK,cC hT (c:=b) hw.2 y Yx Y hY h2 hK⟩
  ·cases h
 |.block id b,hw,y,Yx,Y,hY,R,_,r,s,K,h,Q,hK=>by
  refine cC hT (c:=b) hw y Yx Y hY (show dU N T b Yx s (aNh id K)=some r from h) (Q:=aJd id Q) fun e s' h=>?_;cases e with
  |exit i=>
   unfold aNh at h;simp only at h;show if i=id then Q .normal s'.er else Q (.exit i) s'.er
   split at h
   ·rename_i hb;rw[if_pos (η hb)];exact hK _ _ h
   ·rename_i hb;rw[if_neg (fun e=>by rw[e]at hb;simp at hb)];exact hK _ _ h
  |_=>exact hK _ _ h
 |.loop m b,hw,y,Yx,Y,hY,R,_,r,s,K,h,Q,hK=>by
  obtain⟨v0,h,hw'⟩:=aJ0 (show rd m s _=some r from h);refine .inl ⟨fun n s1=>∃v,apF m.tys (cF m.tys (fun rec=>cuF m.tys fun v=>dU N T b Yx (m.fill v) (aQd (fun s'=>rd m s' (apF m.tys rec)) K)) n) v=some r/\s1=(m.fill v).er,N,_,hw',⟨v0,h,rfl⟩,?_⟩;rintro n s1 ⟨v,hv,rfl⟩;cases n with
  |zero=>rw[show cF m.tys _ 0=cF.cuN m.tys from rfl,bBx]at hv;cases hv
  |succ n=>
   rw[show cF m.tys _ (n+1)=cuF m.tys _ from rfl,cR]at hv;refine cC hT (c:=b) hw y Yx Y hY hv (Q:=tQ _ Q) fun e s' h=>?_;cases e with
   |normal=>
    obtain⟨v',h,hw'⟩:=aJ0 (show rd m s' _=some r from h);exact⟨n,_,Nat.lt_succ_self n,hw',v',h,rfl⟩
   |_=>exact hK _ _ h
 |.exit id,hw,y,Yx,Y,hY,R,_,r,s,K,h,Q,hK=>hK _ _ h
 |.scope b,hw,y,Yx,Y,hY,R,_,r,s,K,h,Q,hK=>by
  refine cC hT (c:=b) hw y Yx Y hY (show dU N T b Yx s (aTg K)=some r from h) (Q:=aOv Q) fun e s' h=>?_;cases e with
  |goto _=>cases h
  |_=>exact hK _ _ h
 |.ret,hw,y,Yx,Y,hY,R,_,r,s,K,h,Q,hK=>hK _ _ h
 |.bad _,hw,y,Yx,Y,hY,R,_,r,s,K,h,Q,hK=>by cases h
def sH:List RO->List (Option Ty)->List XRO
 |[],_=>[]
 |ro::r,[]=>⟨ro,none⟩::sH r []
 |ro::r,t::ts=>⟨ro,t⟩::sH r ts
theorem lL:∀(r:List RO) (ts:List (Option Ty)),(sH r ts).map XRO.ro=r
 |[],_=>rfl
 |ro::r,[]=>congrArg (ro::·) (lL r [])
 |ro::r,_::ts=>congrArg (ro::·) (lL r ts)
def pTy:List Ty->Ty
 |[]=>.u
 |[t]=>t
 |t::r=>.p t (pTy r)
def bEs(f:TypeId->Option Ty):List TypeId->Option (List Ty)
 |[]=>some []
 |t::r=>match f t,bEs f r with
  |some a,some l=>some (a::l)
  |_,_=>none
def aJ8(P:Program):Nat->TypeId->Option Ty
 |0,_=>none
 |n+1,t=>match P.underlying t with
  |some (.int k)=>some (.i k)
  |some .bool=>some .b
  |some .string=>some .s
  |some (.slice e)=>(aJ8 P n e).map .sl
  |some (.array len e)=>match aJ8 P n e with
   |some (.i k)=>some (.ar len k)
   |some (.ar m k)=>some (.ar (len*m) k)
   |some t=>some (.w (pTy (br len t)))
   |none=>none
  |some (.struct fs)=>(bEs (aJ8 P n) (fs.toList.map (·.type))).map fun l=>.w (pTy l)
  |_=>none
def uL(P:Program)(o:Oper):Option Ty:=match o.op with
 |.alloc T=>aJ8 P 20 T
 |.box T _=>aJ8 P 20 T
 |.makeMap T _=>match P.underlying T with
  |some (.map k e)=>match aJ8 P 20 k,aJ8 P 20 e with
   |some k,some (.sl t)=>some (.p k (.o t))
   |some k,some t=>some (.p k t)
   |_,_=>none
  |_=>none
 |_=>aJ8 P 20 o.type
structure Ann where
 at_:Nat
 pure:Bool
 m:XS
def aKy:List Ann->Nat->Option Ann
 |[],_=>none
 |a::r,n=>match χ a.at_ n with
  |true=>some a
  |false=>aKy r n
def XC.cnt:XC->Nat
 |.seq a b=>a.cnt+b.cnt+1
 |.join _ _ a b=>a.cnt+b.cnt+1
 |.cond _ a b=>a.cnt+b.cnt
 |.block _ b=>b.cnt
 |.loop _ b=>b.cnt+1
 |.scope b=>b.cnt
 |.bad _=>1
 |_=>0
def xs0:XS:=⟨[],[],[]⟩
def bB3(P:Program)(d:Nat):List Oper->Option Ty
 |[]=>none
 |o::r=>match o.dst with
  |some d'=>match χ d' d with
   |true=>uL P o
   |false=>bB3 P d r
  |none=>bB3 P d r
def bDu(P:Program)(ops:List Oper):List RO->List (Option Ty)
 |[]=>[]
 |ro::r=>(match ro.dst with
  |some d=>bB3 P d ops
  |none=>none)::bDu P ops r
def jM(P:Program):Code->RCode->XC
 |.skip,.skip=>.skip
 |.region _ ops _,.reg dr ros=>.reg dr (sH ros (ops.toList.map (uL P)))
 |.region _ ops _,.regP ros=>.regP (sH ros (ops.toList.map (uL P)))
 |.region _ ops _,.regDP ros=>.regDP (sH ros (bDu P ops.toList ros))
 |.region _ ops _,.regS lst ros=>.regS lst (sH ros (ops.toList.map (uL P)))
 |.region _ ops _,.regN ros=>.regN (sH ros (ops.toList.map (uL P)))
 |.region _ ops _,.regY ros=>.regY (sH ros (ops.toList.map (uL P)))
 |.region _ ops _,.regM ros x=>.regM (sH ros (ops.toList.map (uL P))) x
 |.seq a b,.seq x (.wkr y)=>.seq (jM P a x) (jM P b y)
 |.cond _ a b,.cond c x y=>.cond c (jM P a x) (jM P b y)
 |.block _ b,.block id x=>.block id (jM P b x)
 |.loop b,.loop x=>.loop xs0 (jM P b x)
 |.exit _,.exit id=>.exit id
 |.scope b,.scope x=>.scope (jM P b x)
 |.ret,.ret=>.ret
 |_,.skip=>.skip
 |_,rc=>.bad rc
theorem aC2(P:Program):∀(c:Code) (rc:RCode),(jM P c rc).rc=rc:=by
 intro c
 induction c with
 |seq a b ih1 ih2=>
  intro rc;unfold jM;split<;>first
   |rfl
   |(rename_i e;cases e;show RCode.seq (jM P _ _).rc (.wkr (jM P _ _).rc)=_;rw[ih1,ih2];done)
   |(rename_i e;cases e;done)
   |(rename_i e _;cases e;done)
 |cond c0 a b ih1 ih2=>
  intro rc;unfold jM;split<;>first
   |rfl
   |(rename_i e;cases e;show RCode.cond _ (jM P _ _).rc (jM P _ _).rc=_;rw[ih1,ih2];done)
   |(rename_i e;cases e;done)
   |(rename_i e _;cases e;done)
 |block id b ih=>
  intro rc;unfold jM;split<;>first
   |rfl
   |(rename_i e;cases e;show RCode.block _ (jM P _ _).rc=_;rw[ih];done)
   |(rename_i e;cases e;done)
   |(rename_i e _;cases e;done)
 |loop b ih=>
  intro rc;unfold jM;split<;>first
   |rfl
   |(rename_i e;cases e;show RCode.loop (jM P _ _).rc=_;rw[ih];done)
   |(rename_i e;cases e;done)
   |(rename_i e _;cases e;done)
 |scope b ih=>
  intro rc;unfold jM;split<;>first
   |rfl
   |(rename_i e;cases e;show RCode.scope (jM P _ _).rc=_;rw[ih];done)
   |(rename_i e;cases e;done)
   |(rename_i e _;cases e;done)
 |region id ops dr=>
  intro rc;cases rc<;>first|rfl|(show RCode.reg _ ((sH _ _).map XRO.ro)=_;rw[lL];done)|(show RCode.regP ((sH _ _).map XRO.ro)=_;rw[lL];done)|(show RCode.regDP ((sH _ _).map XRO.ro)=_;rw[lL];done)|(show RCode.regS _ ((sH _ _).map XRO.ro)=_;rw[lL];done)|(show RCode.regN ((sH _ _).map XRO.ro)=_;rw[lL];done)|(show RCode.regY ((sH _ _).map XRO.ro)=_;rw[lL];done)|(show RCode.regM ((sH _ _).map XRO.ro) _=_;rw[lL];done)
 |_=>intro rc;cases rc<;>rfl
def kJ(A:List Ann):Nat->XC->XC
 |n,.seq a b=>match aKy A n with
  |some x=>.join x.pure x.m (kJ A (n+1) a) (kJ A (n+1+a.cnt) b)
  |none=>.seq (kJ A (n+1) a) (kJ A (n+1+a.cnt) b)
 |n,.cond c a b=>.cond c (kJ A n a) (kJ A (n+a.cnt) b)
 |n,.block id b=>.block id (kJ A n b)
 |n,.loop m b=>match aKy A n with
  |some x=>.loop x.m (kJ A (n+1) b)
  |none=>.loop m (kJ A (n+1) b)
 |n,.scope b=>.scope (kJ A n b)
 |_,c=>c
theorem gU(A:List Ann):∀(c:XC) (n:Nat),(kJ A n c).rc=c.rc
 |.seq a b,n=>by
  unfold kJ;split
  ·show RCode.seq (kJ A _ a).rc (.wkr (kJ A _ b).rc)=_;rw[gU A a,gU A b];rfl
  ·show RCode.seq (kJ A _ a).rc (.wkr (kJ A _ b).rc)=_;rw[gU A a,gU A b];rfl
 |.cond c a b,n=>by show RCode.cond c (kJ A _ a).rc (kJ A _ b).rc=_;rw[gU A a,gU A b];rfl
 |.block id b,n=>by show RCode.block id (kJ A _ b).rc=_;rw[gU A b];rfl
 |.loop m b,n=>by
  unfold kJ;split
  ·show RCode.loop (kJ A _ b).rc=_;rw[gU A b];rfl
  ·show RCode.loop (kJ A _ b).rc=_;rw[gU A b];rfl
 |.scope b,n=>by show RCode.scope (kJ A _ b).rc=_;rw[gU A b];rfl
 |.join _ _ _ _,_=>rfl
 |.skip,_=>rfl
 |.reg _ _,_=>rfl
 |.regS _ _,_=>rfl
 |.regP _,_=>rfl
 |.regDP _,_=>rfl
 |.regN _,_=>rfl
 |.regY _,_=>rfl
 |.regM _ _,_=>rfl
 |.rangeF ..,_=>rfl
 |.exit _,_=>rfl
 |.ret,_=>rfl
 |.bad _,_=>rfl
theorem yA(P:Program):∀(c:Code) (rc:RCode),(jM P c rc).Wf P:=by
 intro c
 induction c with
 |seq a b ih1 ih2=>
  intro rc;unfold jM;split<;>first
   |trivial
   |(rename_i e;cases e;exact⟨ih1 _,ih2 _⟩)
   |(rename_i e;cases e;done)
   |(rename_i e _;cases e;done)
 |cond c0 a b ih1 ih2=>
  intro rc;unfold jM;split<;>first
   |trivial
   |(rename_i e;cases e;exact⟨ih1 _,ih2 _⟩)
   |(rename_i e;cases e;done)
   |(rename_i e _;cases e;done)
 |block id b ih=>
  intro rc;unfold jM;split<;>first
   |trivial
   |(rename_i e;cases e;exact ih _)
   |(rename_i e;cases e;done)
   |(rename_i e _;cases e;done)
 |loop b ih=>
  intro rc;unfold jM;split<;>first
   |trivial
   |(rename_i e;cases e;exact ih _)
   |(rename_i e;cases e;done)
   |(rename_i e _;cases e;done)
 |scope b ih=>
  intro rc;unfold jM;split<;>first
   |trivial
   |(rename_i e;cases e;exact ih _)
   |(rename_i e;cases e;done)
   |(rename_i e _;cases e;done)
 |_=>intro rc;cases rc<;>trivial
theorem hH(P:Program)(A:List Ann):∀(c:XC) (n:Nat),c.Wf P->(kJ A n c).Wf P
 |.seq a b,n,h=>by
  unfold kJ;split
  ·exact⟨hH P A a _ h.1,hH P A b _ h.2⟩
  ·exact⟨hH P A a _ h.1,hH P A b _ h.2⟩
 |.cond c a b,n,h=>⟨hH P A a _ h.1,hH P A b _ h.2⟩
 |.block id b,n,h=>hH P A b n h
 |.loop m b,n,h=>by
  unfold kJ;split
  ·exact hH P A b (n+1) h
  ·exact hH P A b (n+1) h
 |.scope b,n,h=>hH P A b n h
 |.join _ _ _ _,_,h=>h
 |.skip,_,h=>h
 |.reg _ _,_,h=>h
 |.regS _ _,_,h=>h
 |.regP _,_,h=>h
 |.regDP _,_,h=>h
 |.regN _,_,h=>h
 |.regY _,_,h=>h
 |.regM _ _,_,h=>h
 |.rangeF ..,_,h=>h
 |.exit _,_,h=>h
 |.ret,_,h=>h
 |.bad _,_,h=>h
def bFf:List (Nat×Nat×List Nat)->Nat->Option (Nat×List Nat)
 |[],_=>none
 |(p,f)::r,n=>match χ p n with
  |true=>some f
  |false=>bFf r n
def bFo(P:Program)(fn:Func)(g:Operand)(N0:Nat):Bool:= !(fn.name== "runtime.NumGoroutine")&&P.follows .mixedOrders&&χ fn.results.size 0&&g.inN N0
def aZt(P:Program)(fl:List Nat)(A:List Ann)(n N0:Nat)(g:Operand)(ps:Array Tmp)(ca cb:Code)(f:Nat)(fl2:List Nat)(rc:RCode):XC:=match P.funcs[f]?with
 |some fn=>match fn.body with
  |some c2=>match aE P fl2 fn.ntmps c2,aE P fl N0 ca,aE P fl N0 cb,bFo P fn g N0 with
   |some it,some a,some b,true=>.rangeF N0 g ps ca cb f fn.ntmps (kJ A (100000*(n+1)+30000) (jM P ca a)) (kJ A (100000*(n+1)+60000) (jM P cb b)) (kJ A (100000*(n+1)) (jM P c2 it))
   |_,_,_,_=>.bad rc
  |none=>.bad rc
 |none=>.bad rc
def aWu(P:Program)(fl:List Nat)(A:List Ann)(n:Nat)(q:Option (Nat×List Nat))(rc:RCode):XC:=match rc,q with
 |.sem N0 (.rangeFunc g ps ca cb),some (f,fl2)=>aZt P fl A n N0 g ps ca cb f fl2 rc
 |rc,_=>.bad rc
theorem aY6(P:Program)(fl:List Nat)(A:List Ann)(n:Nat)(q:Option (Nat×List Nat))(rc:RCode):(aWu P fl A n q rc).rc=rc/\(aWu P fl A n q rc).Wf P:=by
 unfold aWu;split
 case h_2=>exact⟨rfl,trivial⟩
 unfold aZt;split
 case h_2=>exact⟨rfl,trivial⟩
 rename_i fn hf;split
 case h_2=>exact⟨rfl,trivial⟩
 rename_i c2 hc;split
 case h_2=>exact⟨rfl,trivial⟩
 rename_i it a b h1 h2 h3 h4;refine⟨rfl,⟨_,fl,fn,c2,hf,hc,?_,?_,by rw[gU,aC2];exact h1,by rw[gU,aC2];exact h2,by rw[gU,aC2];exact h3,?_,?_,rfl⟩,hH P A _ _ (yA P _ _),hH P A _ _ (yA P _ _),hH P A _ _ (yA P _ _)⟩<;>unfold bFo at h4<;>simp only[μ,dh]at h4
 ·exact h4.1.1.1
 ·exact h4.1.1.2
 ·exact Array.eq_empty_of_size_eq_zero (η h4.1.2)
 ·exact h4.2
def wS(P:Program)(fl:List Nat)(F:List (Nat×Nat×List Nat))(A:List Ann):Nat->XC->XC
 |n,.seq a b=>match aKy A n with
  |some x=>.join x.pure x.m (wS P fl F A (n+1) a) (wS P fl F A (n+1+a.cnt) b)
  |none=>.seq (wS P fl F A (n+1) a) (wS P fl F A (n+1+a.cnt) b)
 |n,.cond c a b=>.cond c (wS P fl F A n a) (wS P fl F A (n+a.cnt) b)
 |n,.block id b=>.block id (wS P fl F A n b)
 |n,.loop m b=>match aKy A n with
  |some x=>.loop x.m (wS P fl F A (n+1) b)
  |none=>.loop m (wS P fl F A (n+1) b)
 |n,.scope b=>.scope (wS P fl F A n b)
 |n,.bad rc=>aWu P fl A n (bFf F n) rc
 |_,c=>c
theorem mL(P:Program)(fl:List Nat)(F:List (Nat×Nat×List Nat))(A:List Ann):∀(c:XC) (n:Nat),c.Wf P->(wS P fl F A n c).rc=c.rc/\(wS P fl F A n c).Wf P
 |.seq a b,n,h=>by
  have h1:=mL P fl F A a (n+1) h.1;have h2:=mL P fl F A b (n+1+a.cnt) h.2;unfold wS;split
  ·exact⟨by show RCode.seq _ (.wkr _)=_;rw[h1.1,h2.1];rfl,h1.2,h2.2⟩
  ·exact⟨by show RCode.seq _ (.wkr _)=_;rw[h1.1,h2.1];rfl,h1.2,h2.2⟩
 |.cond c a b,n,h=>by
  have h1:=mL P fl F A a n h.1;have h2:=mL P fl F A b (n+a.cnt) h.2;exact⟨by show RCode.cond c _ _=_;rw[h1.1,h2.1];rfl,h1.2,h2.2⟩
 |.block id b,n,h=>by
  have h1:=mL P fl F A b n h;exact⟨by show RCode.block id _=_;rw[h1.1];rfl,h1.2⟩
 |.loop m b,n,h=>by
  have h1:=mL P fl F A b (n+1) h;unfold wS;split
  ·exact⟨by show RCode.loop _=_;rw[h1.1];rfl,h1.2⟩
  ·exact⟨by show RCode.loop _=_;rw[h1.1];rfl,h1.2⟩
 |.scope b,n,h=>by
  have h1:=mL P fl F A b n h;exact⟨by show RCode.scope _=_;rw[h1.1];rfl,h1.2⟩
 |.bad rc,n,_=>aY6 P fl A n _ rc
 |.join _ _ _ _,_,h=>⟨rfl,h⟩
 |.skip,_,h=>⟨rfl,h⟩
 |.reg _ _,_,h=>⟨rfl,h⟩
 |.regS _ _,_,h=>⟨rfl,h⟩
 |.regP _,_,h=>⟨rfl,h⟩
 |.regDP _,_,h=>⟨rfl,h⟩
 |.regN _,_,h=>⟨rfl,h⟩
 |.regY _,_,h=>⟨rfl,h⟩
 |.regM _ _,_,h=>⟨rfl,h⟩
 |.rangeF ..,_,h=>⟨rfl,h⟩
 |.exit _,_,h=>⟨rfl,h⟩
 |.ret,_,h=>⟨rfl,h⟩
def mkX(P:Program)(fl:List Nat)(F:List (Nat×Nat×List Nat))(A:List Ann)(c:Code)(rc:RCode):XC:=wS P fl F A 0 (jM P c rc)
theorem xE(P:Program)(fl:List Nat)(F:List (Nat×Nat×List Nat))(A:List Ann)(c:Code)(rc:RCode):(mkX P fl F A c rc).rc=rc:=by unfold mkX;rw[(mL P fl F A _ 0 (yA P c rc)).1,aC2]
theorem xU(P:Program)(fl:List Nat)(F:List (Nat×Nat×List Nat))(A:List Ann)(c:Code)(rc:RCode):(mkX P fl F A c rc).Wf P:=(mL P fl F A _ 0 (yA P c rc)).2
end
section
variable{R:Type}
theorem Wk.any{s s':AState}(hb:∀i,s'.bs i=s.bs i)(ho:∀i,s'.own i=s.own i)(hn:s'.nx=s.nx)(he:∀t,s'.env t=s.env t\/s'.env t=.any):Wk s s':=fun E a w ⟨G,m,h⟩=>by
 have hlk:s'.lk=s.lk:=by funext x;cases x with|B i=>exact hb i|O i=>exact ho i
 refine⟨G,m,hlk▸h.sim,fun t=>?_,h.size,h.defers,?_,fun i hi=>h.fresh i (hn▸hi),h.frame,h.base,h.own,h.noO,fun i hi=>(ho i).trans (h.nxOk i (hn▸hi))⟩
 ·rcases he t with e|e
  ·rw[e];exact h.env t
  ·rw[e];unfold AV.Rep;trivial
 ·rcases he E.N with e|e
  ·rw[e];exact h.jok
  ·rw[e];exact E.Jany _ _ h.jok
def xM:Nat->List XV->List (Nat×XV)
 |_,[]=>[]
 |n,v::vs=>(n,v)::xM (n+1) vs
theorem sS:∀(vs:List XV) (n t:Nat),cN (xM n vs) t=if n<=t then qE vs (t-n)else .any
 |[],n,t=>by
  show XV.any=_;split
  ·cases t-n<;>rfl
  ·rfl
 |v::vs,n,t=>by
  show(if χ t n=true then v else cN (xM (n+1) vs) t)=_;rw[sS vs (n+1) t];by_cases h:t=n
  ·rw[if_pos (by rw[f8];exact h),if_pos (by omega),show t-n=0 by omega];rfl
  ·rw[if_neg (by rw[f8];exact h)];by_cases h2:n+1<=t
   ·rw[if_pos h2,if_pos (by omega),show t-n=(t-(n+1))+1 by omega];rfl
   ·rw[if_neg h2,if_neg (by omega)]
def wU:Nat->Nat->List Nat
 |_,0=>[]
 |n,k+1=>n::wU (n+1) k
theorem aKb:∀(k n i:Nat),(wU n k)[i]?=if i<k then some (n+i)else none
 |0,n,i=>by simp[wU]
 |k+1,n,0=>by simp[wU]
 |k+1,n,i+1=>by
  show(wU (n+1) k)[i]?=_;rw[aKb k (n+1) i];by_cases h:i<k
  ·rw[if_pos h,if_pos (by omega),show n+1+i=n+(i+1) by omega]
  ·rw[if_neg h,if_neg (by omega)]
theorem zL{j:Nat}:j∈wU n k↔n<=j/\j<n+k:=by
 induction k generalizing n with
 |zero=>simp[wU]
 |succ k ih=>
  show j∈n::wU (n+1) k↔_;rw[cq,ih];omega
theorem aDe:∀(k n:Nat),(wU n k).Nodup
 |0,_=>i8
 |k+1,n=>eq.2 ⟨fun h=>by have:=(zL.1 h).1;omega,aDe k (n+1)⟩
theorem aL5:∀(k n:Nat),(wU n k).length=k
 |0,_=>rfl
 |k+1,n=>congrArg (· +1) (aL5 k (n+1))
def aGe(ψ:Hd->Hd):List XV->List XV
 |[]=>[]
 |v::vs=>v.ren ψ::aGe ψ vs
def xZ(ψ:Hd->Hd):List (Option XB)->List (Option XB)
 |[]=>[]
 |none::r=>none::xZ ψ r
 |some b::r=>some (b.ren ψ)::xZ ψ r
theorem vH[YL](ψ:Hd->Hd):∀(l:List (Option XB)) (i:Nat),(bB (xZ ψ l) i).map XB.er=((bB l i).map XB.er).map (Blk.ren ψ)
 |[],_=>rfl
 |none::_,0=>rfl
 |some b::_,0=>congrArg some (aJe ψ b)
 |none::r,i+1=>vH ψ r i
 |some _::r,i+1=>vH ψ r i
def aFk:Nat->List (Option XB)->List (Option XB)
 |_,[]=>[]
 |0,_::r=>none::aFk 0 r
 |d+1,b::r=>b::aFk d r
def yU:Nat->List (Option XB)->List (Option XB)
 |0,l=>l
 |_+1,[]=>[]
 |d+1,_::r=>yU d r
theorem aAy:∀(d:Nat) (l:List (Option XB)) (i:Nat),bB (aFk d l) i=if i<d then bB l i else none
 |0,[],_=>rfl
 |d+1,[],i=>by show none=if i<d+1 then none else none;split<;>rfl
 |0,_::r,0=>rfl
 |0,_::r,i+1=>by
  show bB (aFk 0 r) i=_;rw[aAy 0 r i];simp
 |d+1,b::r,0=>rfl
 |d+1,b::r,i+1=>by
  show bB (aFk d r) i=_;rw[aAy d r i];by_cases h:i<d
  ·rw[if_pos h,if_pos (by omega)];rfl
  ·rw[if_neg h,if_neg (by omega)]
theorem aHa:∀(d:Nat) (l:List (Option XB)) (i:Nat),bB (yU d l) i=bB l (d+i)
 |0,l,i=>by rw[bq];rfl
 |d+1,[],i=>by
  show none=bB [] _;cases d+1+i<;>rfl
 |d+1,b::r,i=>by show bB (yU d r) i=_;rw[aHa d r i,show d+1+i=(d+i)+1 by omega];rfl
theorem aGp:∀(d:Nat) (l:List (Option XB)),(yU d l).length=l.length-d
 |0,l=>rfl
 |d+1,[]=>by simp[yU]
 |d+1,b::r=>by show(yU d r).length=_;rw[aGp d r];simp
def stS(d:Nat)(s:XS):XS:=
 let ψ:=qJ (wU d (s.bs.length-d))
 {env:=xM 0 (aGe ψ (qU s.env)),bs:=xZ ψ (aFk d s.bs),own:=xZ ψ (yU d s.bs)}
theorem aKd[YL](ψ:Hd->Hd):∀(vs:List XV) (i:Nat),i<vs.length->(qE (aGe ψ vs) i).er=AV.ren ψ (qE vs i).er
 |[],_,h=>by simp at h
 |v::_,0,_=>aH9 ψ v
 |_::vs,i+1,h=>aKd ψ vs i (by simpa using h)
theorem aGg(ψ:Hd->Hd):∀vs:List XV,(aGe ψ vs).length=vs.length
 |[]=>rfl
 |_::vs=>congrArg (· +1) (aGg ψ vs)
theorem aPw:∀(vs:List XV) (i:Nat),vs.length<=i->qE vs i=.any
 |[],i,_=>by cases i<;>rfl
 |_::_,0,h=>by simp at h
 |_::vs,i+1,h=>aPw vs i (by simpa using h)
theorem aKe{α:Type}(f:XV->α):∀l:List (Nat×XV),(qU l).map f=l.map fun p=>f p.2
 |[]=>rfl
 |p::l=>congrArg (f p.2::·) (aKe f l)
theorem aAv(ψ:Hd->Hd):∀l:List (Option XB),(xZ ψ l).length=l.length
 |[]=>rfl
 |none::l=>congrArg (· +1) (aAv ψ l)
 |some _::l=>congrArg (· +1) (aAv ψ l)
theorem aS9[YL](d:Nat)(s:XS):Wk (entry (s.env.map fun p=>p.2.er) (erB s.bs)) (stS d s).er:=by
 have h1:=aRg (s.env.map fun p=>p.2.er) (erB s.bs) (wU d (s.bs.length-d)) (aDe _ _);refine h1.trans (Wk.any (fun i=>?_) (fun i=>?_) ?_ fun t=>?_)
 ·show(bB (xZ _ (aFk d s.bs)) i).map XB.er=if i∈wU d (s.bs.length-d)then none else(((erB s.bs)[i]?).join).map _
  rw[vH,aAy,lF];by_cases hd:i<d
  ·rw[if_pos hd,if_neg (fun h=>by have:=(zL.1 h).1;omega)]
  ·rw[if_neg hd];by_cases h2:i<s.bs.length
   ·rw[if_pos (zL.2 ⟨by omega,by omega⟩)];rfl
   ·rw[if_neg (fun h=>by have:=(zL.1 h).2;omega),aC3 _ _ (by omega)]
 ·show(bB (xZ _ (yU d s.bs)) i).map XB.er=((wU d (s.bs.length-d))[i]?).bind fun j=>(((erB s.bs)[j]?).join).map _;rw[vH,aHa,aKb];by_cases h:i<s.bs.length-d
  ·rw[if_pos h];show _=(((erB s.bs)[d+i]?).join).map _;rw[lF]
  ·rw[if_neg h,aC3 _ _ (by omega)];rfl
 ·show(xZ _ (yU d s.bs)).length=(wU d (s.bs.length-d)).length;rw[aAv,aGp,aL5]
 ·show(cN (xM 0 (aGe _ (qU s.env))) t).er=(AV.renL _ (s.env.map fun p=>p.2.er)).getD t .un\/(cN (xM 0 (aGe _ (qU s.env))) t).er=.any;rw[sS,if_pos (eo _),Nat.sub_zero];by_cases h:t<(qU s.env).length
  ·left;rw[aKd _ _ _ h,xW,<-aKe XV.er];congr 1;have:∀(l:List XV) (i:Nat),i<l.length->(qE l i).er=(l.map XV.er).getD i .un:=fun l=>by
    induction l with
    |nil=>intro i h;simp at h
    |cons v l ih=>
     intro i h;cases i with
     |zero=>rfl
     |succ i=>
      have:=ih i (by simpa using h);show(qE l i).er=(v.er::l.map XV.er).getD (i+1) .un;rw[this,jp]
   exact this _ _ h
  ·right;rw[aPw _ _ (by rw[aGg];omega)];rfl
def aIx(s:XS):RRes->Option XV
 |.tmp t=>some (cN s.env t)
 |.cell ag t=>match cN s.env t with
  |.ptr h off=>match s.lk h with
   |some (.box cs)=>aJk ag cs off some
   |_=>none
  |.apt h 0=>match s.lk h,ag with
   |some (.arr _ n k x),some m=>match χ m n with
    |true=>some (.d (.ar n k) x)
    |false=>none
   |_,_=>none
  |.rpt h off=>match s.lk h,ag with
   |some (.rb _ t x),some m=>aJk (some m) (lvs t x) off some
   |_,_=>none
  |_=>none
def qH(s:XS):List RRes->Option (List XV)
 |[]=>some []
 |r::rs=>match aIx s r,qH s rs with
  |some v,some vs=>some (v::vs)
  |_,_=>none
theorem aM8[YL]{r:RRes}(h:aIx s r=some v):oZ s.er r=some v.er:=by
 unfold aIx at h;split at h
 ·cases h;rfl
 ·rename_i ag t;split at h
  ·rename_i hd off ht;split at h
   ·rename_i cs hl;obtain⟨v',h1,h2⟩:=vL h;cases h1;have e1:s.er.env t=.ptr hd off:=by show(cN s.env t).er=_;rw[ht];rfl
    have e2:s.er.lk hd=some (.box (XV.fcL cs)):=by rw[aP,hl];rfl
    simp only[oZ,e1,e2];cases ag with
    |none=>exact h2
    |some n=>
     obtain⟨h3,h4⟩:=h2;simp only;rw[if_pos h3,h4]
   ·cases h
  ·rename_i hd ht;split at h
   ·rename_i mt n k x m hl;split at h
    ·rename_i hb;obtain rfl:=η hb;cases h;have e1:s.er.env t=.eptr hd 1 0 0:=by show(cN s.env t).er=_;rw[ht];rfl
     have e2:s.er.lk hd=some (.row mt 1 (x.l.map (arD k))):=by rw[aP,hl];rfl
     simp only[oZ,e1,e2];have hx:=x.len;rw[if_pos ⟨trivial,trivial,trivial,by rw[ι];omega⟩,da,bn (by rw[ι];omega),yX];rfl
    ·cases h
   ·cases h
  ·rename_i hd off ht;split at h
   ·rename_i mt t2 x m hl;obtain⟨v',h1,h2,h3⟩:=vL h;cases h1;have e1:s.er.env t=.eptr hd 1 off 0:=by show(cN s.env t).er=_;rw[ht];rfl
    have e2:s.er.lk hd=some (.row mt 1 (sgD (t2.ds x))):=by rw[aP,hl];rfl
    rw[cS]at h2 h3;rw[ι]at h2;simp only[oZ,e1,e2];rw[if_pos ⟨trivial,trivial,trivial,by rw[vN];exact h2⟩,aIp,aDb,h3,ce,cj]
   ·cases h
  ·cases h
theorem aBu[YL]{s:XS}:∀{rs:List RRes} {vs:List XV},qH s rs=some vs->kF s.er rs=some (XV.erL vs)
 |[],vs,h=>by cases h;rfl
 |r::rs,vs,h=>by
  unfold qH at h;split at h
  ·rename_i v vs' h1 h2;cases h;show(match oZ s.er r,kF s.er rs with|some a,some as=>some (a::as)|_,_=>none)=_;rw[aM8 h1,aBu h2];rfl
  ·cases h
def nzR:List (Nat×XV)->List RRes->XS->XS
 |(_,m)::ms,r::rs,s=>match m,r with
  |.slw _ t _,.tmp n=>match cN s.env n with
   |.fln _=>nzR ms rs (s.put (some n) (.slw (.O s.own.length) t 0) [.row true t []] [])
   |.sl h t 0 len=>nzR ms rs (aHe s n h t len)
   |_=>nzR ms rs s
  |_,_=>nzR ms rs s
 |_,_,s=>s
theorem aEh[YL]:∀(ms:List (Nat×XV)) (rs:List RRes) (s:XS),Wk s.er (nzR ms rs s).er
 |[],_,s=>by unfold nzR;exact Wk.refl _
 |_::_,[],s=>by unfold nzR;exact Wk.refl _
 |(_,m)::ms,r::rs,s=>by
  unfold nzR;split
  ·split
   ·rename_i h;refine Wk.trans ?_ (aEh ms rs _);rw[cU];exact AState.own0_ok s.er _ _ (by show(cN s.env _).er=_;rw[h];rfl)
   ·rename_i h;exact(aGn h).trans (aEh ms rs _)
   ·exact aEh ms rs s
  ·exact aEh ms rs s
def aPz(rs:List RRes)(s:XS)(n:Nat):XV:=match qH s rs with
 |some vs=>qE vs n
 |none=>.any
def aZx(rs:List RRes)(m:XS)(n:Nat)(s:XS):Bool:=match qH s rs with
 |some vs=>wQ 0 m.env vs&&χ s.bs.length n
 |none=>false
def bDp(rs:List RRes)(m s:XS):NZ:=⟨s,aVn vrO (aPz rs s) m.env (aKc m.own)⟩
def nzF(rs:List RRes)(m s:XS):NZ:=aW7 vrO 0 m.own (aXc vrO 0 m.bs (bDp rs m (nzR m.env rs s)))
def aTy(rs:List RRes)(m:XS)(n:Nat)(K:tup m.tys->Option R)(st:NZ):Option R:=match aZx rs m n st.s with
 |true=>rd1 m (aPz rs) st K
 |false=>none
def aTf:Hd->Hd->Bool
 |.B i,.B j=>χ i j
 |.O _,.O _=>true
 |_,_=>false
def bEu:List XV->List XV->Bool
 |[],_=>true
 |_::_,[]=>false
 |m::ms,v::vs=>(match m,v with
  |.ptr h _,.ptr h' _=>aTf h h'
  |.apt h _,.apt h' _=>aTf h h'
  |.rpt h _,.rpt h' _=>aTf h h'
  |_,_=>true)&&bEu ms vs
def bGw(rs:List RRes)(m s:XS):Bool:=match qH s rs with
 |some vs=>aSu (qU m.env) vs&&bEu (qU m.env) vs
 |none=>false
def vT(rs:List RRes)(n:Nat):(l:List XS)->XS->(RT l->Option R)->Option R
 |[],_,_=>none
 |[m],s,K=>aTy rs m n (fun v=>K (toR m.tys v)) (nzF rs m s)
 |m::m2::l,s,K=>match bGw rs m s with
  |true=>aTy rs m n (fun v=>K (.inl (toR m.tys v))) (nzF rs m s)
  |false=>vT rs n (m2::l) s fun r=>K (.inr r)
def aUn:Value->Value->Bool
 |.iface t (.agg a),.iface t' (.agg c)=>χ t t'&&(a.isEmpty&&c.isEmpty)
 |_,_=>false
theorem aJg{v:Value}(h:aUn v w=true):v=w:=by
 unfold aUn at h;split at h
 ·rename_i t a t' c;rw[μ,μ]at h;obtain⟨h1,h2,h3⟩:=h;rw[η h1,Array.isEmpty_iff.1 h2,Array.isEmpty_iff.1 h3]
 ·cases h
def aRy(pv:Value):(l:List XS)->(RT l->Option R)->Option R
 |[],_=>none
 |[m],K=>match m.pv,m.own,aB4 m.tys []with
  |some w,[],some v=>match aUn w pv with
   |true=>K (toR m.tys v)
   |false=>none
  |_,_,_=>none
 |m::m2::l,K=>match m.pv,m.own,aB4 m.tys []with
  |some w,[],some v=>match aUn w pv with
   |true=>K (.inl (toR m.tys v))
   |false=>aRy pv (m2::l) fun r=>K (.inr r)
  |_,_,_=>aRy pv (m2::l) fun r=>K (.inr r)
def bCz(rs:List RRes)(n:Nat)(out:List XS):Exit->XS->Option (RT out)
 |.normal,s=>vT rs n out s some
 |.ret,s=>vT rs n out s some
 |_,_=>none
def aVy(rs:List RRes)(out:List XS):Exit->XS->Option (RT out)
 |.normal,s=>vT rs 0 out s some
 |.ret,s=>vT rs 0 out s some
 |.panic [⟨v,false,false⟩],_=>aRy v out some
 |_,_=>none
def aEs:List XS->Bool
 |[]=>false
 |o::l=>o.pv.isSome||aEs l
def bGg[YL]:List XV->AV
 |[v]=>v.er
 |vs=>.tup (XV.erL vs)
theorem aW5[YL](h:kF s.er rs=some (XV.erL vs)):aTr s.er rs=some (bGg vs):=by
 unfold aTr;rw[h]
 match vs with
 |[]=>rfl
 |[_]=>rfl
 |_::_::_=>rfl
theorem aYb(h:wQ 0 m.env vs=true)(v:tup m.tys):(m.fill v).pv=none:=by
 unfold XS.pv;split
 ·rename_i k u he;have he:(wW _ m.env _).1=[(k,.c u)]:=he;generalize m.env=l at h he;cases l with
  |nil=>cases he
  |cons p l=>
   obtain⟨k0,v0⟩:=p;cases vs with
   |nil=>cases h
   |cons a vs=>
    have h:(χ k0 0&&wQ 1 l vs)=true:=h;rw[μ]at h;have h1:=η h.1;have h2:=congrArg (fun l=>l.map Prod.fst) he;have h2:k0::_=[k]:=h2;have:k0=k:=(List.cons.inj h2).1;rw[<-this,h1]
 ·rfl
theorem aN7[YL]{K:tup m.tys->Option R}{r:R}(h:aTy rs m n K (nzF rs m s)=some r):∃v,K v=some r/\(m.fill v).pv=none/\∀(e:Exit),(e=.normal\/e=.ret)->∀nbs:List Blk,nbs.map some=erB (m.fill v).own->
  mJ n rs (XV.val (m.fill v).env).er (erB (m.fill v).bs) nbs e s.er:=by
 unfold aTy at h;split at h
 case h_2=>cases h
 rename_i hok;obtain⟨v,sl,h,hr⟩:=aV7 h;have hw:Wk s.er (nzF rs m s).s.er:=(aEh m.env rs s).trans ((aJb vrO m.bs 0 (bDp rs m (nzR m.env rs s))).trans (aIf vrO _ _ _));generalize(nzF rs m s)=st at hok hr hw;unfold aZx at hok;split at hok
 case h_2=>cases hok
 rename_i vs hvs;rw[μ]at hok;obtain⟨hk,hb⟩:=hok;refine⟨v,h,aYb hk v,fun e he nbs hn=>⟨st.s.er,hw,he,sl,?_⟩⟩;have hb:=η hb;have hres:aPz rs st.s=qE vs:=by funext i;unfold aPz;rw[hvs]
 have henv:(m.fill v).env.map (fun p=>p.2.er)=vs.map fun v=>AV.conv st.s.er.lk (phi sl) v.er:=by have:=congrArg (fun l=>l.map (fun p:Nat×AV=>p.2)) hr.env;simp only[fk]at this;rw[hres]at this;rw[<-aAz (f:=fun v=>AV.conv st.s.er.lk (phi sl) v.er) hk (ev:=qE vs) fun i _=>by rw[bq]];exact this
 refine⟨_,hr.nd,aW5 (aBu hvs),?_,?_,?_⟩
 ·generalize hf:(m.fill v).env=fe at henv;have hl:∀l:List (Nat×XV),XV.erL (l.map (·.2))=l.map fun p=>p.2.er:=fun l=>by
   induction l with
   |nil=>rfl
   |cons p l ih=>show p.2.er::XV.erL (l.map (·.2))=_;rw[ih];rfl
  cases vs with
  |nil=>cases fe with
   |nil=>rfl
   |cons p fe=>cases henv
  |cons a vs=>cases fe with
   |nil=>cases henv
   |cons p fe=>cases vs with
    |nil=>cases fe with
     |nil=>exact(List.head_eq_of_cons_eq henv).symm
     |cons p2 fe=>exact absurd (congrArg List.length henv) (by simp)
    |cons a2 vs=>cases fe with
     |nil=>exact absurd (congrArg List.length henv) (by simp)
     |cons p2 fe=>
      show AV.tup (AV.convL _ _ (XV.erL (a::a2::vs)))=AV.tup (XV.erL ((p::p2::fe).map (·.2)));rw[aEi,<-henv,hl]
 ·rw[hr.bs];apply List.ext_getElem?;intro i;rw[τ,τ];by_cases hi:i<n
  ·rw[List.getElem?_range hi];have h2:=lF st.s.bs i;have hl:i<(erB st.s.bs).length:=by show i<(List.map _ _).length;rw[ι];omega
   rw[ν hl]at h2|-;have h2:(erB st.s.bs)[i]=(bB st.s.bs i).map XB.er:=h2;rw[h2];rfl
  ·rw[dc (by rw[List.length_range];omega),dc (by show(List.map _ _).length<=i;rw[ι];omega)];rfl
 ·rw[hn,hr.own];have:∀l:List Nat,(erB (nU st.s l)).map (fun b=>b.map (Blk.conv st.s.er.lk (phi sl)))=l.map fun j=>(st.s.er.own j).map (Blk.conv st.s.er.lk (phi sl)):=fun l=>by
   induction l with
   |nil=>rfl
   |cons j l ih=>show _::List.map _ (erB (nU st.s l))=_::_;rw[ih];rfl
  exact(this sl).symm
theorem kP[YL]{rs:List RRes}{n:Nat}:∀{l:List XS} {s:XS} {K:RT l->Option R} {r:R},vT rs n l s K=some r->∃x,K x=some r/\(cV l x).pv=none/\∀(e:Exit),(e=.normal\/e=.ret)->∀nbs:List Blk,nbs.map some=erB (cV l x).own->
  mJ n rs (XV.val (cV l x).env).er (erB (cV l x).bs) nbs e s.er
 |[],_,_,_,h=>by cases h
 |[m],s,K,r,h=>by
  obtain⟨v,h,hp,hv⟩:=aN7 (show aTy rs m n (fun v=>K (toR m.tys v)) (nzF rs m s)=some r from h);refine⟨toR m.tys v,h,?_⟩;have e:cV [m] (toR m.tys v)=m.fill v:=by show m.fill (ofR m.tys (toR m.tys v))=_;rw[qR]
  rw[e];exact⟨hp,hv⟩
 |m::m2::l,s,K,r,h=>by
  unfold vT at h;split at h
  ·obtain⟨v,h,hp,hv⟩:=aN7 h;refine⟨.inl (toR m.tys v),h,?_⟩;have e:cV (m::m2::l) (.inl (toR m.tys v))=m.fill v:=by show m.fill (ofR m.tys (toR m.tys v))=_;rw[qR]
   rw[e];exact⟨hp,hv⟩
  ·obtain⟨x,h,hx⟩:=kP (l:=m2::l) h;exact⟨.inr x,h,hx⟩
def aX7(N:Nat)(P:Program)(T:List Sig)(fl:List Nat)(F:List (Nat×Nat×List Nat))(A:List Ann)(d:Nat)(fn:Func)(c:Code)(ent:XS)(out:List XS):fty ent.tys (RT out):=
 match aE P fl fn.ntmps c,cG P fn.ntmps fn.results.toList with
 |some rc,some rs=>match aEs out,ent.bs with
  |false,_=>cuF ent.tys fun v=>dU N T (mkX P fl F A c rc) noX (stS d (ent.fill v)) (bCz rs ent.bs.length out)
  |true,[]=>cuF ent.tys fun v=>dU N T (mkX P fl F A c rc) pB (stS d (ent.fill v)) (aVy rs out)
  |_,_=>cuF ent.tys fun _=>none
 |_,_=>cuF ent.tys fun _=>none
theorem sT(len:Hd->Nat):∀(l:List (Nat×XV)) (q:List DS),(wW len l q).1.length=l.length
 |[],_=>rfl
 |(_,_)::l,q=>congrArg (· +1) (sT len l _)
theorem mZ(len:Hd->Nat):∀(l:List (Option XB)) (q:List DS),(mK len l q).1.length=l.length
 |[],_=>rfl
 |none::l,q=>congrArg (· +1) (mZ len l _)
 |some _::l,q=>congrArg (· +1) (mZ len l _)
theorem aO8(h:m.pv=some w)(v:tup m.tys):(m.fill v).pv=some w:=by
 unfold XS.pv at h;split at h
 ·rename_i k u he;split at h
  ·rename_i hk;cases h;have:(m.fill v).env=[(k,.c w)]:=by show(wW _ m.env _).1=_;rw[he];rfl
   unfold XS.pv;rw[this];show(match χ k 1000000 with|true=>some w|false=>none)=some w;rw[hk]
  ·cases h
 ·cases h
theorem zO(h:m.own=[])(v:tup m.tys):(m.fill v).own=[]:=by show(mK _ m.own _).1=[];rw[h];rfl
theorem aHn{pv:Value}:∀{l:List XS} {K:RT l->Option R} {r:R},aRy pv l K=some r->∃x,K x=some r/\(cV l x).pv=some pv/\(cV l x).own=[]
 |[],_,_,h=>by cases h
 |[m],K,r,h=>by
  unfold aRy at h;split at h
  case h_2=>cases h
  rename_i w v hw ho ht;split at h
  case h_2=>cases h
  rename_i he;refine⟨_,h,?_⟩;have e:cV [m] (toR m.tys v)=m.fill v:=by show m.fill (ofR m.tys (toR m.tys v))=_;rw[qR]
  rw[e,<-aJg he];exact⟨aO8 hw v,zO ho v⟩
 |m::m2::l,K,r,h=>by
  unfold aRy at h;split at h
  ·rename_i w v hw ho ht;split at h
   ·rename_i he;refine⟨_,h,?_⟩;have e:cV (m::m2::l) (.inl (toR m.tys v))=m.fill v:=by show m.fill (ofR m.tys (toR m.tys v))=_;rw[qR]
    rw[e,<-aJg he];exact⟨aO8 hw v,zO ho v⟩
   ·obtain⟨x,h,hx⟩:=aHn (l:=m2::l) h;exact⟨.inr x,h,hx⟩
  ·obtain⟨x,h,hx⟩:=aHn (l:=m2::l) h;exact⟨.inr x,h,hx⟩
abbrev pan(v:Value):Exit:=.panic [{v:=v,recovered:=false}]
theorem bDy{len:Hd->Nat}{u:Value}:∀{v:XV} {l:List DS},(XV.fil len v l).1=.c u->v=.c u:=by
 intro v l h;cases v with
 |d t x=>
  cases l with
  |nil=>cases h
  |cons p l=>
   obtain⟨t',x'⟩:=p;have h:aA1 t' x'=.c u:=h;unfold aA1 at h;split at h<;>cases h
 |c w=>exact h
 |sl hd t o n=>match l,h with
  |[],h=>cases h
  |[_],h=>cases h
  |_::_::_,h=>cases h
 |_=>cases h
theorem aC8{v:tup m.tys}(h:(m.fill v).pv=some w):m.pv=some w:=by
 unfold XS.pv at h;split at h
 case h_2=>cases h
 rename_i k u he;have he:(wW _ m.env _).1=[(k,.c u)]:=he;revert he;cases hm:m.env with
 |nil=>intro he;cases he
 |cons p l=>
  obtain⟨k0,v0⟩:=p;cases l with
  |nil=>
   intro he;have he:[(k0,_)]=[(k,XV.c u)]:=he;have h1:=(Prod.mk.inj (List.cons.inj he).1);have h2:=bDy h1.2;have h3:=h1.1;subst h2 h3;unfold XS.pv;rw[hm];exact h
  |cons q l=>
   obtain⟨k1,v1⟩:=q;intro he;exact absurd (congrArg List.length he) (by simp[wW])
theorem aVb:∀{l:List XS} {r:RT l},aEs l=false->(cV l r).pv=none
 |[],_,_=>rfl
 |[m],r,h=>by
  have h:(m.pv.isSome||false)=false:=h;rw[Bool.or_false]at h;show(m.fill _).pv=none;cases hp:(m.fill (ofR m.tys r)).pv with
  |none=>rfl
  |some w=>rw[aC8 hp]at h;cases h
 |m::m2::l,.inl r,h=>by
  have h:(m.pv.isSome||aEs (m2::l))=false:=h;rw[Bool.or_eq_false_iff]at h;show(m.fill _).pv=none;cases hp:(m.fill (ofR m.tys r)).pv with
  |none=>rfl
  |some w=>rw[aC8 hp]at h;cases h.1
 |m::m2::l,.inr r,h=>by have h:(m.pv.isSome||aEs (m2::l))=false:=h;rw[Bool.or_eq_false_iff]at h;exact aVb (l:=m2::l) h.2
def aIk[YL](rs:List RRes)(o:XS)(nbs:List Blk):Exit->AState->Prop:=fun e s=>match o.pv with
 |some pv=>e=pan pv
 |none=>mJ 0 rs (XV.val o.env).er (erB o.bs) nbs e s
theorem aR2[YL]{r:RT out}{e:Exit}(h:aVy rs out e s=some r)(hnbs:nbs.map some=erB (cV out r).own):aIk rs (cV out r) nbs e s.er:=by
 unfold aVy at h;split at h
 ·obtain⟨x,hx,hp,hq⟩:=kP h;cases hx;unfold aIk;rw[hp];exact hq _ (.inl rfl) nbs hnbs
 ·obtain⟨x,hx,hp,hq⟩:=kP h;cases hx;unfold aIk;rw[hp];exact hq _ (.inr rfl) nbs hnbs
 ·obtain⟨x,hx,hp,_⟩:=aHn h;cases hx;unfold aIk;rw[hp]
 ·cases h
theorem AOut.of_bodyX(fl:List Nat){rc:RCode}{pv:Value}{o:Option (AV×List Blk)}(s0:AState)
  (hf:P.funcs[f]?=some fn) (hb:fn.body=some c) (hname:(fn.name== "runtime.NumGoroutine")=false) (hm:P.follows .mixedOrders=true) (hrc:aE P fl fn.ntmps c=some rc) (hrs:cG P fn.ntmps fn.results.toList=some rs)
  (hn:args.length<=fn.ntmps) (hw0:Wk (entry args []) s0) (h:dX P iN rc (fun e s=>match o with
   |some p=>mJ 0 rs p.1 bs' p.2 e s
   |none=>e=pan pv) s0):match o with
   |some p=>ACall P f args [] p.1 bs' p.2
   |none=>aJy P f args pv:=by
 have hrs0:=yW hrs;cases o with
 |some p=>
  refine fun w G m vs hS hO hA=>.inl ⟨⟨fn,hf,by rw[hb];rfl,hname⟩,aAg (r:=none) (n:=0) (callsIn_of_wp hf hb (lP none f) ?_)⟩;have hent:=pV true hn hS hO hA;have hsim0:=hw0 _ _ _ ⟨G,m,hent⟩;refine wpIn_mono (aW hm hrc none iN _ _ _ _ _ YOk.body rfl h hsim0) fun e a' w' ⟨s00,⟨s,hw,hq⟩,hA0⟩=>?_;obtain⟨G1,m1,hA'⟩:=hw _ _ _ hA0;obtain⟨v,hv,hp⟩:=wY (bs:=[]) hrs0 rfl rfl rfl rfl hS hA' hq;have hd:a'.defers=[]:=(jC.1 hA'.defers).2.2 rfl;rcases hq.1 with rfl|rfl<;>exact⟨hd,v,hv,v,rfl,hp⟩
 |none=>
  refine fun w G m vs hS hO hA=>⟨⟨fn,hf,by rw[hb];rfl,hname⟩,aAg (r:=none) (n:=0) (callsIn_of_wp hf hb (lP none f) ?_)⟩;have hent:=pV true hn hS hO hA;have hsim0:=hw0 _ _ _ ⟨G,m,hent⟩;refine wpIn_mono (aW hm hrc none iN _ _ _ _ _ YOk.body rfl h hsim0) fun e a' w' ⟨s,hq,G1,m1,hA'⟩=>?_;have hq:e=.panic [{v:=pv,recovered:=false}]:=hq;subst hq;have hd:a'.defers=[]:=(jC.1 hA'.defers).2.2 rfl;exact⟨hd,rfl,aW2 (P:=P) rfl rfl rfl rfl hS hA' rfl rfl⟩
theorem bF1(N:Nat){T:List Sig}(hT:gQ P T)(fl:List Nat)(A:List Ann)(d:Nat)(RF:List (Nat×Nat×List Nat)){F:fty ent.tys (RT out)}(hf:P.funcs[f]?=some fn)(hb:fn.body=some c)(hname:(fn.name== "runtime.NumGoroutine")=false)(hm:P.follows .mixedOrders=true)
  (hn:ent.env.length<=fn.ntmps) (hF:∀a,apF ent.tys F a=apF ent.tys (aX7 N P T fl RF A d fn c ent out) a):aG P ⟨f,ent,out,F⟩:=by
 intro _ v r h nbs hnbs;have h:apF ent.tys F v=some r:=h;rw[hF]at h;unfold aX7 at h;split at h
 case h_2=>rw[cR]at h;cases h
 rename_i rc rs hrc hrs;have hlen:(erB (ent.fill v).bs).length=ent.bs.length:=by show(List.map _ (mK _ ent.bs _).1).length=_;rw[ι,mZ]
 have hargs:((ent.fill v).env.map fun p=>p.2.er).length<=fn.ntmps:=by show(List.map _ (wW _ ent.env _).1).length<=_;rw[ι,sT];exact hn
 show zY P f _ _ (cV out r) nbs;split at h
 ·rw[cR]at h;rename_i hany;have hpv:(cV out r).pv=none:=aVb hany;unfold zY;rw[hpv];refine ACall.of_bodyX fl _ hf hb hname hm hrc hrs hargs (aS9 d (ent.fill v)) ?_;have:=cC hT (xU P fl RF A c rc) _ noX noY YRel.no h (Q:=mJ ent.bs.length rs (XV.val (cV out r).env).er (erB (cV out r).bs) nbs) fun e s' h=>by
   cases e with
   |normal=>
    obtain⟨x,hx,_,hq⟩:=kP (show vT rs ent.bs.length out s' some=some r from h);cases hx;exact hq _ (.inl rfl) nbs hnbs
   |ret=>
    obtain⟨x,hx,_,hq⟩:=kP (show vT rs ent.bs.length out s' some=some r from h);cases hx;exact hq _ (.inr rfl) nbs hnbs
   |_=>cases h
  rw[xE]at this;rw[hlen];exact this
 ·rename_i hbs;rw[cR]at h;have hb0:erB (ent.fill v).bs=[]:=by rw[aNq hbs];rfl
  have hrun:=cC hT (xU P fl RF A c rc) _ pB iN YRel.body h (Q:=aIk rs (cV out r) nbs) fun e s' h=>aR2 h hnbs;rw[xE]at hrun;rw[hb0];have hwk:=aS9 d (ent.fill v);rw[hb0]at hwk;unfold zY;cases hp:(cV out r).pv with
  |none=>
   refine AOut.of_bodyX fl (pv:=.nilIface) (o:=some ((XV.val (cV out r).env).er,nbs)) _ hf hb hname hm hrc hrs hargs hwk ?_;have e:aIk rs (cV out r) nbs=mJ 0 rs (XV.val (cV out r).env).er (erB (cV out r).bs) nbs:=by funext e s;unfold aIk;rw[hp]
   rw[e]at hrun;exact hrun
  |some pv=>
   intro _;refine AOut.of_bodyX fl (pv:=pv) (o:=none) (bs':=[]) _ hf hb hname hm hrc hrs hargs hwk ?_;have e:aIk rs (cV out r) nbs=fun e _=>e=pan pv:=by funext e s;unfold aIk;rw[hp]
   rw[e]at hrun;exact hrun
 ·rw[cR]at h;cases h
theorem bE(N:Nat){T:List Sig}(hT:gQ P T)(fl:List Nat)(A:List Ann)(d:Nat){F:fty ent.tys (RT out)}(hf:P.funcs[f]?=some fn)(hb:fn.body=some c)(hname:(fn.name== "runtime.NumGoroutine")=false)(hm:P.follows .mixedOrders=true)
  (hn:ent.env.length<=fn.ntmps) (hF:∀a,apF ent.tys F a=apF ent.tys (aX7 N P T fl [] A d fn c ent out) a):aG P ⟨f,ent,out,F⟩:=bF1 N hT fl A d [] hf hb hname hm hn hF
theorem tc{a:Sig}{T:List Sig}(h:aG P a)(t:gQ P T):gQ P (a::T):=⟨h,t⟩
theorem tn:gQ P []:=trivial
theorem xf(N:Nat){T:List Sig}(hT:gQ P T)(fl:List Nat)(A:List Ann)(d:Nat){F:fty ent.tys (RT out)}(hf:P.funcs[f]?=some fn)(hb:fn.body=some c)(hk:(!(fn.name== "runtime.NumGoroutine")&&(P.follows .mixedOrders&&j2 ent.env.length fn.ntmps))=true)(hF:∀a,apF ent.tys F a=apF ent.tys (aX7 N P T fl [] A d fn c ent out) a):aG P ⟨f,ent,out,F⟩:=by simp only[μ,dh]at hk;exact bE N hT fl A d hf hb hk.1 hk.2.1 (e8 hk.2.2) hF
def dd(t:Ty):XV:=.d t t.z
end
section
variable{R:Type}
def nG(P:Program)(u u1:FrameMode)(g:Sig):Prop:=∀[YL] (v:tup g.ent.tys) (r:RT g.out),apF g.ent.tys g.F v=some r->(cV g.out r).own=[]->
 DRec P g.fn ((g.ent.fill v).env.map fun p=>p.2.er) (erB (g.ent.fill v).bs) u u1 (erB (cV g.out r).bs)
def bDl(t:Nat)(pv:Value)(s:XS):XS:={env:=(t,.c pv)::xM 0 (qU s.env),bs:=s.bs,own:=[]}
def bC0(s:XS):XS:={env:=xM 0 (qU s.env),bs:=s.bs,own:=[]}
theorem aOu[YL](l:List (Nat×XV))(t:Nat):(cN (xM 0 (qU l)) t).er=(l.map fun p=>p.2.er).getD t .un\/(cN (xM 0 (qU l)) t).er=.any:=by
 rw[sS,if_pos (eo _),Nat.sub_zero];have:∀(l:List (Nat×XV)) (i:Nat),(qE (qU l) i).er=(l.map fun p=>p.2.er).getD i .un\/(qE (qU l) i).er=.any:=fun l=>by
  induction l with
  |nil=>intro i;exact .inr rfl
  |cons v l ih=>
   intro i;cases i with
   |zero=>exact .inl rfl
   |succ i=>
    rcases ih i with h|h
    ·left;show(qE (qU l) i).er=(v.2.er::l.map fun p=>p.2.er).getD (i+1) .un;rw[h,jp]
    ·exact .inr h
 exact this l t
theorem aPa[YL](s:XS):Wk (entry (s.env.map fun p=>p.2.er) (erB s.bs)) (bC0 s).er:=by refine Wk.any (fun i=>?_) (fun i=>rfl) rfl fun t=>aOu s.env t;show(bB s.bs i).map XB.er=((erB s.bs)[i]?).join;rw[lF]
theorem aYf[YL](t:Nat)(pv:Value)(s:XS):Wk (aT2 (s.env.map fun p=>p.2.er) (erB s.bs) t pv) (bDl t pv s).er:=by
 have e:aT2 (s.env.map fun p=>p.2.er) (erB s.bs) t pv={env:=fun i=>if i=t then .D (.C pv)else(s.env.map fun p=>p.2.er).getD i .un,bs:=fun i=>((erB s.bs)[i]?).join,own:=fun _=>none,nx:=0}:=by
  refine AState.ext' (fun i=>?_) (fun i=>?_) (fun i=>?_) rfl
  ·show upd _ t _ i=_;unfold upd;rfl
  ·rfl
  ·rfl
 rw[e];refine Wk.any (fun i=>?_) (fun i=>rfl) rfl fun i=>?_
 ·show(bB s.bs i).map XB.er=((erB s.bs)[i]?).join;rw[lF]
 ·show(if χ i t then XV.c pv else cN (xM 0 (qU s.env)) i).er=_\/_;show(if χ i t then XV.c pv else cN (xM 0 (qU s.env)) i).er=(if i=t then AV.D (DV.C pv)else(List.map (fun p=>p.snd.er) s.env).getD i AV.un)\/(if χ i t then XV.c pv else cN (xM 0 (qU s.env)) i).er=.any;by_cases h:i=t
  ·left;rw[if_pos (by rw[f8];exact h),if_pos h];rfl
  ·rw[if_neg (by rw[f8];exact h),if_neg h];exact aOu s.env i
def bHg:Code->Option (Nat×Code)
 |.seq (.region _ ops false) rest=>match ops.toList with
  |[o]=>match o.dst with
   |some t=>some (t,rest)
   |none=>none
  |_=>none
 |_=>none
def aZw(N:Nat)(P:Program)(T:List Sig)(fl:List Nat)(A:List Ann)(pv:Value)(t:Nat)(fn:Func)(rest:Code)(ent:XS)(out:List XS):fty ent.tys (RT out):=
 match aE P fl fn.ntmps rest,cG P fn.ntmps fn.results.toList with
 |some rc,some rs=>cuF ent.tys fun v=>dU N T (mkX P fl [] A rest rc) pB (bDl t pv (ent.fill v)) (bCz rs ent.bs.length out)
 |_,_=>cuF ent.tys fun _=>none
theorem bAj(N:Nat){T:List Sig}(hT:gQ P T)(fl:List Nat)(A:List Ann){id t:Nat}{o:Oper}{cl:Call}{rest:Code}{pv:Value}{F:fty ent.tys (RT out)}
  (hf:P.funcs[f]?=some fn) (hb:fn.body=some (.seq (.region id #[o] false) rest)) (hname:(fn.name== "runtime.NumGoroutine")=false)
  (ho:o.op=.call cl) (hcl:cl.callee=.builtin .recover) (hca:cl.args=#[]) (hog:o.guard=none) (hot:o.dst=some t) (ht:t<fn.ntmps) (hm:P.follows .mixedOrders=true) (hrec:aOz u u1 pv)
  (hn:ent.env.length<=fn.ntmps) (hF:∀a,apF ent.tys F a=apF ent.tys (aZw N P T fl A pv t fn rest ent out) a):nG P u u1 ⟨f,ent,out,F⟩:=by
 intro _ v r h hown;have h:apF ent.tys F v=some r:=h;rw[hF]at h;unfold aZw at h;split at h
 case h_2=>rw[cR]at h;cases h
 rename_i rc rs hrc hrs;rw[cR]at h;have hlen:(erB (ent.fill v).bs).length=ent.bs.length:=by show(List.map _ (mK _ ent.bs _).1).length=_;rw[ι,mZ]
 have hargs:((ent.fill v).env.map fun p=>p.2.er).length<=fn.ntmps:=by show(List.map _ (wW _ ent.env _).1).length<=_;rw[ι,sT];exact hn
 have hown:(cV out r).own=[]:=hown;refine DRec.of_body fl (r:=(XV.val (cV out r).env).er) hf hb hname ho hcl hca hog hot ht hm hrc hrs hargs hrec (aYf t pv (ent.fill v)) ?_;rw[hlen];have:=cC hT (xU P fl [] A rest rc) _ pB iN YRel.body h (Q:=mJ ent.bs.length rs (XV.val (cV out r).env).er (erB (cV out r).bs) []) fun e s' h=>by
  cases e with
  |normal=>
   obtain⟨x,hx,_,hq⟩:=kP (show vT rs ent.bs.length out s' some=some r from h);cases hx;exact hq _ (.inl rfl) [] (by rw[hown];rfl)
  |ret=>
   obtain⟨x,hx,_,hq⟩:=kP (show vT rs ent.bs.length out s' some=some r from h);cases hx;exact hq _ (.inr rfl) [] (by rw[hown];rfl)
  |_=>cases h
 rw[xE]at this;exact this
theorem DRec.of_bodyK(fl:List Nat)(s0:AState){rc:RCode}{bs:List (Option Blk)}{r:AV}
  (hf:P.funcs[f]?=some fn) (hb:fn.body=some c) (hname:(fn.name== "runtime.NumGoroutine")=false) (hm:P.follows .mixedOrders=true) (hrc:aE P fl fn.ntmps c=some rc) (hrs:cG P fn.ntmps fn.results.toList=some rs)
  (hn:args.length<=fn.ntmps) (hw0:Wk (entry args bs) s0) (h:dX P iN rc (mJ bs.length rs r bs' []) s0):DRec P f args bs u u bs':=by have hrs0:=yW hrs;refine⟨⟨fn,hf,by rw[hb];rfl,hname⟩,fun w G m vs hS hO hA=>?_⟩;refine callsDIn_of_wp (R:=fun e w'=>∃v,e=.returned v/\nO w G m (fK bs' []) .any v w') hf hb (lP none f) ?_;have hent:=pV true hn hS hO hA;have hsim0:=hw0 _ _ _ ⟨G,m,hent⟩;refine wpIn_mono (aW hm hrc none iN _ _ _ _ _ YOk.body rfl h hsim0) fun e a' w' ⟨s00,⟨s,hw,hq⟩,hA0⟩=>?_;obtain⟨G1,m1,hA'⟩:=hw _ _ _ hA0;obtain⟨v,hv,G2,m2,p1,_,p3⟩:=wY hrs0 rfl rfl rfl rfl hS hA' hq;have hd:a'.defers=[]:=(jC.1 hA'.defers).2.2 rfl;rcases hq.1 with rfl|rfl<;>exact⟨hd,v,hv,v,rfl,G2,m2,p1,by unfold AV.Rep;trivial,p3⟩
theorem bEb(N:Nat){T:List Sig}(hT:gQ P T)(fl:List Nat)(A:List Ann){F:fty ent.tys (RT out)}
  (hf:P.funcs[f]?=some fn) (hb:fn.body=some c) (hname:(fn.name== "runtime.NumGoroutine")=false) (hm:P.follows .mixedOrders=true)
  (hn:ent.env.length<=fn.ntmps) (hF:∀a,apF ent.tys F a=apF ent.tys (match aE P fl fn.ntmps c,cG P fn.ntmps fn.results.toList with
   |some rc,some rs=>cuF ent.tys fun v=>dU N T (mkX P fl [] A c rc) pB (bC0 (ent.fill v)) (bCz rs ent.bs.length out)
   |_,_=>cuF ent.tys fun _=>none) a):nG P u u ⟨f,ent,out,F⟩:=by
 intro _ v r h hown;have h:apF ent.tys F v=some r:=h;rw[hF]at h;split at h
 case h_2=>rw[cR]at h;cases h
 rename_i rc rs hrc hrs;rw[cR]at h;have hlen:(erB (ent.fill v).bs).length=ent.bs.length:=by show(List.map _ (mK _ ent.bs _).1).length=_;rw[ι,mZ]
 have hargs:((ent.fill v).env.map fun p=>p.2.er).length<=fn.ntmps:=by show(List.map _ (wW _ ent.env _).1).length<=_;rw[ι,sT];exact hn
 have hown:(cV out r).own=[]:=hown;refine DRec.of_bodyK fl _ (r:=(XV.val (cV out r).env).er) hf hb hname hm hrc hrs hargs (aPa (ent.fill v)) ?_;rw[hlen];have:=cC hT (xU P fl [] A c rc) _ pB iN YRel.body h (Q:=mJ ent.bs.length rs (XV.val (cV out r).env).er (erB (cV out r).bs) []) fun e s' h=>by
  cases e with
  |normal=>
   obtain⟨x,hx,_,hq⟩:=kP (show vT rs ent.bs.length out s' some=some r from h);cases hx;exact hq _ (.inl rfl) [] (by rw[hown];rfl)
  |ret=>
   obtain⟨x,hx,_,hq⟩:=kP (show vT rs ent.bs.length out s' some=some r from h);cases hx;exact hq _ (.inr rfl) [] (by rw[hown];rfl)
  |_=>cases h
 rw[xE]at this;exact this
def bE6(N:Nat)(vs:List XV)(s:XS):XS:={s with env:=ltE N s.env++xM (N+1) vs}
theorem aFe(N:Nat)(l2:List (Nat×XV))(h2:∀i,i<N->cN l2 i=.any):∀(l:List (Nat×XV)) (i:Nat),i<N->cN (ltE N l++l2) i=cN l i
 |[],i,h=>h2 i h
 |(k,v)::l,i,h=>by
  unfold ltE;split
  ·show(if χ i k then v else cN (ltE N l++l2) i)=if χ i k then v else cN l i
   rw[aFe N l2 h2 l i h]
  ·rename_i hk;have hk:¬k<N:=fun h=>by rw[show Nat.blt k N=true by rw[Nat.blt_eq];exact h]at hk;cases hk
   show cN (ltE N l++l2) i=if χ i k then v else cN l i
   rw[aFe N l2 h2 l i h,if_neg (by rw[f8];omega)]
theorem aEl(N:Nat)(l2:List (Nat×XV)):∀(l:List (Nat×XV)) (i:Nat),N<=i->cN (ltE N l++l2) i=cN l2 i
 |[],i,h=>rfl
 |(k,v)::l,i,h=>by
  unfold ltE;split
  ·rename_i hk;have hk:k<N:=by rwa[Nat.blt_eq]at hk
   show(if χ i k then v else cN (ltE N l++l2) i)=_;rw[if_neg (by rw[f8];omega),aEl N l2 l i h]
  ·exact aEl N l2 l i h
theorem aLj[YL]:∀(vs:List XV) (i:Nat),(qE vs i).er=(XV.erL vs).getD i .any
 |[],i=>by cases i<;>rfl
 |v::vs,0=>rfl
 |v::vs,i+1=>by show(qE vs i).er=(v.er::XV.erL vs).getD (i+1) .any;rw[aLj vs i,jp]
theorem aXi[YL](N:Nat)(vs:List XV)(s:XS):(bE6 N vs s).er=aSz N (XV.erL vs) s.er:=by
 refine AState.ext' (fun i=>?_) (fun i=>rfl) (fun i=>rfl) rfl;show(cN (ltE N s.env++xM (N+1) vs) i).er=if i<N then(cN s.env i).er else if i=N then .any else(XV.erL vs).getD (i-N-1) .any
 by_cases h:i<N
 ·rw[if_pos h,aFe N _ (fun j hj=>by rw[sS,if_neg (by omega)]) _ i h]
 ·rw[if_neg h,aEl N _ _ i (by omega),sS];by_cases h2:i=N
  ·rw[if_pos h2,if_neg (by omega)];rfl
  ·rw[if_neg h2,if_pos (by omega),aLj];rw[Nat.sub_sub]
def dvX(N:Nat)(s:XS):Nat->List XV
 |0=>[]
 |n+1=>dvX N s n++[cN s.env (N+1+n)]
theorem aM3[YL](N:Nat)(s:XS):∀n,XV.erL (dvX N s n)=aB9 N s.er n
 |0=>rfl
 |n+1=>by show XV.erL (dvX N s n++[_])=aB9 N s.er n++[_];rw[mN,aM3 N s n];rfl
def aKg:List XS->Bool
 |[]=>true
 |m::l=>(match m.own with
  |[]=>true
  |_=>false)&&aKg l
theorem aKk:∀{l:List XS} (r:RT l),aKg l=true->(cV l r).own=[]
 |[],_,_=>rfl
 |[m],r,h=>by
  have h:((match m.own with|[]=>true|_=>false)&&true)=true:=h;rw[ga]at h;split at h
  ·rename_i ho;exact zO ho _
  ·cases h
 |m::m2::l,.inl r,h=>by
  have h:((match m.own with|[]=>true|_=>false)&&aKg (m2::l))=true:=h;rw[μ]at h;obtain⟨h,_⟩:=h;split at h
  ·rename_i ho;exact zO ho _
  ·cases h
 |m::m2::l,.inr r,h=>by have h:((match m.own with|[]=>true|_=>false)&&aKg (m2::l))=true:=h;rw[μ]at h;exact aKk (l:=m2::l) r h.2
def aRz(g:Sig)(N k:Nat)(s:XS)(K:XS->Option R):Option R:=match aKg g.out,aSm (bA3 vrB s 0 g.ent.bs (aVn vrB (qE (dvX N s k)) g.ent.env (aKc g.ent.bs)))with
 |true,some hs=>aCt s g (dvX N s k) none K hs
 |_,_=>none
def aLe(g:Sig)(N k:Nat)(rs:List RRes)(n:Nat)(out:List XS)(s:XS):Option (RT out):=aRz g N k s fun s'=>vT rs n out s' some
def aZc(gr gp:Sig)(pv:Value)(N k:Nat)(rs:List RRes)(n:Nat)(out:List XS):Exit->XS->Option (RT out)
 |.normal,s=>aLe gr N k rs n out s
 |.ret,s=>aLe gr N k rs n out s
 |.panic [⟨v,false,false⟩],s=>match aUn v pv with
  |true=>aLe gp N k rs n out s
  |false=>none
 |_,_=>none
def aUh(N:Nat)(T:List Sig){R:Type}[DecidableEq R](K2:Exit->XS->Option R):List XC->XS->(XS->Option R)->Option R
 |[],s,K=>K s
 |c::cs,s,K=>dU N T c pB s (aQd (fun s'=>aUh N T K2 cs s' K) K2)
def bD8(rs:List RRes)(n:Nat)(out:List XS):Exit->XS->Option (RT out)
 |.ret,s=>vT rs n out s some
 |_,_=>none
def aR8:Code->List Code
 |.seq a b=>a::aR8 b
 |c=>[c]
def aV2:Nat->Code->Code
 |0,c=>c
 |n+1,.seq _ b=>aV2 n b
 |_,c=>c
def aRp(P:Program)(fl:List Nat):List (List Ann)->List Code->List RCode->List XC
 |AP,c::cs,rc::rcs=>mkX P fl [] (AP.headD []) c rc::aRp P fl AP.tail cs rcs
 |AP,[],rc::rcs=>mkX P fl [] [] .skip rc::aRp P fl AP.tail [] rcs
 |_,_,[]=>[]
def aZi:List Code->Nat->List Oper
 |[],_=>[]
 |c::_,0=>match c with
  |.region _ ops _=>ops.toList
  |_=>[]
 |_::cs,n+1=>aZi cs n
def aS8(N:Nat)(P:Program)(T:List Sig)(fl:List Nat)(A:List Ann)(AP:List (List Ann))(gr gp:Sig)(pv:Value)(fn:Func)(c:Code)(ent:XS)(out:List XS):fty ent.tys (RT out):=
 match cY P fl fn.ntmps c,cG P fn.ntmps fn.results.toList with
 |some (rcs,ros,g,xs,rc),some rs=>match χ g gr.fn&&χ g gp.fn with
  | true=>cuF ent.tys fun v=>aUh N T (bD8 rs ent.bs.length out) (aRp P fl AP (aR8 c) rcs) (bC0 (ent.fill v)) fun s=>yL T (sH ros ((aZi (aR8 c) rcs.length).map (uL P))) s fun s=>wL s xs fun vs =>
    dU N T (mkX P fl [] A (aV2 (rcs.length+1) c) rc) pB (bE6 fn.ntmps vs s) (aZc gr gp pv fn.ntmps xs.length rs ent.bs.length out)
  |false=>cuF ent.tys fun _=>none
 |_,_=>cuF ent.tys fun _=>none
theorem aIo[YL]{P:Program}{N:Nat}{T:List Sig}(hT:gQ P T){fl:List Nat}[DecidableEq R]{r:R}{KP:AState->Prop}{Q:Exit->AState->Prop}{K:XS->Option R}{K2:Exit->XS->Option R}(hK:∀s,K s=some r->KP s.er)(hQ:∀e s,K2 e s=some r->Q e s.er):∀{AP:List (List Ann)} {cs:List Code} {rcs:List RCode} {s:XS},aUh N T K2 (aRp P fl AP cs rcs) s K=some r->xA P rcs KP Q s.er
 |_,[],[],s,h=>hK s h
 |_,_::_,[],s,h=>hK s h
 |AP,[],rc::rcs,s,h=>by
  have h:dU N T (mkX P fl [] [] .skip rc) pB s (aQd (fun s'=>aUh N T K2 (aRp P fl AP.tail [] rcs) s' K) K2)=some r:=h;have:=cC hT (xU P fl [] [] .skip rc) _ pB iN YRel.body h (Q:=tQ (xA P rcs KP Q) Q) fun e s' h=>by
   cases e with
   |normal=>exact aIo hT hK hQ h
   |_=>exact hQ _ _ h
  rw[xE]at this;exact this
 |AP,c::cs,rc::rcs,s,h=>by
  have h:dU N T (mkX P fl [] (AP.headD []) c rc) pB s (aQd (fun s'=>aUh N T K2 (aRp P fl AP.tail cs rcs) s' K) K2)=some r:=h;have:=cC hT (xU P fl [] (AP.headD []) c rc) _ pB iN YRel.body h (Q:=tQ (xA P rcs KP Q) Q) fun e s' h=>by
   cases e with
   |normal=>exact aIo hT hK hQ h
   |_=>exact hQ _ _ h
  rw[xE]at this;exact this
theorem aFf[YL]{g:Sig}(hg:nG P u u1 g){r:RT out}(h:aLe g N k rs n out s=some r)(hnbs:nbs.map some=erB (cV out r).own):
  ∃hs bs2,hs.Nodup/\aFw s.er.nx hs=true/\(∀h∈hs,(s.er.lk h).any Blk.isIt=false)/\bs2.length=hs.length/\
   DRec P g.fn (AV.convL s.er.lk (vU hs) (aB9 N s.er k)) (pQ s.er.lk hs) u u1 bs2/\mJ n rs (XV.val (cV out r).env).er (erB (cV out r).bs) nbs .ret (eE s.er hs (aB9 N s.er k) none .any bs2 []):=by
 unfold aLe aRz at h;split at h
 case h_2=>cases h
 rename_i hds hno _;obtain⟨v,rr,bl,hr,hbl,hpv,hargs,hh,c1,c2,c3,c4,c5,hk,he⟩:=aDf h;have hown:=aKk rr hno;have hrec:=hg v rr hr hown;rw[hargs,<-hh,aM3]at hrec;obtain⟨x,hx,_,hq⟩:=kP hk;cases hx;have hend:=hq .ret (.inr rfl) nbs hnbs;rw[he,aM3]at hend;have hbl0:bl=[]:=by rw[hown]at hbl;exact jo.1 (jo.1 hbl)
 subst hbl0;exact⟨hds,_,c1,c2,c4,c5,hrec,hend⟩
theorem aZj(N:Nat){T:List Sig}(hT:gQ P T)(fl:List Nat)(A:List Ann)(AP:List (List Ann)){gr gp:Sig}{pv:Value}(hgr:nG P .returning .returning gr)(hgp:nG P (.panicking [{v:=pv,recovered:=false}]) (.panicking [{v:=pv,recovered:=true}]) gp){F:fty ent.tys (RT out)}(hf:P.funcs[f]?=some fn)(hb:fn.body=some c)(hname:(fn.name== "runtime.NumGoroutine")=false)(hm:P.follows .mixedOrders=true)
  (hno:aEs out=false) (hn:ent.env.length<=fn.ntmps) (hF:∀a,apF ent.tys F a=apF ent.tys (aS8 N P T fl A AP gr gp pv fn c ent out) a):aG P ⟨f,ent,out,F⟩:=by
 intro _ v r h nbs hnbs;have h:apF ent.tys F v=some r:=h;rw[hF]at h;unfold aS8 at h;split at h
 case h_2=>rw[cR]at h;cases h
 rename_i rcs ros g xs rc rs hrc hrs;split at h
 case h_2=>rw[cR]at h;cases h
 rename_i hg;rw[cR]at h;rw[μ]at hg;have hg1:=η hg.1;have hg2:=η hg.2;have hlen:(erB (ent.fill v).bs).length=ent.bs.length:=by show(List.map _ (mK _ ent.bs _).1).length=_;rw[ι,mZ]
 have hargs:((ent.fill v).env.map fun p=>p.2.er).length<=fn.ntmps:=by show(List.map _ (wW _ ent.env _).1).length<=_;rw[ι,sT];exact hn
 show zY P f _ _ (cV out r) nbs;unfold zY;rw[aVb hno];refine ACall.of_bodyRR fl hf hb hname hm hrc hrs hargs (aPa (ent.fill v)) ?_;rw[hlen];refine aIo hT (fun s h=>?_) (fun e s h=>?_) h
 case refine_2=>
  cases e with
  |ret=>
   obtain⟨x,hx,_,hq⟩:=kP (show vT rs ent.bs.length out s some=some r from h);cases hx;exact hq _ (.inr rfl) nbs hnbs
  |_=>cases h
 have:=iT hT h (KP:=fun s'=>dX P iN rc (aPt P fn.ntmps ent.bs.length g xs.length rs (XV.val (cV out r).env).er (erB (cV out r).bs) nbs) (aSz fn.ntmps (xs.map s'.ev) s')) fun s' h=>by
  obtain⟨vs,h,e⟩:=aB3 h;rw[e,<-aXi];have:=cC hT (xU P fl [] A _ rc) _ pB iN YRel.body h (Q:=aPt P fn.ntmps ent.bs.length g xs.length rs (XV.val (cV out r).env).er (erB (cV out r).bs) nbs) fun e s2 h=>by
   unfold aZc at h;split at h
   ·obtain⟨hs,bs2,q⟩:=aFf hgr h hnbs;rw[<-hg1]at q;exact⟨_,_,.inl ⟨.inl rfl,rfl,rfl⟩,hs,bs2,q⟩
   ·obtain⟨hs,bs2,q⟩:=aFf hgr h hnbs;rw[<-hg1]at q;exact⟨_,_,.inl ⟨.inr rfl,rfl,rfl⟩,hs,bs2,q⟩
   ·split at h
    ·rename_i w _ he;obtain rfl:=aJg he;obtain⟨hs,bs2,q⟩:=aFf hgp (by assumption) hnbs;rw[<-hg2]at q;exact⟨_,_,.inr ⟨_,rfl,rfl,rfl⟩,hs,bs2,q⟩
    ·cases h
   ·cases h
  rw[xE]at this;exact this
 rw[lL]at this;exact this
theorem aWf(N:Nat){T:List Sig}(hT:gQ P T)(fl:List Nat)(A:List Ann){gr gp:Sig}{pv:Value}(hgr:nG P .returning .returning gr)(hgp:nG P (.panicking [{v:=pv,recovered:=false}]) (.panicking [{v:=pv,recovered:=true}]) gp){F:fty ent.tys (RT out)}(hf:P.funcs[f]?=some fn)(hb:fn.body=some c)(hname:(fn.name== "runtime.NumGoroutine")=false)(hm:P.follows .mixedOrders=true)
  (hno:aEs out=false) (hn:ent.env.length<=fn.ntmps) (hF:∀a,apF ent.tys F a=apF ent.tys (aS8 N P T fl A [] gr gp pv fn c ent out) a):aG P ⟨f,ent,out,F⟩:=aZj N hT fl A [] hgr hgp hf hb hname hm hno hn hF
end
end Go.Eng
namespace Go.Eng
open Go.RowKit Go.ChangeShapes Go.WideShapes Go.ChangeAt
variable{P:Program}{t e:TypeId}{G:Gh}{m:HM}{W w:World}{v:Value}{α H:Type}{k base:Nat}{cs:List Value}{ds:List DV}{f:Nat->Option Value}{vs:Array Value}{d:TypeDesc}
def gOf(w:World):Gh:=fun b o=>w.cell? ⟨b,o,none⟩
def CRep(G:Gh)(ds:List DV)(cs:List Value):Prop:=ds.length=cs.length/\DV.cells G (fun j=>cs[j]?) 0 ds
theorem CRep.nil:CRep G [] []:=⟨rfl,by simp[DV.cells]⟩
theorem CRep.app{d1 d2:List DV}(n:Nat)(h1:CRep G d1 (cs.take n))(h2:CRep G d2 (cs.drop n)):CRep G (d1++d2) cs:=by
 obtain⟨l1,c1⟩:=h1;obtain⟨l2,c2⟩:=h2;rw[bz]at l1;rw[υ]at l2;refine⟨by rw[κ];omega,DV.cells_append (DV.cells_congr (fun i hi=>?_) c1) (DV.cells_congr (o:=0) (fun i hi=>?_) c2)⟩
 ·simp only[bq];rw[dq (by omega)]
 ·simp only[bq];rw[en];rcases dv n cs.length with h|h
  ·rw[show d1.length=n by omega]
  ·exfalso;omega
theorem CRep.one{d:DV}(h:DV.Rep G d v):CRep G [d] [v]:=⟨rfl,by simp[DV.cells];exact h⟩
structure Cv (P:Program) (t:TypeId) {α:Type} (row:α->List DV) (k:Nat) (ok:α->Prop):Prop where
 len:∀x,(row x).length=k
 cells:P.cellsOf t=k
 get:∀{H:Type} (enc:TypeId×Value->H) (w:World) (spare:Nat->Bool) (held:Bool) (fuel:Nat) (cs:List Value) (r:DataW H×List MemPlace),DataW.trod enc P w 0 spare held fuel t cs=some r->∃x,ok x/\CRep (gOf w) (row x) cs
theorem Cv.int{P:Program}{t:TypeId}{k:IntKind}(ht:P.underlying t=some (.int k))(hc:P.cellsOf t=1):Cv P t (Ty.i k).ds 1 fun n=>k.min<=n/\n<=k.max:=
 ⟨fun _=>rfl,hc,fun enc w spare held fuel cs r h=>by
  obtain⟨n,rfl,_,hw⟩:=DataW.trod_int ht h;simp only[Lit.wf,μ,decide_eq_true_eq]at hw;exact⟨n,hw,CRep.one (by unfold DV.Rep;rfl)⟩⟩
theorem Cv.bool{P:Program}{t:TypeId}(ht:P.underlying t=some .bool)(hc:P.cellsOf t=1):Cv P t Ty.b.ds 1 fun _=>True:=
 ⟨fun _=>rfl,hc,fun enc w spare held fuel cs r h=>by
  obtain⟨b,rfl,_⟩:=DataW.trod_bool ht h;exact⟨b,trivial,CRep.one (by unfold DV.Rep;rfl)⟩⟩
theorem Cv.string{P:Program}{t:TypeId}(ht:P.underlying t=some .string)(hc:P.cellsOf t=1):Cv P t Ty.s.ds 1 fun s=>s.length<=9223372036854775807:=
 ⟨fun _=>rfl,hc,fun enc w spare held fuel cs r h=>by
  obtain⟨s,rfl,_,hs⟩:=DataW.trod_string ht h;exact⟨s.data.toList,by simpa[maxLen]using hs,CRep.one (by unfold DV.Rep;rfl)⟩⟩
theorem aI3{α:Type}{Q:Nat->α->Prop}:∀(n:Nat),(∀i,i<n->∃x,Q i x)->∃xs:List α,xs.length=n/\∀i x,xs[i]?=some x->Q i x
 |0,_=>⟨[],rfl,fun i x h=>by simp at h⟩
 |n+1,h=>by
  obtain⟨xs,h1,h2⟩:=aI3 n (fun i hi=>h i (by omega));obtain⟨x,hx⟩:=h n (by omega);refine⟨xs++[x],by simp[h1],fun i y hy=>?_⟩;rcases dv i xs.length with hi|hi
  ·rw[b6 hi]at hy;exact h2 i y hy
  ·rw[cg hi]at hy;have:i-xs.length=0:=by
    rcases Nat.eq_zero_or_pos (i-xs.length)with e|e
    ·exact e
    ·rw[dc (by simp;omega)]at hy;cases hy
   rw[this]at hy;simp at hy;subst hy;rw[show i=n by omega];exact hx
theorem aP5{α:Type}{G:Gh}{row:α->List DV}{k:Nat}{f:Nat->Option Value}(hk:∀x,(row x).length=k):∀(xs:List α) (o:Nat),(∀i x,xs[i]?=some x->DV.cells G f (o+i*k) (row x))->DV.rows G f k o (xs.map row)
 |[],_,_=>by simp[DV.rows]
 |x::xs,o,h=>by simp only[df];unfold DV.rows;refine⟨hk x,by simpa using h 0 x rfl,aP5 hk xs (o+k) (fun i y hy=>?_)⟩;have:=h (i+1) y (by simpa using hy);rwa[Nat.add_mul,Nat.one_mul,Nat.add_comm (i*k) k,<-gc]at this
theorem Cv.slice{P:Program}{t e:TypeId}{α:Type}{row:α->List DV}{k:Nat}{ok:α->Prop}(hE:Cv P e row k ok)(hk:0<k)(ht:P.underlying t=some (.slice e))(hc:P.cellsOf t=1):
  Cv P t (fun xs:List α=>[DV.L (xs.map row)]) 1 fun xs=>xs.length<=9223372036854775807/\∀x∈xs,ok x:=
 ⟨fun _=>rfl,hc,fun enc w spare held fuel cs r h=>by
  rcases Go.Deep.open_slice ht h with⟨rfl,_⟩|⟨a,len,cap,m,n,D,Pl,rfl,_,hl,hm,hmm,_,hi⟩
  ·refine⟨[],⟨by simp,by simp⟩,CRep.one ?_⟩;unfold DV.Rep;exact⟨none,0,rfl,π _,fun _=>rfl,fun h=>absurd rfl h⟩
  ·have hlm:len<=m:=by rw[hmm];split<;>omega
   obtain⟨xs,h1,h2⟩:=aI3 (Q:=fun i x=>ok x/\∃cs',w.cells? 0 (a.add (i*P.cellsOf e)) (P.cellsOf e)=some cs'/\CRep (gOf w) (row x) cs') len (fun i hil=>by
    obtain⟨cs',hc',htr⟩:=hi i (by omega);obtain⟨x,hx,hr⟩:=hE.get enc w spare held n cs' _ htr;exact⟨x,hx,cs',hc',hr⟩)
   refine⟨xs,⟨by rw[h1];simp[maxLen]at hm;omega,fun x hx=>?_⟩,CRep.one ?_⟩
   ·obtain⟨i,hi⟩:=d5 hx;exact(h2 i x hi).1
   ·unfold DV.Rep;refine⟨some a,cap,by rw[ι,h1],by rw[ι,h1];exact hl,(fun e=>by cases e),fun hne=>?_⟩;have hx0:∃x,xs[0]?=some x:=by
     cases xs with
     |nil=>simp at hne
     |cons x _=>exact⟨x,rfl⟩
    obtain⟨x0,hx0⟩:=hx0;obtain⟨_,cs0,hc0,hl0,_⟩:=h2 0 x0 hx0;obtain⟨_,hcl0,hat0⟩:=World.cells?_some hc0;rw[hE.cells]at hcl0 hat0;have hspot:a=⟨a.block,a.off,none⟩:=by
     have h3:=hat0 0 hk;have h4:(cs0[0]?).isSome=true:=by rw[ν (by omega)];rfl
     rw[<-h3]at h4;obtain⟨b,o,sp⟩:=a;cases sp with
     |none=>rfl
     |some _=>exfalso;simp[World.cell?,Addr.add]at h4;split at h4<;>cases h4
    refine⟨a.block,a.off,k,by rw[<-hspot],aP5 hE.len xs a.off (fun i x hx=>?_)⟩;obtain⟨_,cs',hc',hl',hcr⟩:=h2 i x hx;obtain⟨_,hcl,hat⟩:=World.cells?_some hc';rw[hE.cells]at hcl hat;refine DV.cells_congr (o:=0) (fun j hj=>?_) hcr;have hj':j<k:=by rw[hE.len]at hj;exact hj
    have:=hat j hj';rw[hspot,Addr.add_lit,Addr.add_lit]at this;rw[bq,<-this];rfl⟩
theorem Cv.struct{P:Program}{t:TypeId}{fs:Array Field}{α:Type}{row:α->List DV}{k:Nat}{ok:α->Prop}(ht:P.underlying t=some (.struct fs))(hc:P.cellsOf t=k)(hlen:∀x,(row x).length=k)
  (h:∀(G:Gh) (cs:List Value),cs.length=k->(∀(i:Nat) (f:Field),fs[i]?=some f->∀{α:Type} {row:α->List DV} {k':Nat} {ok:α->Prop},Cv P f.type row k' ok->∃x,ok x/\CRep G (row x) ((cs.drop f.offset).take k'))->∃x,ok x/\CRep G (row x) cs):Cv P t row k ok:=
 ⟨hlen,hc,fun enc w spare held fuel cs r hr=>by
  obtain⟨xs,n,_,_,hcl,hxl,hf⟩:=DataW.trod_struct ht hr;refine h (gOf w) cs (by rw[hcl,hc]) (fun i f hi α' row' k' ok' hcv=>?_);have h1:=hf i f hi;have hlt:=(Array.getElem?_eq_some_iff.1 hi).1;rw[ν (by omega)]at h1;obtain⟨x,hx,hxr⟩:=hcv.get enc w spare held n _ _ h1;rw[hcv.cells]at hxr;exact⟨x,hx,hxr⟩⟩
theorem CRep.cons{rest:List DV}{o:Nat}(h1:CRep G ds ((cs.drop o).take k))(h2:CRep G rest (cs.drop (o+k))):CRep G (ds++rest) (cs.drop o):=
 CRep.app k h1 (by rwa[eg])
theorem aGf(h:CRep G ds cs):AV.RepL G m (ds.map .D) cs:=
 AV.RepL_data h.2 (fun j hj=>by rw[bq]) h.1.symm
theorem zA{d:DV}(h:CRep G [d] v.cells.toList)(hv:v.oneCell'=true):AV.Rep G m (.D d) v:=by have:=aGf (m:=m) h;rw[wB hv]at this;simp only[df,List.map_nil]at this;unfold AV.RepL at this;obtain⟨u,us,e,h2,_⟩:=this;cases e;exact h2
theorem aLm{cs:Array Value}(h:CRep G ds cs.toList):AV.Rep G m (.agg (ds.map .D)) (.agg cs):=by unfold AV.Rep;exact⟨cs,rfl,aGf h⟩
theorem aWg(w:World)(hg:GlOk (gOf w)):Sim (gOf w) (fun _=>none) (fK [] []) w:=⟨(fun _ _ _ h=>by cases h),(fun _ h=>by cases h),(fun _ _ _ _ _ h=>by cases h),(fun _ _ _ h=>h),(fun _ h=>by cases h),hg,(fun _ _ _ _ h=>by cases h)⟩
theorem CallDoes.calls{f:FuncId}{R:Value->World->Prop}(hfn:aTn P f)(h:CallDoes P f vs w R):Calls P f vs w fun e w'=>∃v,e=.returned v/\R v w':=by
 rcases h with⟨_,h⟩|⟨v,w',h1,_⟩
 ·exact h
 ·exfalso;obtain⟨fd,q1,q2,q3⟩:=hfn;have hnone:fd.body.isNone=false:=by rw[Option.isNone_eq_false_iff];exact q2
  simp only[callFunc,Sem.run_bind,run_program,Result.andThen_ok,q1,q3,hnone,Bool.false_eq_true,if_false]at h1;simp at h1
theorem aRk{f:FuncId}{args:List AV}(hfn:aTn P f)(hg:GlOk (gOf w))(hc:ACall P f args [] (.D (.B true)) [] [])(hr:AV.RepL (gOf w) (fun _=>none) args vs.toList):
  Calls P f vs w fun e w'=>e=.returned (.bool true)/\Below w.heap.size w w':=
 (CallDoes.calls hfn (hc w (gOf w) _ vs (aWg w hg) (fun _=>rfl) hr)).mono fun e w' ⟨v,he,G',m',_,hv,hF,_⟩=>by have:=zG hv;subst this;exact⟨he,hF.os,hF.tape.1,hF.output,hF.size,fun b hb=>hF.heap b hb (Own.no b)⟩
theorem wK{H:Type}{enc:TypeId×Value->H}{P:Program}(hl:laidOutB P=true){W W':World}(hb:Below W.heap.size W W')(sp:Nat->Bool):∀{ts:List TypeId} {vs:List Value} {ds:List (DataW H)} {ps:List MemPlace},
  (∀t∈ts,P.readableRec t=true/\t<P.types.size)->DataW.TrodAll enc P W 0 (fun _=>true) true ts vs ds ps->(∀p∈ps,p.block<W.heap.size)->(∀p∈ps,sp p.block=true)->DataW.TrodAll enc P W' 0 sp true ts vs ds ps
 |[],[],[],_,_,h,_,_=>h
 |t::ts,v::vs,d::ds,ps,ht,h,hlt,hsp=>by
  obtain⟨p,q,h1,h2,rfl⟩:=h;exact⟨p,q,WideElems.Trod_stays hl (ht t (by simp)).1 (ht t (by simp)).2 h1 (fun x hx=>hb.same (hlt x (by simp[hx]))) (fun x hx=>hsp x (by simp[hx])),
   wK hl hb sp (fun t' h'=>ht t' (by simp[h'])) h2 (fun x hx=>hlt x (by simp[hx])) (fun x hx=>hsp x (by simp[hx])),rfl⟩
 |[],[],_::_,_,_,h,_,_=>h.elim
 |[],_::_,ds,_,_,h,_,_=>by cases ds<;>exact h.elim
 |_::_,[],ds,_,_,h,_,_=>by cases ds<;>exact h.elim
 |_::_,_::_,[],_,_,h,_,_=>h.elim
theorem aU1{f:Func}{s:ChangeSpec}{enc:TypeId×Value->H}{W':World}{args:Array Value}{ds:List (DataW H)}{before:List MemPlace}{tb:TypeId}(hl:laidOutB P=true)
  (hW:DataW.Whole enc P f.params.toList s.vars false W args.toList ds [] before) (hvars:s.vars=[]) (hs:s.fn H (ds++[])={results:=[.lit (.bool true)],args:=ds}) (hr:f.resultTypes=#[tb]) (htb:P.underlying tb=some .bool)
  (hp:∀t∈f.params.toList,P.readableRec t=true/\t<P.types.size) (hb:Below W.heap.size W W'):s.post enc P f false true false false W args (.bool true) W':=by
 have hlt:∀p∈before,p.block<W.heap.size:=fun p hp=>hW.lt p hp;have hW0:=hW;obtain⟨p,q,hA,hV,hpq,hz,hn⟩:=hW0;have hV0:=hV;rw[hvars]at hV0;have hq:q=[]:=by simpa[DataW.TrodVars]using hV0
 subst hq;rw[bj]at hpq;subst hpq;have hstay:∀sp:Nat->Bool,(∀x∈before,sp x.block=true)->DataW.TrodAll enc P W' 0 sp true f.params.toList args.toList ds before:=fun sp hsp=>wK hl hb sp hp hA hlt hsp;have hres:∀(b:Nat) (sp:Nat->Bool) (hd:Bool),DataW.TrodAll enc P W' b sp hd f.resultTypes.toList ((Value.bool true).resultList f.resultTypes.size) [.lit (.bool true)] []:=fun b sp hd=>by rw[hr];exact trodAll_mk1 ⟨1,by simp[DataW.trod,Value.cells,htb]⟩
 have hvt:∀sp:Nat->Bool,DataW.TrodVars enc P W' sp s.vars (s.fn H (ds++[])).vars []:=fun sp=>by rw[hvars,hs];exact rfl
 refine⟨ds,[],before,[],before,[],hW,by rw[hs];exact hres _ _ _,by rw[hs];exact hstay _ (fun p hp=>by simpa using hlt p hp),hvt _,World.keptBut_mono (fun p hp=>⟨hp,.inr (.inl hp)⟩) (hb.frame (· ∈before)),fun h=>by cases h⟩
theorem DV.cells_of{G:Gh}{f:Nat->Option Value}:∀{ds:List DV} {o:Nat},(∀i d,ds[i]?=some d->∃v,f (o+i)=some v/\DV.Rep G d v)->DV.cells G f o ds
 |[],o,_=>by unfold DV.cells;trivial
 |d::ds,o,h=>by
  unfold DV.cells;obtain⟨v,h1,h2⟩:=h 0 d rfl;exact⟨⟨v,h1,h2⟩,DV.cells_of fun i e hi=>by
   obtain⟨u,h3,h4⟩:=h (i+1) e (by simpa using hi);exact⟨u,by rw[<-h3];congr 1;omega,h4⟩⟩
theorem Cv.array{P:Program}{t e:TypeId}{n:Nat}{k:IntKind}(he:P.underlying e=some (.int k))(hce:P.cellsOf e=1)(ht:P.underlying t=some (.array n e))(hc:P.cellsOf t=n):
  Cv P t (Ty.ar n k).ds n fun x=>∀y∈x.l,k.min<=y/\y<=k.max:=⟨fun x=>Ty.ds_len (.ar n k) x,hc,fun enc w spare held fuel cs r h=>by
  obtain⟨xs,m,_,_,hcl,hxl,hf⟩:=DataW.trod_array ht h;rw[hc]at hcl;simp only[hce,dk]at hf;obtain⟨zs,hl,hz⟩:=aI3 (Q:=fun i z=>(k.min<=z/\z<=k.max)/\cs[i]?=some (.int k z)) n fun i hi=>by have h1:=hf i hi;rw[ν (by omega)]at h1;obtain⟨z,hz,_,hw⟩:=DataW.trod_int he h1;simp only[Lit.wf,μ,decide_eq_true_eq]at hw;refine⟨z,hw,?_⟩;have h2:=congrArg (·[0]?) hz;simpa[List.getElem?_take,en]using h2
  refine⟨⟨zs,hl⟩,fun y hy=>?_,?_⟩
  ·obtain⟨i,hi⟩:=d5 hy;exact(hz i y hi).1
  ·refine⟨by rw[Ty.ds_len];show n=_;omega,DV.cells_of fun i d hd=>?_⟩;have hd:(zs.map (DV.I k))[i]?=some d:=hd;rw[τ,ζ]at hd;obtain⟨z,hz1,rfl⟩:=hd;exact⟨_,by rw[bq];exact(hz i z hz1).2,by unfold DV.Rep;rfl⟩⟩
theorem aKz{name:String}{g:Nat}{k:IntKind}{zs:List Int}(hT:Lib.TabIs P W name k zs)(hg:P.globalNamed name=some g):DV.cells (gOf W) (gOf W g) 0 (zs.map (DV.I k)):=by refine DV.cells_of fun i d hd=>?_;rw[τ,ζ]at hd;obtain⟨z,hz,rfl⟩:=hd;have hi:i<zs.length:=(ω.1 hz).1;refine⟨.int k z,?_,by unfold DV.Rep;rfl⟩;have h1:=hT.cell hg i hi;rw[List.getD,hz]at h1;rw[bq];exact h1
def Ty.ok:(t:Ty)->t.T->Prop
 |.i k,n=>k.min<=n/\n<=k.max
 |.s,x=>x.length<=9223372036854775807
 |.sl t,xs=>xs.length<=9223372036854775807/\∀x∈xs,t.ok x
 |.ar _ k,x=>∀y∈x.l,k.min<=y/\y<=k.max
 |.p a c,v=>a.ok v.1/\c.ok v.2
 |.w a,v=>a.ok v
 |_,_=>True
def isD:TypeDesc->TypeDesc->Bool
 |.bool,.bool=>true
 |.string,.string=>true
 |.int k,.int k'=>decide (k=k')
 |_,_=>false
theorem bA4:∀{a b:TypeDesc},isD a b=true->a=b:=by intro a b h;unfold isD at h;split at h<;>first|rfl|(rw[of_decide_eq_true h];done)|cases h
def aXf(P:Program)(t:TypeId)(d:TypeDesc):Bool:=match P.underlying t with
 |some d'=>isD d' d
 |none=>false
theorem aOk(h:aXf P t d=true):P.underlying t=some d:=by
 unfold aXf at h;split at h
 ·rename_i d' hd;rw[hd,bA4 h]
 ·cases h
def uW(P:Program)(t:TypeId)(d:TypeDesc):Bool:=aXf P t d&&χ (P.cellsOf t) 1
def aBl(g:TypeId->Bool)(fs:List Field)(o:Nat):Bool:=match fs with
 |[f]=>χ f.offset o&&g f.type
 |_=>false
def slB(P:Program)(n:Nat)(g:TypeId->Bool)(t:TypeId):Bool:=match P.underlying t with
 |some (.slice e)=>g e&&χ (P.cellsOf t) 1&&Nat.blt 0 n
 |_=>false
def arB(P:Program)(n:Nat)(k:IntKind)(t:TypeId):Bool:=match P.underlying t with
 |some (.array m e)=>χ m n&&aXf P e (.int k)&&χ (P.cellsOf e) 1&&χ (P.cellsOf t) n
 |_=>false
def stB(P:Program)(n:Nat)(g:List Field->Nat->Bool)(t:TypeId):Bool:=match P.underlying t with
 |some (.struct fs)=>g fs.toList 0&&χ (P.cellsOf t) n
 |_=>false
def aUd(n:Nat)(g:TypeId->Bool)(h:List Field->Nat->Bool)(fs:List Field)(o:Nat):Bool:=match fs with
 |f::fs=>χ f.offset o&&g f.type&&h fs (o+n)
 |[]=>false
def bBu:List Field->Nat->Bool
 |[],_=>true
 |_,_=>false
def cvB(P:Program):Ty->(TypeId->Bool)×(List Field->Nat->Bool)
 |.u=>(fun _=>false,bBu)
 |.b=>(fun t=>uW P t .bool,aBl fun t=>uW P t .bool)
 |.i k=>(fun t=>uW P t (.int k),aBl fun t=>uW P t (.int k))
 |.s=>(fun t=>uW P t .string,aBl fun t=>uW P t .string)
 |.ar n k=>(arB P n k,aBl (arB P n k))
 |.sl t=>(slB P t.n (cvB P t).1,aBl (slB P t.n (cvB P t).1))
 |.w x=>(stB P x.n (cvB P x).2,aBl (stB P x.n (cvB P x).2))
 |.p a c=>(fun _=>false,aUd a.n (cvB P a).1 (cvB P c).2)
 |.o _=>(fun _=>false,fun _ _=>false)
def bGv(P:Program)(G:Gh)(cs:List Value)(f:Field):Prop:=∀{α:Type} {row:α->List DV} {k':Nat} {ok:α->Prop},Cv P f.type row k' ok->∃x,ok x/\CRep G (row x) ((cs.drop f.offset).take k')
def aZn(P:Program)(t:Ty)(fs:List Field)(o:Nat):Prop:=∀(G:Gh) (cs:List Value),cs.length=o+t.n->(∀f∈fs,bGv P G cs f)->∃x:t.T,t.ok x/\CRep G (t.ds x) (cs.drop o)
theorem pW{g:TypeId->Bool}{t:Ty}(hg:∀i,g i=true->Cv P i t.ds t.n t.ok){fs:List Field}{o:Nat}(h:aBl g fs o=true):aZn P t fs o:=by
 unfold aBl at h;split at h
 ·rename_i f;simp only[μ]at h;have ho:=η h.1;intro G cs hl hf;obtain⟨x,hx,hr⟩:=hf f (List.mem_singleton.2 rfl) (hg _ h.2);refine⟨x,hx,?_⟩;rw[ho,bn (by rw[υ];omega)]at hr;exact hr
 ·cases h
theorem jU(h:uW P t d=true):P.underlying t=some d/\P.cellsOf t=1:=by simp only[uW,μ]at h;exact⟨aOk h.1,η h.2⟩
theorem aEr(P:Program):∀T:Ty,(∀i,(cvB P T).1 i=true->Cv P i T.ds T.n T.ok)/\∀fs o,(cvB P T).2 fs o=true->aZn P T fs o
 |.u=>by
  refine⟨fun _ h=>(by cases h),fun fs o h=>?_⟩;cases fs with
  |nil=>exact fun G cs hl _=>⟨(),trivial,by rw[List.drop_of_length_le (by simp[hl,Ty.n])];exact CRep.nil⟩
  |cons _ _=>cases h
 |.b=>by
  have h1:∀i,uW P i .bool=true->Cv P i Ty.b.ds 1 Ty.b.ok:=fun i h=>Cv.bool (jU h).1 (jU h).2;exact⟨h1,fun fs o h=>pW (t:=.b) h1 h⟩
 |.i k=>by
  have h1:∀i,uW P i (.int k)=true->Cv P i (Ty.i k).ds 1 (Ty.i k).ok:=fun i h=>Cv.int (jU h).1 (jU h).2;exact⟨h1,fun fs o h=>pW (t:=.i k) h1 h⟩
 |.s=>by
  have h1:∀i,uW P i .string=true->Cv P i Ty.s.ds 1 Ty.s.ok:=fun i h=>Cv.string (jU h).1 (jU h).2;exact⟨h1,fun fs o h=>pW (t:=.s) h1 h⟩
 |.ar n k=>by
  have h1:∀i,arB P n k i=true->Cv P i (Ty.ar n k).ds n (Ty.ar n k).ok:=fun i h=>by
   unfold arB at h;split at h
   ·rename_i m e hu;simp only[μ,decide_eq_true_eq]at h;obtain⟨⟨⟨h1,h2⟩,h3⟩,h4⟩:=h;obtain rfl:=η h1;exact Cv.array (aOk h2) (η h3) hu (η h4)
   ·cases h
  exact⟨h1,fun fs o h=>pW (t:=.ar n k) h1 h⟩
 |.sl t=>by
  have h1:∀i,slB P t.n (cvB P t).1 i=true->Cv P i (Ty.sl t).ds 1 (Ty.sl t).ok:=fun i h=>by
   unfold slB at h;split at h
   ·rename_i e hu;simp only[μ]at h;exact Cv.slice ((aEr P t).1 _ h.1.1) (d7 Nat.zero_lt_one (e8 h.2)) hu (η h.1.2)
   ·cases h
  exact⟨h1,fun fs o h=>pW (t:=.sl t) h1 h⟩
 |.w x=>by
  have h1:∀i,stB P x.n (cvB P x).2 i=true->Cv P i (Ty.w x).ds x.n (Ty.w x).ok:=fun i h=>by
   unfold stB at h;split at h
   ·rename_i fs hu;simp only[μ]at h;refine Cv.struct hu (η h.2) (fun y=>Ty.ds_len x y) fun G cs hl hf=>?_;obtain⟨y,hy,hr⟩:=(aEr P x).2 _ _ h.1 G cs (by rw[hl,bq]) fun f hm=>by obtain⟨i,hi⟩:=d5 hm;rw[Array.getElem?_toList]at hi;exact fun{α} {row} {k'} {ok} hcv=>hf i f hi hcv
    exact⟨y,hy,hr⟩
   ·cases h
  exact⟨h1,fun fs o h=>pW (t:=.w x) h1 h⟩
 | .p a c=>by
   refine⟨fun _ h=>(by cases h),fun fs o h=>?_⟩;have h:aUd a.n (cvB P a).1 (cvB P c).2 fs o=true:=h;cases fs with
   |nil=>cases h
   |cons f fs=>
    simp only[aUd,μ]at h;intro G cs hl hf;have hl:cs.length=o+(a.n+c.n):=hl;obtain⟨x,hx,hr⟩:=hf f (c9 ..) ((aEr P a).1 _ h.1.2);rw[η h.1.1]at hr;obtain⟨y,hy,hq⟩:=(aEr P c).2 _ _ h.2 G cs (by omega) fun g hg=>fun{α} {row} {k'} {ok} hcv=>hf g (dw _ hg) hcv;exact⟨(x,y),⟨hx,hy⟩,CRep.cons hr hq⟩
 |.o _=>⟨fun _ h=>(by cases h),fun _ _ h=>(by cases h)⟩
def cvL(P:Program):List Ty->List TypeId->Bool
 |[],[]=>true
 |T::Ts,t::ts=>(cvB P T).1 t&&cvL P Ts ts
 |_,_=>false
def aL8:(Ts:List Ty)->tup Ts->Prop
 |[],_=>True
 |T::Ts,x=>T.ok x.1/\aL8 Ts x.2
def aGj:(Ts:List Ty)->tup Ts->List AV
 |[],_=>[]
 |T::Ts,x=>gI T x.1::aGj Ts x.2
theorem aNi{r:Reach}{n:Nat}(ht:P.underlying t=some (.array n e))(h:Value.okWide P w r base t v):∃cs,v=.agg cs:=by unfold Value.okWide at h;rw[ht]at h;obtain⟨cs,h,_⟩:=h;exact⟨cs,h⟩
theorem aXe{T:Ty}{x:T.T}(hc:(cvB P T).1 t=true)(hw:Value.okWide P W .any base t v)(hr:CRep (gOf W) (T.ds x) v.cells.toList):AV.Rep (gOf W) m (gI T x) v:=by
 cases T with
 |u=>cases hc
 |b=>obtain⟨b,rfl⟩:=okWide_bool (jU hc).1 hw;exact zA hr rfl
 |i k=>obtain⟨n,rfl⟩:=okWide_int (k:=k) (jU hc).1 hw;exact zA hr rfl
 |s=>obtain⟨n,rfl⟩:=okWide_string (jU hc).1 hw;exact zA hr rfl
 |p a c=>cases hc
 |w y=>
  have hc:stB P y.n (cvB P y).2 t=true:=hc;unfold stB at hc;split at hc
  ·rename_i fs hu;obtain⟨cs,rfl,_⟩:=okWide_struct hu hw;exact aLm hr
  ·cases hc
 |ar n k=>
  have hc:arB P n k t=true:=hc;unfold arB at hc;split at hc
  ·rename_i m' e hu;obtain⟨cs,rfl⟩:=aNi hu hw;exact aLm hr
  ·cases hc
 |sl y=>
  have hc:slB P y.n (cvB P y).1 t=true:=hc;unfold slB at hc;split at hc
  ·rename_i e hu;obtain⟨a,l,c,rfl⟩:=okWide_slice hu hw;exact zA hr rfl
  ·cases hc
 |o y=>cases hc
theorem aK2{P:Program}{W:World}{base:Nat}{H:Type}{enc:TypeId×Value->H}{spare:Nat->Bool}{held:Bool}{m:HM}:∀{Ts:List Ty} {ts:List TypeId} {vs:List Value} {ds:List (DataW H)} {ps:List MemPlace},cvL P Ts ts=true->DataW.TrodAll enc P W 0 spare held ts vs ds ps->(∀(j:Nat) t v,ts[j]?=some t->vs[j]?=some v->Value.okWide P W .any base t v)->∃x:tup Ts,aL8 Ts x/\AV.RepL (gOf W) m (aGj Ts x) vs
 |[],[],vs,ds,ps,_,hA,_=>by
  obtain⟨rfl,_,_⟩:=trodAll_nil hA;exact⟨(),trivial,rfl⟩
 |T::Ts,t::ts,vs,ds,ps,hc,hA,hw=>by
  simp only[cvL,μ]at hc;obtain⟨v,vs1,d,ds1,p0,p1,rfl,rfl,rfl,t0,hA1⟩:=trodAll_cons hA;obtain⟨f0,t0⟩:=t0;obtain⟨x,hx,hr⟩:=((aEr P T).1 t hc.1).get enc W _ _ f0 _ _ t0;obtain⟨y,hy,hq⟩:=aK2 (m:=m) hc.2 hA1 fun j t v h1 h2=>hw (j+1) t v (by simpa using h1) (by simpa using h2);exact⟨(x,y),⟨hx,hy⟩,_,_,rfl,aXe hc.1 (hw 0 t v rfl rfl) hr,hq⟩
 |[],_::_,_,_,_,h,_,_=>by cases h
 |_::_,[],_,_,_,h,_,_=>by cases h
end Go.Eng
namespace Go.Eng
open Go.RowKit
variable{α β:Type}
@[simp] theorem aM{a b:Option α}:if? true a b=a:=rfl
@[simp] theorem aO{a b:Option α}:if? false a b=b:=rfl
@[simp] theorem aB{x:α}{f:α->Option β}:bd? (some x) f=f x:=rfl
@[simp] theorem aH{xs:List α}{a:Option β}:gl? xs.length xs a=a:=if_pos rfl
theorem aZh{n:Nat}{xs:List α}{a:Option β}(h:n=xs.length):gl? n xs a=a:=if_pos h
@[simp] theorem bGc{α:Type}[DecidableEq α]{x:α}{a:Option β}:gd? (x=x) a=a:=if_pos rfl
theorem aC{p:Prop}[Decidable p]{a:Option α}(h:p):gd? p a=a:=if_pos h
@[simp] theorem xH{r:β}{f:α->Option β}:jn? (some (Sum.inl r)) f=some r:=rfl
@[simp] theorem aF1{x:α}{f:α->Option β}:jn? (some (Sum.inr x)) f=f x:=rfl
@[simp] theorem nL{r:β}:(jN (some r):Option (β⊕α))=some (.inl r):=rfl
@[simp] theorem oC{γ:Type}{x:α}{f:α->Option γ}{g:β->Option γ}:sm? (Sum.inl x) f g=f x:=rfl
@[simp] theorem lT{γ:Type}{y:β}{f:α->Option γ}{g:β->Option γ}:sm? (Sum.inr y) f g=g y:=rfl
theorem xN{n:Int}(h:-9223372036854775808<=n)(h':n<=9223372036854775807):IntKind.wrap .i64 n=n:=by rw[IntKind.wrap_i64];omega
theorem bF{n:Int}{a:Option α}(h:-9223372036854775808<=n)(h':n<=9223372036854775807):ck .i64 n a=a:=by unfold ck;rw[if_pos (xN h h')]
theorem gM{xs:List α}{i:Nat}{x:α}{f:α->Option β}(h:xs[i]?=some x):bS xs (i:Int) f=f x:=by unfold bS;rw[if_pos (Int.natCast_nonneg i),be,h]
theorem sN{xs:List α}{j:Int}{x:α}{f:α->Option β}(h0:0<=j)(h:xs[j.toNat]?=some x):bS xs j f=f x:=by unfold bS;rw[if_pos h0,h]
theorem aYe{xs:List α}{i:Nat}{x:α}{f:α->Option β}(h:xs[i]?=some x):gn? xs i f=f x:=by unfold gn?;rw[h]
end Go.Eng
