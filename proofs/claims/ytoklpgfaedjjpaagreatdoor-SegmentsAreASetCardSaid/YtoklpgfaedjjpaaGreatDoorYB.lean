/- Texts of this claim. -/
import Derived.Test.YtoklpgfaedjjpaaGreatDoorYA
import Derived.ProofKit
import Derived.Deep.Slices
import Derived.OpenShut
import Derived.Lib.LaidTab
open Bool renaming and_assoc->acG,and_eq_true->μ,and_true->abY,eq_iff_iff->aa7,noConfusion->aaS,not_eq_true'->aaZ,or_eq_true->abx
open Int renaming toNat_natCast->π
open List renaming append_assoc->ν,append_nil->aac,drop_append_of_le_length->abq,drop_drop->abc,drop_eq_nil_of_le->abv,ext_getElem?->abO,getD_cons_succ->adm,getElem?_append_left->aak,getElem?_append_right->aam,getElem?_drop->abe,getElem?_eq_getElem->ξ,getElem?_eq_none->aay,getElem?_eq_some_iff->χ,getElem?_map->aaf,getElem?_of_mem->aaK,getElem?_take_of_lt->aaH,length_append->ε,length_drop->aaz,length_map->κ,length_take->aaq,map_append->aau,map_cons->aaN,map_drop->aaI,map_eq_nil_iff->abR,map_map->abF,map_replicate->abW,map_set->ace,map_take->aaA,mem_cons->υ,mem_cons_of_mem->aaa,mem_cons_self->aao,nil_append->aaW,nodup_cons->abh,replicate->aag,take_append_of_le_length->abZ,take_of_length_le->aaw
open Nat renaming add_assoc->abJ,beq->aae,beq_eq->abA,beq_refl->acL,ble->ade,blt->ado,eq_of_beq_eq_true->θ,le_add_right->abL,le_of_ble_eq_true->abd,le_refl->me,lt_of_lt_of_le->aa0,lt_or_ge->aaY,mul_one->aaL,zero_add->aal,zero_le->aa2
open Option renaming ite_none_right_eq_some->ζ,map_eq_some_iff->ι
set_option linter.all false
namespace Go.Eng
open Go.RowKit
variable{s m ent s':XS}{P:Program}{v a vy y vf vz:XV}{KP:aq->Prop}{k off n sz N bytes:Nat}{t V K:Ty}{vs l xs ys:List XV}{out:List XS}{α:Type}{dst ag:Option Nat}{f:FuncId}{fn:Func}{ty:Option Ty}{hd h:Hd}{rs:List eg}{c:Code}{q wr:Bool}{yo xo zo:Operand}{hs:List Hd}{j:Int}{zs:List AV}{w:Value}{ds:List DV}{b:Option XB}{nbs:List bp}{u u1:FrameMode}
section
variable{R:Type}
theorem Qa[YL]{K:List t.T->Option R}{r:R}(h:qD s (.sl t) v K=some r):
  ∃xs:List t.T,K xs=some r/\AV.content s.er.lk v.er=some (xs.map t.ds)/\AV.tr v.er=false:=by
 unfold qD at h;split at h
 ·rename_i t' x;split at h
  ·rename_i y hy;obtain⟨e,rfl⟩:=Ty.ct hy;subst e;exact⟨x,h,rfl,rfl⟩
  ·cases h
 ·rename_i t' xs;split at h
  ·rename_i y hy;obtain⟨e,rfl⟩:=Ty.ct hy;cases e;exact⟨xs,h,rfl,rfl⟩
  ·cases h
 ·have h:K []=some r:=h;exact⟨[],h,rfl,rfl⟩
 ·have h:K []=some r:=h;exact⟨[],h,rfl,rfl⟩
 ·rename_i hd t' len;split at h
  ·rename_i mt t2 xs hl;split at h
   ·rename_i hb;obtain rfl:=Ty.fm hb;split at h
    ·rename_i y hy;obtain⟨e,rfl⟩:=Ty.ct hy;cases e
     replace h:=AU h
     obtain⟨rfl,h⟩:=h;refine⟨xs,h,?_,rfl⟩;show(match s.er.lk hd with|some (.row _ k' es)=>if k'=t.n/\0+xs.length<=es.length then some ((es.drop 0).take xs.length)else none|_=>none)=_;rw[aU,hl];show(if t.n=t.n/\0+xs.length<=(xs.map t.ds).length then some (((xs.map t.ds).drop 0).take xs.length)else none)=_;rw[if_pos ⟨rfl,by rw[κ];omega⟩,List.drop_zero,aaw (by rw[κ];exact me _)]
    ·cases h
   ·cases h
  ·cases h
 ·rename_i hd t' off len;split at h
  ·rename_i mt t2 xs hl;split at h
   ·rename_i hb;obtain rfl:=Ty.fm hb;split at h
    ·rename_i y hy;obtain⟨e,rfl⟩:=Ty.ct hy;cases e;obtain⟨h1,h⟩:=bD h;refine⟨_,h,?_,rfl⟩;show(match s.er.lk hd with|some (.row _ k' es)=>if k'=t.n/\off+len<=es.length then some ((es.drop off).take len)else none|_=>none)=_;rw[aU,hl];show(if t.n=t.n/\off+len<=(xs.map t.ds).length then some (((xs.map t.ds).drop off).take len)else none)=_;rw[if_pos ⟨rfl,by rw[κ];exact h1⟩,aaA,aaI]
    ·cases h
   ·cases h
  ·cases h
 ·rename_i hd off len;split at h
  ·rename_i mt n k x hl;split at h
   ·rename_i y hy;obtain⟨e,rfl⟩:=Ty.ct hy;cases e;obtain⟨h1,h⟩:=bD h;refine⟨_,h,?_,rfl⟩;show(match s.er.lk hd with|some (.row _ k' es)=>if k'=1/\off+len<=es.length then some ((es.drop off).take len)else none|_=>none)=_;rw[aU,hl];show(if 1=1/\off+len<=(x.l.map (iq k)).length then some (((x.l.map (iq k)).drop off).take len)else none)=some ((qy x.l off len n).map (iq k));rw[EG x.len,if_pos ⟨rfl,by rw[κ,x.len];exact h1⟩,aaA,aaI]
   ·cases h
  ·cases h
 ·rename_i hd off l len;split at h
  ·rename_i mt t2 x hl;split at h
   ·rename_i a ha;split at h
    ·rename_i y hy;obtain⟨e,rfl⟩:=Ty.ct hy;cases e;obtain⟨h1,h⟩:=bD h;obtain⟨c1,c2⟩:=Ft ha h1;refine⟨_,h,?_,rfl⟩;show(match s.er.lk hd with|some (.row _ k' es)=>if k'=1/\off+l+len<=es.length then some ((es.drop (off+l)).take len)else none|_=>none)=_;rw[aU,hl];show(if 1=1/\off+l+len<=(ja (t2.ds x)).length then some (((ja (t2.ds x)).drop (off+l)).take len)else none)=_;rw[if_pos ⟨rfl,c1⟩,c2]
    ·cases h
   ·cases h
  ·cases h
 ·cases h
mutual
def XV.hr:XV->List Hd
 |.sl h _ _ _=>[h]
 |.slw h _ _=>[h]
 |.asl h _ _=>[h]
 |.rsl h _ _ _=>[h]
 |.agg cs=>XV.qw cs
 |.cr vs=>XV.qw vs
 |.clo _ vs=>XV.qw vs
 |_=>[]
def XV.qw:List XV->List Hd
 |[]=>[]
 |v::vs=>v.hr++XV.qw vs
end
theorem Q4:∀(a c:List AV),AV.cq (a++c)=AV.cq a++AV.cq c
 |[],c=>rfl
 |x::a,c=>by show AV.rows x++AV.cq (a++c)=AV.rows x++AV.cq a++AV.cq c;rw[Q4 a c,ν]
theorem GA:∀l:List DV,AV.cq (l.map .D)=[]
 |[]=>rfl
 |x::l=>GA l
theorem SX(x:t.T):AV.rows (dH t x)=[]:=by
 cases hl:nW t with
 |true=>cases t<;>first|rfl|(cases hl;done)
 |false=>rw[nM x hl];exact GA _
mutual
theorem xg[YL]:∀v:XV,AV.rows v.er=v.hr
 |.d t x=>SX x
 |.agg cs=>Ef cs
 |.cr vs=>yn vs
 |.clo _ vs=>yn vs
 |.any=>rfl
 |.un=>rfl
 |.ab=>rfl
 |.sc=>rfl
 |.ptr _ _=>rfl
 |.ept _ _ _ _=>rfl
 |.apt _ _=>rfl
 |.pa _ _ _=>rfl
 |.epa _ _ _ _ _=>rfl
 |.rop _ _ _=>rfl
 |.fl _ _=>rfl
 |.fln _=>rfl
 |.nl _=>rfl
 |.sl _ _ _ _=>rfl
 |.slw _ _ _=>rfl
 |.asl _ _ _=>rfl
 |.rpt _ _=>rfl
 |.rpa _ _ _=>rfl
 |.rsl _ _ _ _=>rfl
 |.mref _=>rfl
 |.itr _ _=>rfl
 |.c _=>rfl
 |.yld=>rfl
 |.gst _=>rfl
theorem yn[YL]:∀vs:List XV,AV.cq (XV.de vs)=XV.qw vs
 |[]=>rfl
 |v::vs=>by show AV.rows v.er++AV.cq (XV.de vs)=_;rw[xg v,yn vs];rfl
theorem Xv[YL]:∀v:XV,AV.cq v.fc=v.hr
 |.d t x=>GA _
 |.agg cs=>Ef cs
 |.cr vs=>by show AV.cq (XV.de vs)++[]=_;rw[yn vs,aac];rfl
 |.clo _ vs=>by show AV.cq (XV.de vs)++[]=_;rw[yn vs,aac];rfl
 |.any=>rfl
 |.un=>rfl
 |.ab=>rfl
 |.sc=>rfl
 |.ptr _ _=>rfl
 |.ept _ _ _ _=>rfl
 |.apt _ _=>rfl
 |.pa _ _ _=>rfl
 |.epa _ _ _ _ _=>rfl
 |.rop _ _ _=>rfl
 |.fl _ _=>rfl
 |.fln _=>rfl
 |.nl _=>rfl
 |.sl _ _ _ _=>rfl
 |.slw _ _ _=>rfl
 |.asl _ _ _=>rfl
 |.rpt _ _=>rfl
 |.rpa _ _ _=>rfl
 |.rsl _ _ _ _=>rfl
 |.mref _=>rfl
 |.itr _ _=>rfl
 |.c _=>rfl
 |.yld=>rfl
 |.gst _=>rfl
theorem Ef[YL]:∀vs:List XV,AV.cq (XV.cf vs)=XV.qw vs
 |[]=>rfl
 |v::vs=>by show AV.cq (v.fc++XV.cf vs)=_;rw[Q4,Xv v,Ef vs];rfl
end
def nt(s:XS):List Hd->List Hd
 |[]=>[]
 |h::l=>match s.lk h with
  |some _=>h::nt s l
  |none=>nt s l
theorem rI[YL](s:XS):∀l:List Hd,jg s.er.lk l=nt s l
 |[]=>rfl
 |h::l=>by
  show(h::l).filter _=_;rw[List.filter_cons,aU];unfold nt;cases s.lk h with
  |none=>exact rI s l
  |some b=>exact congrArg (h::·) (rI s l)
def tf:Ty->Bool
 |.sl _=>false
 |.o _=>false
 |.p a c=>tf a&&tf c
 |.w a=>tf a
 |_=>true
theorem Hh:∀(a c:List AV),AV.dm (a++c)=(AV.dm a&&AV.dm c)
 |[],c=>rfl
 |x::a,c=>by show(AV.flat x&&AV.dm (a++c))=(AV.flat x&&AV.dm a&&AV.dm c);rw[Hh a c,acG]
theorem sJ:∀(t:Ty) (x:t.T),AV.dm ((t.ds x).map .D)=tf t
 |.u,_=>rfl
 |.b,_=>rfl
 |.i _,_=>rfl
 |.s,_=>rfl
 |.p a c,v=>by
  show AV.dm ((a.ds v.1++c.ds v.2).map .D)=(tf a&&tf c);rw[aau,Hh,sJ a,sJ c]
 |.w a,v=>sJ a v
 |.ar n k,v=>by
  show AV.dm ((v.l.map (DV.I k)).map .D)=true;generalize v.l=l
  induction l with
  |nil=>rfl
  |cons x l ih=>exact ih
 |.sl t,v=>rfl
 |.o _,_=>rfl
theorem OE(x:t.T):AV.flat (dH t x)=tf t:=by
 cases hl:nW t with
 |true=>cases t<;>first|rfl|(cases hl;done)
 |false=>rw[nM x hl];exact sJ t x
mutual
def x7:XV->Bool
 |.d t _=>tf t
 |.any=>true
 |.un=>true
 |.ab=>true
 |.sc=>true
 |.c _=>true
 |.gst _=>true
 |.yld=>true
 |.agg cs=>x9 cs
 |.cr cs=>x9 cs
 |_=>false
def x9:List XV->Bool
 |[]=>true
 |v::vs=>x7 v&&x9 vs
end
mutual
theorem Jr[YL]:∀v:XV,AV.flat v.er=x7 v
 |.d t x=>OE x
 |.agg cs=>JP cs
 |.cr cs=>Ht cs
 |.clo _ _=>rfl
 |.any=>rfl
 |.un=>rfl
 |.ab=>rfl
 |.sc=>rfl
 |.ptr _ _=>rfl
 |.ept _ _ _ _=>rfl
 |.apt _ _=>rfl
 |.pa _ _ _=>rfl
 |.epa _ _ _ _ _=>rfl
 |.rop _ _ _=>rfl
 |.fl _ _=>rfl
 |.fln _=>rfl
 |.nl _=>rfl
 |.sl _ _ _ _=>rfl
 |.slw _ _ _=>rfl
 |.asl _ _ _=>rfl
 |.rpt _ _=>rfl
 |.rpa _ _ _=>rfl
 |.rsl _ _ _ _=>rfl
 |.mref _=>rfl
 |.itr _ _=>rfl
 |.c _=>rfl
 |.yld=>rfl
 |.gst _=>rfl
theorem Ht[YL]:∀vs:List XV,AV.dm (XV.de vs)=x9 vs
 |[]=>rfl
 |v::vs=>by show(AV.flat v.er&&AV.dm (XV.de vs))=(x7 v&&x9 vs);rw[Jr v,Ht vs]
theorem bNw[YL]:∀v:XV,AV.dm v.fc=x7 v
 |.d t x=>sJ t x
 |.agg cs=>JP cs
 |.cr cs=>by show(AV.dm (XV.de cs)&&true)=x9 cs;rw[abY,Ht]
 |.clo _ _=>rfl
 |.any=>rfl
 |.un=>rfl
 |.ab=>rfl
 |.sc=>rfl
 |.ptr _ _=>rfl
 |.ept _ _ _ _=>rfl
 |.apt _ _=>rfl
 |.pa _ _ _=>rfl
 |.epa _ _ _ _ _=>rfl
 |.rop _ _ _=>rfl
 |.fl _ _=>rfl
 |.fln _=>rfl
 |.nl _=>rfl
 |.sl _ _ _ _=>rfl
 |.slw _ _ _=>rfl
 |.asl _ _ _=>rfl
 |.rpt _ _=>rfl
 |.rpa _ _ _=>rfl
 |.rsl _ _ _ _=>rfl
 |.mref _=>rfl
 |.itr _ _=>rfl
 |.c _=>rfl
 |.yld=>rfl
 |.gst _=>rfl
theorem JP[YL]:∀vs:List XV,AV.dm (XV.cf vs)=x9 vs
 |[]=>rfl
 |v::vs=>by show AV.dm (v.fc++XV.cf vs)=(x7 v&&x9 vs);rw[Hh,bNw v,JP vs]
end
@[reducible] def RT:List XS->Type
 |[]=>Unit
 |[m]=>se m.cn
 |m::m2::l=>se m.cn⊕RT (m2::l)
structure bx where
 fn:Nat
 ent:XS
 out:List XS
 F:ku ent.cn (RT out)
def fS:(l:List XS)->RT l->XS
 |[],_=>⟨[],[],[]⟩
 |[m],v=>m.fill (np m.cn v)
 |m::_::_,.inl v=>m.fill (np m.cn v)
 |_::m2::l,.inr v=>fS (m2::l) v
def XV.val:List (Nat×XV)->XV
 |[(_,v)]=>v
 |l=>.cr (l.map (·.2))
def XS.pv(o:XS):Option Value:=match o.env with
 |[(k,.c v)]=>match aae k 1000000 with
  |true=>some v
  |false=>none
 |_=>none
def wb[YL](P:Program)(fn:Nat)(args:List AV)(bs:List (Option bp))(o:XS)(nbs:List bp):Prop:=match o.pv with
 |some pv=>bs=[]->yc P fn args pv
 |none=>df P fn args bs (XV.val o.env).er (dw o.bs) nbs
def aF(P:Program)(g:bx):Prop:=∀[YL] (v:cr g.ent.cn) (r:RT g.out),jh g.ent.cn g.F v=some r->∀nbs:List bp,nbs.map some=dw (fS g.out r).own->
 wb P g.fn ((g.ent.fill v).env.map fun p=>p.2.er) (dw (g.ent.fill v).bs) (fS g.out r) nbs
def lA(P:Program):List bx->Prop
 |[]=>True
 |g::l=>aF P g/\lA P l
mutual
def Ub:XV->XV->Bool
 |.clo f ms,v=>match v with
  |.clo g vs=>aae f g&&BY ms vs
  |_=>false
 |.ptr _ _,v=>match v with
  |.ptr _ _=>true
  |_=>false
 |.apt _ _,v=>match v with
  |.apt _ _=>true
  |_=>false
 |.rpt _ _,v=>match v with
  |.rpt _ _=>true
  |_=>false
 |.mref _,v=>match v with
  |.mref _=>true
  |_=>false
 |.slw _ _ _,v=>match v with
  |.slw _ _ _=>true
  |.fln _=>true
  |_=>false
 |.nl _,v=>match v with
  |.fln _=>true
  |.nl _=>true
  |_=>false
 |.fln _,v=>match v with
  |.fln _=>true
  |_=>false
 |.c x,v=>match v with
  |.c y=>BI x y
  |_=>false
 |.agg ms,v=>match v with
  |.agg vs=>BY ms vs
  |_=>false
 |.sc,_=>true
 |.d _ _,v=>match v with
  |.ptr _ _=>false
  |.apt _ _=>false
  |.rpt _ _=>false
  |.mref _=>false
  |.clo _ _=>false
  |.c _=>false
  |.sc=>false
  |_=>true
 |_,_=>false
def BY:List XV->List XV->Bool
 |[],[]=>true
 |m::ms,v::vs=>Ub m v&&BY ms vs
 |_,_=>false
end
def wZ:List (Nat×XV)->List XV
 |[]=>[]
 |p::r=>p.2::wZ r
def zz:List bx->Nat->List XV->Option bx
 |[],_,_=>none
 |g::l,f,vs=>match aae g.fn f&&BY (wZ g.ent.env) vs with
  |true=>some g
  |false=>zz l f vs
theorem DR{P:Program}{vs:List XV}:∀{l:List bx} {f:Nat} {g:bx},lA P l->zz l f vs=some g->aF P g/\g.fn=f
 |[],_,_,_,h=>by cases h
 |g0::l,f,g,ht,h=>by
  unfold zz at h;split at h
  ·rename_i hb;cases h;rw[μ]at hb;exact⟨ht.1,θ hb.1⟩
  ·exact DR ht.2 h
def om{α β γ:Type}(v:α⊕β)(f:α->Option γ)(g:β->Option γ):Option γ:=match v with
 |.inl a=>f a
 |.inr y=>g y
def E5:(l:List XS)->RT l->(XS->Option R)->Option R
 |[],_,_=>none
 |[m],v,K=>K (m.fill (np m.cn v))
 |m::m2::l,v,K=>om v (fun a=>K (m.fill (np m.cn a))) fun y=>E5 (m2::l) y K
theorem Hb:∀{l:List XS} {v:RT l} {K:XS->Option R} {r:R},E5 l v K=some r->K (fS l v)=some r
 |[],_,_,_,h=>by cases h
 |[_],_,_,_,h=>h
 |_::_::_,.inl _,_,_,h=>h
 |_::m2::l,.inr _,_,_,h=>Hb (l:=m2::l) h
def CP:List (Option XB)->Option (List XB)
 |[]=>some []
 |some b::r=>match CP r with
  |some l=>some (b::l)
  |none=>none
 |none::_=>none
theorem Hi[YL]:∀{l:List (Option XB)} {bl:List XB},CP l=some bl->(bl.map XB.er).map some=dw l
 |[],_,h=>by cases h;rfl
 |some b::r,bl,h=>by
  unfold CP at h;split at h
  ·rename_i l hl;cases h;show some b.er::(l.map XB.er).map some=some b.er::dw r;rw[Hi hl]
  ·cases h
 |none::_,_,h=>by cases h
def uW:List XV->Nat->XV
 |[],_=>.any
 |v::_,0=>v
 |_::r,i+1=>uW r i
def ym:Nat->List (Nat×XV)->List XV->Bool
 |_,[],[]=>true
 |n,(k,_)::r,_::vs=>aae k n&&ym (n+1) r vs
 |_,_,_=>false
theorem I9{f:XV->AV}:∀{l:List (Nat×XV)} {vs:List XV} {n:Nat} {ev:Nat->XV},ym n l vs=true->(∀i,i<vs.length->ev (n+i)=uW vs i)->l.map (fun p=>f (ev p.1))=vs.map f
 |[],[],_,_,_,_=>rfl
 |(k,_)::r,v::vs,n,ev,h,he=>by
  have h:(aae k n&&ym (n+1) r vs)=true:=h;rw[μ]at h;have e0:ev k=v:=by rw[θ h.1];exact he 0 (Nat.succ_pos _)
  show f (ev k)::r.map (fun p=>f (ev p.1))=f v::vs.map f;rw[e0,I9 h.2 fun i hi=>by rw[show n+1+i=n+(i+1) by omega,he (i+1) (Nat.succ_lt_succ hi)];rfl]
 |[],_::_,_,_,h,_=>by cases h
 |_::_,[],_,_,h,_=>by cases h
theorem JD[YL](lk:bL)(φ:Hd->Option Hd):∀vs:List XV,AV.bu lk φ (XV.de vs)=vs.map fun v=>AV.conv lk φ v.er
 |[]=>rfl
 |v::vs=>by show AV.conv _ _ v.er::AV.bu _ _ (XV.de vs)=_;rw[JD lk φ vs];rfl
theorem rB[YL]:∀a c:List XV,XV.de (a++c)=XV.de a++XV.de c
 |[],_=>rfl
 |x::a,c=>by show x.er::XV.de (a++c)=_;rw[rB a c];rfl
mutual
def Aj:XV->Bool
 |.d t _=>tf t
 |.any=>true
 |.un=>true
 |.ab=>true
 |.sc=>true
 |.c _=>true
 |.slw _ _ _=>true
 |.sl _ _ _ _=>true
 |.agg cs=>zt cs
 |.cr cs=>zt cs
 |_=>false
def zt:List XV->Bool
 |[]=>true
 |v::vs=>Aj v&&zt vs
end
theorem QP:∀(a c:List AV),AV.dv (a++c)=(AV.dv a&&AV.dv c)
 |[],_=>rfl
 |x::a,c=>by show(AV.dq x&&AV.dv (a++c))=(AV.dq x&&AV.dv a&&AV.dv c);rw[QP a c,acG]
theorem zH:∀l:List DV,AV.dv (l.map .D)=AV.dm (l.map .D)
 |[]=>rfl
 |x::l=>by show(DV.flat x&&AV.dv (l.map .D))=(DV.flat x&&AV.dm (l.map .D));rw[zH l]
theorem Wt(x:t.T):AV.dq (dH t x)=AV.flat (dH t x):=by
 cases t with
 |u=>rfl
 |b=>rfl
 |i k=>rfl
 |s=>rfl
 |p a c=>exact zH _
 |w a=>exact zH _
 |ar n k=>exact zH _
 |sl t=>rfl
 |o t=>rfl
mutual
theorem Ru[YL]:∀v:XV,Aj v=true->AV.dq v.er=true
 |.d t x,h=>by show AV.dq (dH t x)=true;rw[Wt,OE];exact h
 |.agg cs,h=>FJ cs h
 |.cr cs,h=>HO cs h
 |.slw _ _ _,_=>rfl
 |.sl _ _ _ _,_=>rfl
 |.any,_=>rfl
 |.un,_=>rfl
 |.ab,_=>rfl
 |.sc,_=>rfl
 |.c _,_=>rfl
 |.ptr _ _,h=>by cases h
 |.ept _ _ _ _,h=>by cases h
 |.apt _ _,h=>by cases h
 |.pa _ _ _,h=>by cases h
 |.epa _ _ _ _ _,h=>by cases h
 |.rpt _ _,h=>by cases h
 |.rpa _ _ _,h=>by cases h
 |.rsl _ _ _ _,h=>by cases h
 |.rop _ _ _,h=>by cases h
 |.fl _ _,h=>by cases h
 |.fln _,h=>by cases h
 |.nl _,h=>by cases h
 |.asl _ _ _,h=>by cases h
 |.mref _,h=>by cases h
 |.itr _ _,h=>by cases h
 |.clo _ _,h=>by cases h
 |.yld,h=>by cases h
 |.gst _,h=>by cases h
theorem HO[YL]:∀vs:List XV,zt vs=true->AV.dv (XV.de vs)=true
 |[],_=>rfl
 |v::vs,h=>by have h:(Aj v&&zt vs)=true:=h;rw[μ]at h;show(AV.dq v.er&&AV.dv (XV.de vs))=true;rw[Ru v h.1,HO vs h.2];rfl
theorem bKp[YL]:∀v:XV,Aj v=true->AV.dv v.fc=true
 |.d t x,h=>by show AV.dv ((t.ds x).map .D)=true;rw[zH,sJ];exact h
 |.agg cs,h=>FJ cs h
 |.cr cs,h=>by show(AV.dv (XV.de cs)&&true)=true;rw[HO cs h];rfl
 |.slw _ _ _,_=>rfl
 |.sl _ _ _ _,_=>rfl
 |.any,_=>rfl
 |.un,_=>rfl
 |.ab,_=>rfl
 |.sc,_=>rfl
 |.c _,_=>rfl
 |.ptr _ _,h=>by cases h
 |.ept _ _ _ _,h=>by cases h
 |.apt _ _,h=>by cases h
 |.pa _ _ _,h=>by cases h
 |.epa _ _ _ _ _,h=>by cases h
 |.rpt _ _,h=>by cases h
 |.rpa _ _ _,h=>by cases h
 |.rsl _ _ _ _,h=>by cases h
 |.rop _ _ _,h=>by cases h
 |.fl _ _,h=>by cases h
 |.fln _,h=>by cases h
 |.nl _,h=>by cases h
 |.asl _ _ _,h=>by cases h
 |.mref _,h=>by cases h
 |.itr _ _,h=>by cases h
 |.clo _ _,h=>by cases h
 |.yld,h=>by cases h
 |.gst _,h=>by cases h
theorem FJ[YL]:∀vs:List XV,zt vs=true->AV.dv (XV.cf vs)=true
 |[],_=>rfl
 |v::vs,h=>by have h:(Aj v&&zt vs)=true:=h;rw[μ]at h;show AV.dv (v.fc++XV.cf vs)=true;rw[QP,bKp v h.1,FJ vs h.2];rfl
end
def Fl:List XB->Bool
 |[]=>true
 |.row true t _::l=>tf t&&Fl l
 |_::_=>false
theorem Oz[YL]:∀l:List XB,Fl l=true->(l.map XB.er).all bp.ln=true
 |[],_=>rfl
 |.row true t xs::l,h=>by
  have h:(tf t&&Fl l)=true:=h;rw[μ]at h;rw[aaN,List.all_cons,Oz l h.2,abY];show(xs.map t.ds).all (fun e=>e.all DV.flat)=true;rw[List.all_map,List.all_eq_true];intro x _;have:=sJ t x;rw[h.1]at this;have key:∀l:List DV,AV.dm (l.map .D)=l.all DV.flat:=fun l=>by
   induction l with
   |nil=>rfl
   |cons d l ih=>show(DV.flat d&&AV.dm (l.map .D))=(DV.flat d&&l.all DV.flat);rw[ih]
  rw[key]at this;exact this
 |.row false _ _::_,h=>by cases h
 |.box _::_,h=>by cases h
 |.arr _ _ _ _::_,h=>by cases h
 |.rb _ _ _::_,h=>by cases h
 |.mp _ _ _ _ _ _::_,h=>by cases h
 |.it::_,h=>by cases h
 |.sb _ _ _::_,h=>by cases h
def Co(al:Bool)(v:XV)(bl:List XB):Bool:=al&&(Aj v&&Fl bl)
def FW(s:XS)(al:Bool)(v:XV)(bl:List XB)(hs:List Hd):List Hd:=match x7 v,bl with
 |true,[]=>[]
 |_,_=>match Co al v bl with
  |true=>[]
  |false=>nt s hs
theorem XL[YL](s:XS)(al:Bool)(v:XV)(bl:List XB)(vs:List XV):FW s al v bl (XV.qw vs)=if AV.flat v.er=true/\bl.map XB.er=[]then[]else Aw (Co al v bl) (jg s.er.lk (AV.cq (XV.de vs))):=by
 unfold FW;rw[Jr,yn,rI];cases x7 v with
 |false=>rw[if_neg (fun h=>by cases h.1)];rfl
 |true=>cases bl with
  |nil=>rw[if_pos ⟨rfl,rfl⟩]
  |cons b bl=>rw[if_neg (fun h=>by cases h.2)];rfl
def OR(s:XS)(al:Bool)(vs:List XV)(o:XS)(K:XV->List XB->List Hd->Option R):Option R:=match CP o.own with
 |some bl=>K ((XV.val o.env).cm (bW [] s.own.length)) (bl.map (XB.cm (bW [] s.own.length))) (FW s al (XV.val o.env) bl (XV.qw vs))
 |none=>none
def IZ:XV->Bool
 |.fln _=>true
 |_=>false
def tw:List (Nat×XV)->List Bool
 |[]=>[]
 |p::r=>IZ p.2::tw r
def BF:List (Nat×XV)->Bool
 |[]=>true
 |p::r=>!IZ p.2&&BF r
theorem F7(lk:bL):∀{l:List (Nat×XV)} (as:List AV),BF l=true->AV.fw lk (tw l) as=AV.bu lk (fun _=>none) as
 |[],_,_=>rfl
 |p::r,as,h=>by
  unfold BF at h;rw[μ,aaZ]at h;unfold tw;rw[h.1];cases as with
  |nil=>rfl
  |cons a as=>
   show AV.conv _ _ a::AV.fw lk (tw r) as=AV.conv _ _ a::AV.bu lk _ as;rw[F7 lk as h.2]
def Ck(s:XS):List (Nat×XV)->List XV->(List XV->Option R)->Option R
 |[],[],K=>K []
 |p::ms,v::vs,K=>match IZ p.2 with
  |true=>match v with
   |.fln t=>Ck s ms vs fun l=>K (.fln t::l)
   |_=>none
  |false=>wh s (fun _=>none) v fun v'=>Ck s ms vs fun l=>K (v'::l)
 |_,_,_=>none
theorem Ji[YL]{s:XS}{r:R}:∀{ms:List (Nat×XV)} {vs:List XV} {K:List XV->Option R},Ck s ms vs K=some r->∃l,K l=some r/\l.map XV.er=AV.fw s.er.lk (tw ms) (XV.de vs)/\na.ir (tp s fun _=>none) l
 |[],[],K,h=>⟨[],h,rfl,trivial⟩
 |p::ms,v::vs,K,h=>by
  unfold Ck at h;unfold tw;split at h
  ·rename_i hp;rw[hp];split at h
   ·rename_i t;obtain⟨l,h,h1,h2⟩:=Ji h;refine⟨_,h,?_,trivial,h2⟩;show AV.fl []::l.map XV.er=AV.fl []::AV.fw _ (tw ms) (XV.de vs);rw[h1]
   ·cases h
  ·rename_i hp;rw[hp];obtain⟨v',h,h0,_,h3⟩:=I4 h;obtain⟨l,h,h1,h2⟩:=Ji h;refine⟨_,h,?_,h3,h2⟩;show v'.er::l.map XV.er=AV.conv _ _ v.er::AV.fw _ (tw ms) (XV.de vs);rw[h1,h0]
 |[],_::_,_,h=>by cases h
 |_::_,[],_,h=>by cases h
theorem bCh[YL]{ds:List DS}{v:cr m.cn}(h1:Bf m.env l=some ds)(h2:xc m.cn ds=some v)(hp:na.ir (tp s fun _=>none) l):(m.fill v).env.map (fun p=>p.2.er)=l.map XV.er:=by have hL:=Gt h2;show(m.l9 (Ar m.cn v)).env.map _=_;rw[hL];obtain⟨_,x2⟩:=Ik (len:=GO (pM m.bs (ds.drop (yv m.env).length)) (pM m.own ((ds.drop (yv m.env).length).drop (xu m.bs).length))) h1 (ir.mono (fun h' n ⟨h,mt,t,xs,e1,e2,e3⟩=>by cases e1) hp);obtain⟨e,x3,x4,x5⟩:=x2 [];rw[aac]at x3;show(qh _ m.env ds).1.map _=_;rw[x3];exact x5
def Dl(s:XS)(al:Bool)(g:bx)(vs:List XV)(K:XV->List XB->List Hd->Option R)(Kp:Value->Option R):Option R:=match g.ent.bs,g.ent.own with
 |[],[]=>Ck s g.ent.env vs fun l=>match Bf g.ent.env l with
  |some ds=>match xc g.ent.cn ds with
   |some v=>bj (jh g.ent.cn g.F v) fun r=>E5 g.out r fun o=>match o.bs,o.pv with
    |[],none=>OR s al vs o K
    |_,some pv=>match o.own,BF g.ent.env with
     |[],true=>Kp pv
     |_,_=>none
    |_,_=>none
   |none=>none
  |none=>none
 |_,_=>none
def bPu(s:XS)(g:bx)(vs:List XV)(K:XV->List XB->List Hd->Option R):Option R:=Dl s true g vs K fun _=>none
def F9(T:List bx)(s:XS)(vs:List XV)(K:XV->List XB->List Hd->Option R):XV->Option R
 |.clo fn caps=>match zz T fn (vs++caps)with
  |some g=>bPu s g (vs++caps) K
  |none=>none
 |_=>none
theorem HT(h:m.bs=[])(v:cr m.cn):(m.fill v).bs=[]:=by show(rK _ m.bs _).1=[];rw[h];rfl
theorem Qi[YL](ψ:Hd->Hd)(l:List XB):(l.map (XB.cm ψ)).map XB.er=(l.map XB.er).map (bp.cm ψ):=by rw[abF,abF];congr 1;funext b;exact GC ψ b
theorem Qc[YL]{g:bx}(hs:aF P g){al:Bool}{K:XV->List XB->List Hd->Option R}{Kp:Value->Option R}{r:R}(h:Dl s al g vs K Kp=some r){KP:AV->List bp->List Hd->Prop}(hK:∀v nbs fz,K v nbs fz=some r->KP v.er (nbs.map XB.er) fz):
  (∃z rr nbs,(al=false->z=false)/\(z=true->AV.dq rr=true/\nbs.all bp.ln=true)/\df P g.fn (AV.fw s.er.lk (tw g.ent.env) (XV.de vs)) [] rr [] nbs/\
   KP (AV.cm (bW [] s.er.nx) rr) (nbs.map (bp.cm (bW [] s.er.nx))) (if AV.flat rr=true/\nbs=[]then[]else Aw z (jg s.er.lk (AV.cq (XV.de vs)))))\/
   ∃pv,yc P g.fn (AV.bu s.er.lk (fun _=>none) (XV.de vs)) pv/\Kp pv=some r:=by
 unfold Dl at h;split at h
 case h_2=>cases h
 rename_i hb ho;obtain⟨l,h,e1,hp⟩:=Ji h;split at h
 case h_2=>cases h
 rename_i ds hds;split at h
 case h_2=>cases h
 rename_i v hv;obtain⟨rr,hr,h⟩:=Hl h;have h:=Hb h;have hargs:(g.ent.fill v).env.map (fun p=>p.2.er)=AV.fw s.er.lk (tw g.ent.env) (XV.de vs):=(bCh hds hv hp).trans e1;split at h
 ·rename_i hob hpv;unfold OR at h;split at h
  case h_2=>cases h
  rename_i bl hbl;have hcall:=hs v rr hr (bl.map XB.er) (Hi hbl);unfold wb at hcall;rw[hpv]at hcall;rw[hargs,HT hb,hob]at hcall;refine .inl ⟨Co al (XV.val (fS g.out rr).env) bl,_,_,fun e=>by unfold Co;rw[e];rfl,fun e=>?_,hcall,?_⟩
  ·unfold Co at e;rw[μ,μ]at e;exact⟨Ru _ e.2.1,Oz _ e.2.2⟩
  have:=hK _ _ _ h;rw[D3,Qi]at this;rw[XL]at this;exact this
 ·rename_i pv hpv;split at h
  case h_2=>cases h
  rename_i hown hno;have:=hs v rr hr [] (by rw[hown];rfl);unfold wb at this;rw[hpv,hargs,HT hb,F7 _ _ hno]at this;exact .inr ⟨pv,this rfl,h⟩
 ·cases h
def HW(T:List bx)(s:XS)(vs:List XV)(K:XV->List XB->List Hd->Option R)(Kp:Value->Option R):XV->Option R
 |.clo fn caps=>match zz T fn (vs++caps)with
  |some g=>match BF g.ent.env with
   |true=>Dl s false g (vs++caps) K Kp
   |false=>none
  |none=>none
 |_=>none
theorem WJ[YL]{T:List bx}(hT:lA P T){K:XV->List XB->List Hd->Option R}{Kp:Value->Option R}{r:R}(h:HW T s vs K Kp vf=some r){KP:AV->List bp->List Hd->Prop}(hK:∀v nbs fz,K v nbs fz=some r->KP v.er (nbs.map XB.er) fz):
  ∃fn caps,vf.er=.clo fn caps/\((∃rr nbs,df P fn (AV.bu s.er.lk (fun _=>none) (XV.de vs++caps)) [] rr [] nbs/\
   KP (AV.cm (bW [] s.er.nx) rr) (nbs.map (bp.cm (bW [] s.er.nx))) (if AV.flat rr=true/\nbs=[]then[]else jg s.er.lk (AV.cq (XV.de vs++caps))))\/
   ∃pv,yc P fn (AV.bu s.er.lk (fun _=>none) (XV.de vs++caps)) pv/\Kp pv=some r):=by
 unfold HW at h;split at h
 case h_2=>cases h
 rename_i fn caps;split at h
 case h_2=>cases h
 rename_i g hg;obtain⟨hs,hfn⟩:=DR hT hg;split at h
 case h_2=>cases h
 rename_i hno;rcases Qc hs h hK with⟨z,rr,nbs,hz,_,h1,h2⟩|h1
 ·rw[F7 _ _ hno,hfn,rB]at h1;rw[hz rfl,rB]at h2;exact⟨fn,XV.de caps,rfl,.inl ⟨rr,nbs,h1,h2⟩⟩
 ·rw[hfn,rB]at h1;exact⟨fn,XV.de caps,rfl,.inr h1⟩
theorem Sw[YL]{T:List bx}(hT:lA P T){K:XV->List XB->List Hd->Option R}{r:R}(h:F9 T s vs K vf=some r){KP:AV->List bp->List Hd->Prop}(hK:∀v nbs fz,K v nbs fz=some r->KP v.er (nbs.map XB.er) fz):
  ∃fn caps ks z rr nbs,vf.er=.clo fn caps/\(z=true->AV.dq rr=true/\nbs.all bp.ln=true)/\df P fn (AV.fw s.er.lk ks (XV.de vs++caps)) [] rr [] nbs/\
   KP (AV.cm (bW [] s.er.nx) rr) (nbs.map (bp.cm (bW [] s.er.nx))) (if AV.flat rr=true/\nbs=[]then[]else Aw z (jg s.er.lk (AV.cq (XV.de vs++caps)))):=by
 unfold F9 at h;split at h
 case h_2=>cases h
 rename_i fn caps;split at h
 case h_2=>cases h
 rename_i g hg;obtain⟨hs,hfn⟩:=DR hT hg;rcases Qc hs h hK with⟨z,rr,nbs,_,hz,h1,h2⟩|⟨pv,_,h⟩
 ·rw[hfn,rB]at h1;rw[rB]at h2;exact⟨fn,XV.de caps,_,z,rr,nbs,rfl,hz,h1,h2⟩
 ·cases h
end
section
variable{R:Type}
def w1(s:XS)(x:Operand)(f:XV->Option R):Option R:=match C0 x with
 |true=>f (s.ev x)
 |false=>none
theorem aP[YL]{x:Operand}{f:XV->Option R}{r:R}(h:w1 s x f=some r):f (s.ev x)=some r/\s.er.ev x=(s.ev x).er:=by
 unfold w1 at h;split at h
 ·exact⟨h,v8 s ‹_›⟩
 ·cases h
def wL(s:XS):List Operand->(List XV->Option R)->Option R
 |[],f=>f []
 |x::xs,f=>w1 s x fun v=>wL s xs fun vs=>f (v::vs)
theorem zq[YL]{s:XS}{r:R}:∀{xs:List Operand} {f:List XV->Option R},wL s xs f=some r->∃vs,f vs=some r/\xs.map s.er.ev=XV.de vs
 |[],f,h=>⟨[],h,rfl⟩
 |x::xs,f,h=>by obtain⟨h,e1⟩:=aP h;obtain⟨vs,h,e2⟩:=zq h;exact⟨s.ev x::vs,h,by show s.er.ev x::xs.map s.er.ev=_;rw[e1,e2];rfl⟩
def Ig(c:Bool)(K:XV->Option R):XV->XV->Option R
 |.d t x,v=>match v with
  |.d t' y=>match t'.j8 t y with
   |some y=>K (.d t (cond c x y))
   |none=>bk c (K (.d t x)) (K (.d t' y))
  |v=>bk c (K (.d t x)) (K v)
 |u,v=>bk c (K u) (K v)
theorem Za[YL]{c:Bool}{K:XV->Option R}{KP:AV->Prop}{r:R}{b:XV}(h:Ig c K a b=some r)(hK:∀v,K v=some r->KP v.er):KP (if c=true then a.er else b.er):=by
 have hif:∀{a b:XV},bk c (K a) (K b)=some r->KP (if c=true then a.er else b.er):=fun h=>by
  rcases vn h with⟨rfl,h⟩|⟨rfl,h⟩
  ·exact hK _ h
  ·exact hK _ h
 unfold Ig at h;split at h
 ·split at h
  ·split at h
   ·rename_i y hy;obtain⟨e,rfl⟩:=Ty.ct hy;subst e;have:=hK _ h;cases c<;>exact this
   ·exact hif h
  ·exact hif h
 ·exact hif h
def nth:List XV->Nat->Option XV
 |[],_=>none
 |v::_,0=>some v
 |_::r,i+1=>nth r i
theorem LQ[YL]:∀{l:List XV} {i:Nat} {v:XV},nth l i=some v->(XV.de l)[i]?=some v.er
 |[],_,_,h=>by cases h
 |v::_,0,_,h=>by cases h;rfl
 |_::r,i+1,v,h=>by have:=LQ (l:=r) (i:=i) h;show(_::XV.de r)[i+1]?=_;rw[List.getElem?_cons_succ];exact this
def Bh(kd:Nat):XV->XV->Option Bool
 |.d .b x,.d .b y=>match aae kd 0 with
  |true=>some (x==y)
  |false=>none
 |.d (.i k) x,.d (.i k') y=>if kd=1/\k=k' then some (x==y)else none
 |.d .s x,.d .s y=>match aae kd 2 with
  |true=>some (x==y)
  |false=>none
 |_,_=>none
def mF:List Nat->Bool->Bool->Bool
 |[],p,_=>p
 |_::_,p,q=>p&&q
def B0:List Nat->List XV->List XV->Option Bool
 |[],[],[]=>some true
 |kd::kds,x::xs,y::ys=>match Bh kd x y with
  |some p=>match B0 kds xs ys with
   |some q=>some (mF kds p q)
   |none=>none
  |none=>none
 |_,_,_=>none
theorem T3(h:B0 [] xs ys=some q):q=true:=by cases xs<;>cases ys<;>first|(cases h;rfl;done)|(cases h;done)
theorem QB[YL]:∀{kds:List Nat} {xs ys:List XV} {b:Bool},B0 kds xs ys=some b->kK kds (XV.cf xs) (XV.cf ys)=some b
 |[],xs,ys,b,h=>by
  cases xs<;>cases ys<;>first|(cases h;rfl;done)|(cases h;done)
 |kd::kds,[],ys,b,h=>by cases h
 |kd::kds,x::xs,[],b,h=>by cases h
 |kd::kds,x::xs,y::ys,b,h=>by
  unfold B0 at h;split at h
  case h_2=>cases h
  rename_i p hp;split at h
  case h_2=>cases h
  rename_i q hq;cases h;have e:mF kds p q=(p&&q):=by
   cases kds with
   |nil=>rw[T3 hq,abY];rfl
   |cons _ _=>rfl
  have ih:=QB hq;obtain⟨d1,d2,e1,e2,e3⟩:∃d1 d2,x.fc=[.D d1]/\y.fc=[.D d2]/\DV.same kd d1 d2=some p:=by
   unfold Bh at hp;split at hp
   ·split at hp
    ·rename_i hb;obtain rfl:=θ hb;exact⟨_,_,rfl,rfl,hp⟩
    ·cases hp
   ·exact⟨_,_,rfl,rfl,hp⟩
   ·split at hp
    ·rename_i hb;obtain rfl:=θ hb;exact⟨_,_,rfl,rfl,hp⟩
    ·cases hp
   ·cases hp
  show kK (kd::kds) (x.fc++XV.cf xs) (y.fc++XV.cf ys)=_;rw[e1,e2];show(match DV.same kd d1 d2,kK kds (XV.cf xs) (XV.cf ys)with|some p,some q=>some (p&&q)|_,_=>none)=_;rw[e3,ih,e]
def Da(off:Nat)(K:XV->Option R):XV->Option R
 |.ptr h o=>K (.ptr h (o+off))
 |.ept h t ix o=>match aae t.n 1 with
  |true=>match o,off with
   |0,0=>K (.ept h t ix 0)
   |_,_=>none
  |false=>K (.ept h t ix (o+off))
 |.apt h ix=>K (.apt h (ix+off))
 |.rpt h o=>K (.rpt h (o+off))
 |.rop t x o=>K (.rop t x (o+off))
 |_=>none
def rh(o j k:Nat):Nat:=match o,k with
 |0,1=>j
 |o,1=>o+j
 |o,k=>o+j*k
theorem uO(o j k:Nat):rh o j k=o+j*k:=by
 unfold rh;split
 ·omega
 ·omega
 ·rfl
def Cg(k:Nat)(j:Int)(K:XV->Option R):XV->Option R
 |.d (.sl t) xs=>match aae t.n k with
  |true=>bB xs j fun x=>K (.rop t x 0)
  |false=>none
 |.fl t xs=>match aae t.n k with
  |true=>bB xs j fun x=>K (.rop t x 0)
  |false=>none
 |.slw h t len=>match aae t.n k with
  |true=>bb (0<=j) (bb (j<(len:Int)) (K (.ept h t j.toNat 0)))
  |false=>none
 |.sl h t off len=>match aae t.n k with
  |true=>bb (0<=j) (bb (j<(len:Int)) (K (.ept h t (off+j.toNat) 0)))
  |false=>none
 |.asl h off len=>match aae 1 k with
  |true=>bb (0<=j) (bb (j<(len:Int)) (K (.apt h (rh off j.toNat 1))))
  |false=>none
 |.rsl h off l len=>match aae 1 k with
  |true=>bb (0<=j) (bb (j<(len:Int)) (K (.rpa h off (rh l j.toNat 1))))
  |false=>none
 |_=>none
def H9(m k:Nat)(j:Int)(K:XV->Option R):XV->Option R
 |.apt h ix=>bb (0<=j) (bb (j<(m:Int)) (K (.apt h (rh ix j.toNat k))))
 |.rop t x o=>bb (0<=j) (bb (j<(m:Int)) (K (.rop t x (rh o j.toNat k))))
 |.ptr h o=>match aae k 1 with
  |true=>bb (0<=j) (bb (j<(m:Int)) (K (.pa h o j.toNat)))
  |false=>bb (0<=j) (bb (j<(m:Int)) (K (.ptr h (rh o j.toNat k))))
 |.rpt h o=>match aae k 1 with
  |true=>bb (0<=j) (bb (j<(m:Int)) (K (.rpa h o j.toNat)))
  |false=>bb (0<=j) (bb (j<(m:Int)) (K (.rpt h (rh o j.toNat k))))
 |.ept h t ix o=>match aae t.n 1,aae k 1 with
  |false,true=>bb (0<=j) (bb (j<(m:Int)) (K (.epa h t ix o j.toNat)))
  |_,_=>none
 |_=>none
def BQ(s:XS)(k:Nat)(lo hi mx:Option Operand)(K:XV->Option R):XV->Option R
 |.d (.sl t) xs=>match aae t.n k with
  |true=>match mx with
   |none=>qU s hi xs.length fun h=>qU s lo 0 fun l=>bb (l<=h) (bb (h<=xs.length) (K (.d (.sl t) ((xs.drop l).take (h-l)))))
   |some _=>match hi with
    |none=>none
    |some _=>qU s mx xs.length fun m=>qU s hi xs.length fun h=>qU s lo 0 fun l=>bb (l<=h) (bb (h<=xs.length) (bb (h=m) (K (.fl t ((xs.drop l).take (h-l))))))
  |false=>none
 |.fln t=>match mx with
  |none=>qU s hi 0 fun h=>qU s lo 0 fun l=>bb (l<=h) (bb (h<=0) (K (.fln t)))
  |some _=>none
 |.slw hd t len=>match aae t.n k,mx with
  |true,none=>match lo,hi with
   |none,none=>K (.slw hd t len)
   |none,hi=>qU s hi len fun h=>bb (h<=len) (K (.sl hd t 0 h))
   |lo,hi=>qU s hi len fun h=>qU s lo 0 fun l=>bb (l<=h) (bb (h<=len) (K (.sl hd t l (h-l))))
  |_,_=>none
 |.sl hd t off len=>match aae t.n k,mx with
  |true,none=>qU s hi len fun h=>qU s lo 0 fun l=>bb (l<=h) (bb (h<=len) (K (.sl hd t (off+l) (h-l))))
  |_,_=>none
 |.asl hd off len=>match aae 1 k,mx with
  |true,none=>qU s hi len fun h=>qU s lo 0 fun l=>bb (l<=h) (bb (h<=len) (K (.asl hd (rh off l 1) (h-l))))
  |_,_=>none
 |.rsl hd off l0 len=>match aae 1 k,mx with
  |true,none=>qU s hi len fun h=>qU s lo 0 fun l=>bb (l<=h) (bb (h<=len) (K (.rsl hd off (rh l0 l 1) (h-l))))
  |_,_=>none
 |_=>none
theorem Ki[YL]{K:XV->Option R}{r:R}(h:Da off K v=some r){KP:AV->Prop}(hK:∀v,K v=some r->KP v.er):
  match v.er with
  |.ptr h o=>KP (.ptr h (o+off))
  |.eptr h k ix o=>KP (AV.iu h k ix o off)
  |.rop ds=>KP (.rop (ds.drop off))
  |_=>False:=by
 unfold Da at h;split at h
 ·exact hK _ h
 ·rename_i hd t ix o;show KP (AV.iu hd t.n ix o off);unfold AV.iu;split at h
  ·rename_i hb;have hb:=θ hb;split at h
   ·have:=hK _ h;simp only[XV.er,hb]at this;rw[if_pos hb];exact this
   ·cases h
  ·rename_i hb;rw[if_neg (fun e=>by rw[e]at hb;cases hb)];exact hK _ h
 ·rename_i hd ix;show KP (AV.iu hd 1 ix 0 off);unfold AV.iu;rw[if_pos rfl];exact hK _ h
 ·rename_i hd ix;show KP (AV.iu hd 1 ix 0 off);unfold AV.iu;rw[if_pos rfl];exact hK _ h
 ·rename_i t x o;have:=hK _ h;simp only[XV.er]at this|-;rw[abc];exact this
 ·cases h
theorem Jo[YL]{K:XV->Option R}{r:R}(h:Cg k j K v=some r){KP:AV->Prop}(hK:∀v,K v=some r->KP v.er):0<=j/\
  match v.er with
  |.D (.L es)=>∃e,es[j.toNat]?=some e/\e.length=k/\KP (.rop e)
  |.fl es=>∃e,es[j.toNat]?=some e/\e.length=k/\KP (.rop e)
  |.sl h k' off len=>k'=k/\j<len/\KP (.eptr h k (off+j.toNat) 0)
  |_=>False:=by
 unfold Cg at h;split at h
 ·rename_i t xs;split at h
  ·rename_i hb;obtain⟨x,h0,hx,h⟩:=Cd h;refine⟨h0,t.ds x,by rw[aaf,hx];rfl,by rw[Ty.fo];exact θ hb,hK _ h⟩
  ·cases h
 ·rename_i t xs;split at h
  ·rename_i hb;obtain⟨x,h0,hx,h⟩:=Cd h;refine⟨h0,t.ds x,by rw[aaf,hx];rfl,by rw[Ty.fo];exact θ hb,hK _ h⟩
  ·cases h
 ·split at h
  ·rename_i hb;obtain⟨h0,h⟩:=bD h;obtain⟨h1,h⟩:=bD h;have hb:=θ hb;have:=hK _ h;simp only[XV.er,hb]at this;exact⟨h0,hb,h1,by rw[aal];exact this⟩
  ·cases h
 ·split at h
  ·rename_i hb;obtain⟨h0,h⟩:=bD h;obtain⟨h1,h⟩:=bD h;have hb:=θ hb;have:=hK _ h;simp only[XV.er,hb]at this;exact⟨h0,hb,h1,this⟩
  ·cases h
 ·split at h
  ·rename_i hb;obtain⟨h0,h⟩:=bD h;obtain⟨h1,h⟩:=bD h;have hb:=θ hb;subst hb;have:=hK _ h;rw[uO,aaL]at this;exact⟨h0,rfl,h1,this⟩
  ·cases h
 ·rename_i hd off l len;split at h
  ·rename_i hb;obtain⟨h0,h⟩:=bD h;obtain⟨h1,h⟩:=bD h;have hb:=θ hb;subst hb;have:=hK _ h;simp only[XV.er,uO,aaL]at this;exact⟨h0,rfl,h1,by rw[abJ];exact this⟩
  ·cases h
 ·cases h
theorem WZ[YL]{m:Nat}{K:XV->Option R}{r:R}(h:H9 m k j K v=some r){KP:AV->Prop}(hK:∀v,K v=some r->KP v.er):0<=j/\j<(m:Int)/\
  match v.er with
  |.ptr h o=>KP (.ptr h (o+j.toNat*k))
  |.eptr h k' ix o=>KP (AV.iu h k' ix o (j.toNat*k))
  |.rop ds=>KP (.rop (ds.drop (j.toNat*k)))
  |_=>False:=by
 unfold H9 at h;split at h
 ·rename_i hd ix;obtain⟨h0,h⟩:=bD h;obtain⟨h1,h⟩:=bD h;have:=hK _ h;rw[uO]at this;refine⟨h0,h1,?_⟩;show KP (AV.iu hd 1 ix 0 (j.toNat*k));unfold AV.iu;rw[if_pos rfl];exact this
 ·rename_i t x o;obtain⟨h0,h⟩:=bD h;obtain⟨h1,h⟩:=bD h;have:=hK _ h;rw[uO]at this;refine⟨h0,h1,?_⟩;simp only[XV.er]at this|-;rw[abc];exact this
 ·rename_i hd o;split at h
  ·rename_i hb;obtain⟨h0,h⟩:=bD h;obtain⟨h1,h⟩:=bD h;have hb:=θ hb;subst hb;have:=hK _ h;refine⟨h0,h1,?_⟩;show KP (.ptr hd (o+j.toNat*1));rw[aaL];exact this
  ·obtain⟨h0,h⟩:=bD h;obtain⟨h1,h⟩:=bD h;have:=hK _ h;rw[uO]at this;exact⟨h0,h1,this⟩
 ·rename_i hd o;split at h
  ·rename_i hb;obtain⟨h0,h⟩:=bD h;obtain⟨h1,h⟩:=bD h;have hb:=θ hb;subst hb;have:=hK _ h;refine⟨h0,h1,?_⟩;show KP (AV.iu hd 1 o 0 (j.toNat*1));unfold AV.iu;rw[if_pos rfl,aaL];exact this
  ·obtain⟨h0,h⟩:=bD h;obtain⟨h1,h⟩:=bD h;have:=hK _ h;rw[uO]at this;refine⟨h0,h1,?_⟩;show KP (AV.iu hd 1 o 0 (j.toNat*k));unfold AV.iu;rw[if_pos rfl];exact this
 ·rename_i hd t ix o;split at h
  ·rename_i hb1 hb;obtain⟨h0,h⟩:=bD h;obtain⟨h1,h⟩:=bD h;have hb:=θ hb;subst hb;have:=hK _ h;refine⟨h0,h1,?_⟩;show KP (AV.iu hd t.n ix o (j.toNat*1));unfold AV.iu;rw[if_neg (fun e=>by rw[e]at hb1;cases hb1),aaL];exact this
  ·cases h
 ·cases h
theorem Hw[YL]{lo hi mx:Option Operand}{K:XV->Option R}{r:R}(h:BQ s k lo hi mx K v=some r){KP:AV->Prop}(hK:∀v,K v=some r->KP v.er):rO k s.er.ev lo hi mx KP v.er:=by
 unfold BQ at h;split at h
 ·rename_i t xs;split at h
  ·rename_i hb;have hb:=θ hb;have hu:j0 k (xs.map t.ds):=hb▸uX t xs;have hl:(xs.map t.ds).length=xs.length:=κ _;split at h
   ·refine⟨hu,?_⟩;rw[hl];rw[show∀(Q:Nat->Prop),jA s.er.ev none xs.length Q=Q xs.length from fun _=>rfl];refine eS h fun hh h=>eS h fun l h=>?_;obtain⟨h1,h⟩:=bD h;obtain⟨h2,h⟩:=bD h;refine⟨h1,h2,fun e=>aaS e,?_⟩;have:=hK _ h;simp only[XV.er,dH,aaA,aaI]at this;exact this
   ·split at h
    ·cases h
    ·refine⟨hu,?_⟩;rw[hl];refine eS h fun m h=>eS h fun hh h=>eS h fun l h=>?_;obtain⟨h1,h⟩:=bD h;obtain⟨h2,h⟩:=bD h;obtain⟨h3,h⟩:=bD h;refine⟨h1,h2,fun _=>⟨rfl,h3⟩,?_⟩;have:=hK _ h;simp only[XV.er,aaA,aaI]at this;rw[if_pos (show(some _).isSome=true from rfl)];exact this
  ·cases h
 ·rename_i t;split at h
  ·refine⟨fun e he=>(by simp at he),?_⟩;refine(show∀Q:Nat->Prop,Q 0->jA s.er.ev none ([]:List (List DV)).length Q from fun _ h=>h) _ ?_;refine eS (d:=0) h fun hh h=>eS h fun l h=>?_;obtain⟨h1,h⟩:=bD h;obtain⟨h2,h⟩:=bD h;refine⟨h1,h2,me _,fun e=>aaS e,?_⟩;have:=hK _ h;rw[if_pos (show hh=0 by omega),List.drop_nil,List.take_nil];exact this
  ·cases h
 ·rename_i hd t len;split at h
  ·rename_i hb;have hb:=θ hb;split at h
   ·refine⟨hb,rfl,?_⟩;show 0<=len/\len<=len/\_;refine⟨aa2 _,me _,?_⟩;have:=hK _ h;simp only[XV.er,hb]at this;exact this
   ·refine⟨hb,rfl,eS h fun hh h=>?_⟩;obtain⟨h2,h⟩:=bD h;show 0<=hh/\hh<=len/\_;refine⟨aa2 _,h2,?_⟩;have:=hK _ h;simp only[XV.er,hb]at this;exact this
   ·refine⟨hb,rfl,eS h fun hh h=>eS h fun l h=>?_⟩;obtain⟨h1,h⟩:=bD h;obtain⟨h2,h⟩:=bD h;refine⟨h1,h2,?_⟩;have:=hK _ h;simp only[XV.er,hb]at this;rw[aal];exact this
  ·cases h
 ·rename_i hd t off len;split at h
  ·rename_i hb;have hb:=θ hb;refine⟨hb,rfl,eS h fun hh h=>eS h fun l h=>?_⟩;obtain⟨h1,h⟩:=bD h;obtain⟨h2,h⟩:=bD h;refine⟨h1,h2,?_⟩;have:=hK _ h;simp only[XV.er,hb]at this;exact this
  ·cases h
 ·rename_i hd off len;split at h
  ·rename_i hb;have hb:=θ hb;refine⟨hb,rfl,eS h fun hh h=>eS h fun l h=>?_⟩;obtain⟨h1,h⟩:=bD h;obtain⟨h2,h⟩:=bD h;refine⟨h1,h2,?_⟩;have:=hK _ h;rw[uO,aaL]at this;subst hb;exact this
  ·cases h
 ·rename_i hd off l0 len;split at h
  ·rename_i hb;have hb:=θ hb;refine⟨hb,rfl,eS h fun hh h=>eS h fun l h=>?_⟩;obtain⟨h1,h⟩:=bD h;obtain⟨h2,h⟩:=bD h;refine⟨h1,h2,?_⟩;have:=hK _ h;simp only[XV.er,uO,aaL]at this;subst hb;rw[abJ];exact this
  ·cases h
 ·cases h
end
section
variable{R:Type}
def bA(xs:List Int):bw:=xs.map fun n=>UInt8.ofNat n.toNat
theorem Qh:∀{xs:List Int},qN (xs.map (Ty.i .u8).ds)=some (bA xs)
 |[]=>rfl
 |x::xs=>by have ih:=Qh (xs:=xs);show(qN (xs.map (Ty.i .u8).ds)).map _=_;rw[ih];rfl
def wx:List XV->Nat
 |[]=>0
 |v::r=>v.sz+wx r
theorem Ay[YL]:∀l:List XV,(XV.cf l).length=wx l
 |[]=>rfl
 |v::r=>by show(v.fc++XV.cf r).length=v.sz+wx r;rw[ε,CG,Ay r]
theorem zS:∀l:List DV,AV.data (l.map .D)=some l
 |[]=>rfl
 |x::l=>by show(AV.data (l.map .D)).map (x::·)=_;rw[zS l];rfl
def zl:Ty->List XV
 |.u=>[]
 |.b=>[.d .b false]
 |.i k=>[.d (.i k) 0]
 |.s=>[.d .s []]
 |.p a c=>zl a++zl c
 |.w a=>zl a
 |.ar n k=>[.d (.ar n k) (bz.zero n)]
 |.sl t=>[.fln t]
 |.o t=>[.fln t]
def zr:Ty->List AV
 |.u=>[]
 |.b=>[.D (.B false)]
 |.i k=>[.D (.I k 0)]
 |.s=>[.D (.S [])]
 |.p a c=>zr a++zr c
 |.w a=>zr a
 |.ar n k=>aag n (.D (.I k 0))
 |.sl _=>[.fl []]
 |.o _=>[.fl []]
theorem E8[YL]:∀t:Ty,XV.cf (zl t)=zr t
 |.u=>rfl
 |.b=>rfl
 |.i _=>rfl
 |.s=>rfl
 |.p a c=>by show XV.cf (zl a++zl c)=zr a++zr c;rw[pE,E8 a,E8 c]
 |.w a=>E8 a
 |.ar n k=>by
  show(((aag n (0:Int)).map (DV.I k)).map AV.D)++[]=aag n (.D (.I k 0));rw[aac,abW,abW]
 |.sl _=>rfl
 |.o _=>rfl
def o7:List AV->List AV->Bool
 |[],[]=>true
 |.D (.B x)::r,.D (.B y)::r'=>(x==y)&&o7 r r'
 |.D (.I k x)::r,.D (.I k' y)::r'=>decide (k=k')&&((x==y)&&o7 r r')
 |.D (.S x)::r,.D (.S y)::r'=>(x==y)&&o7 r r'
 |.fl []::r,.fl []::r'=>o7 r r'
 |.D (.L [])::r,.D (.L [])::r'=>o7 r r'
 |_,_=>false
theorem yl:∀{a c:List AV},o7 a c=true->a=c:=by
 intro a
 induction a with
 |nil=>intro c h;cases c<;>first|rfl|(cases h;done)
 |cons x r ih=>
  intro c h;unfold o7 at h;split at h
  ·cases‹x::r=[]›
  ·rename_i e;cases e;rw[μ,beq_iff_eq]at h;rw[h.1,ih h.2]
  ·rename_i e;cases e;rw[μ,μ,beq_iff_eq,decide_eq_true_eq]at h;rw[h.1,h.2.1,ih h.2.2]
  ·rename_i e;cases e;rw[μ,beq_iff_eq]at h;rw[h.1,ih h.2]
  ·rename_i e;cases e;rw[ih h]
  ·rename_i e;cases e;rw[ih h]
  ·cases h
def zX:List AV->Option (List XV)
 |[]=>some []
 |.D (.B x)::r=>(zX r).map (.d .b x::·)
 |.D (.I k x)::r=>(zX r).map (.d (.i k) x::·)
 |.D (.S x)::r=>(zX r).map (.d .s x::·)
 |.fl []::r=>(zX r).map (.fln .u::·)
 |.D (.C v)::r=>(zX r).map (.c v::·)
 |_=>none
theorem L0[YL]:∀{a:List AV} {l:List XV},zX a=some l->XV.cf l=a:=by
  intro a
  induction a with
  |nil=>intro l h;cases h;rfl
  | cons x r ih =>
    intro l h;unfold zX at h;split at h
    · rename_i e;cases e
    all_goals first
      | (rename_i e;cases e
         rw[ι]at h;obtain⟨l',h1,rfl⟩:=h;exact congrArg (_::·) (ih h1))
      |(cases h;done)
def Ec(ty:Option Ty)(zs:List AV):Option (List XV):=match ty with
 |some t=>match o7 zs (zr t)with
  |true=>some (zl t)
  |false=>none
 |none=>zX zs
theorem K7[YL](h:Ec ty zs=some l):XV.cf l=zs:=by
 unfold Ec at h;split at h
 ·split at h
  ·rename_i hz;cases h;rw[E8,yl hz]
  ·cases h
 ·exact L0 h
def An:Option Ty->Option Ty
 |some (.sl t)=>some t
 |_=>none
def Eg(s:XS)(t:Ty):List XV->(List t.T->Option R)->Option R
 |[],K=>K []
 |v::vs,K=>match uI v with
  |some cs=>A7 s t cs fun x l=>match l with
   |[]=>Eg s t vs fun ys=>K (x::ys)
   |_=>none
  |none=>none
theorem Mq[YL]{s:XS}{t:Ty}{k:Nat}(hk:t.n=k){r:R}:∀{ps:List Operand} {vs:List XV} {K:List t.T->Option R},ps.map s.er.ev=XV.de vs->Eg s t vs K=some r->∃xs,K xs=some r/\vY s.er.lk s.er.ev k ps=some (xs.map t.ds)/\gK s.er.ev ps=XV.qw vs
 |[],[],K,_,h=>⟨[],h,rfl,rfl⟩
 |p::ps,v::vs,K,e,h=>by
  have e1:s.er.ev p=v.er:=List.head_eq_of_cons_eq e;have e2:ps.map s.er.ev=XV.de vs:=List.tail_eq_of_cons_eq e;unfold Eg at h;split at h
  ·rename_i cs hcs;obtain⟨x,l1,l2,rfl,h,ec⟩:=Cu (φ:=fun _=>none) (fun _ _ _=>rfl) h;split at h
   ·obtain⟨xs,h,h1,h2⟩:=Mq hk e2 h;refine⟨x::xs,h,?_,?_⟩
    ·unfold vY;rw[e1,oU hcs,h1];show(match AV.data (AV.bu s.er.lk (fun _=>none) (XV.cf (l1++[]))),some (xs.map t.ds)with|some e,some es=>if e.length=k then some (e::es)else none|_,_=>none)=_;rw[aac,ec,zS];show(if(t.ds x).length=k then _ else _)=_;rw[if_pos (by rw[Ty.fo];exact hk)];rfl
    ·show AV.rows (s.er.ev p)++gK s.er.ev ps=_;rw[e1,xg,h2];rfl
   ·cases h
  ·cases h
 |[],_::_,_,e,_=>by cases e
 |_::_,[],_,e,_=>by cases e
def Gi(s:XS):List (Nat×Nat×Operand)->List XV->(List XV->Option R)->Option R
 |[],l,K=>K l
 |(o,sz,x)::r,l,K=>w1 s x fun v=>match uI v with
  |some cs=>match aae (wx cs) sz,uk l o cs sz with
   |true,some l'=>Gi s r l' K
   |_,_=>none
  |none=>none
theorem K9(o:Nat)(xs:List AV):∀(r:List (Nat×List AV)) (cs:List AV),yS cs (r++[(o,xs)])=(yS cs r).take o++xs++(yS cs r).drop (o+xs.length)
 |[],cs=>rfl
 |(o',ys)::r,cs=>by show yS _ (r++[(o,xs)])=_;rw[K9 o xs r];rfl
theorem Ml[YL]{s:XS}{zs:List AV}{K:List XV->Option R}{r:R}{KP:AV->Prop}(hK:∀l,K l=some r->KP (.agg (XV.cf l))):∀{ps:List (Nat×Nat×Operand)} {l:List XV} {acc:List (Nat×List AV)},XV.cf l=yS zs acc.reverse->(XV.cf l).length=zs.length->Gi s ps l K=some r->AT s.er.ev zs ps acc KP
 |[],l,acc,e,_,h=>by show KP (.agg (yS zs acc.reverse));rw[<-e];exact hK _ h
 |(o,sz,x)::ps,l,acc,e,el,h=>by
  obtain⟨h,e1⟩:=aP h;split at h
  ·rename_i cs hcs;split at h
   ·rename_i l' hb hu;obtain⟨u1,u2⟩:=wK hu;have hsz:(XV.cf cs).length=sz:=by rw[Ay];exact θ hb
    refine⟨XV.cf cs,by rw[e1];exact oU hcs,hsz,by rw[<-el];exact u1,?_⟩;refine Ml hK (l:=l') ?_ ?_ h
    ·rw[u2,e,List.reverse_cons,K9,hsz]
    ·rw[u2,ε,ε,aaq,aaz,hsz];omega
   ·cases h
  ·cases h
def As:XV->XV
 |.agg [.d (.ar n k) x]=>.d (.ar n k) x
 |v=>v
theorem Fh[YL](v:XV):(As v).er=v.er:=by
 unfold As;split
 ·rename_i n k x;show AV.agg (((Ty.ar n k).ds x).map .D)=.agg (((Ty.ar n k).ds x).map .D++[]);rw[aac]
 ·rfl
def Ty.z:(t:Ty)->t.T
 |.u=>()
 |.b=>false
 |.i _=>0
 |.s=>[]
 |.p a c=>(a.z,c.z)
 |.w a=>a.z
 |.ar n _=>bz.zero n
 |.sl _=>[]
 |.o _=>[]
def H7(t:Ty)(k bytes:Nat)(zs:List DV)(K:XV->XB->Option R)(m:Nat):XV->XV->Option R
 |.d (.i _) l,.d (.i _) c=>match aae t.n k,o7 (zs.map .D) ((t.ds t.z).map .D)with
  |true,true=>bb (0<=l) (bb (l<=c) (bb (c.toNat<=9223372036854775807) (bb (c.toNat*bytes<=281474976710656) (K (.slw (.O m) t l.toNat) (.row true t (aag l.toNat t.z))))))
  |_,_=>none
 |_,_=>none
theorem Td[YL]{zs:List DV}{K:XV->XB->Option R}{r:R}{m:Nat}{vx:XV}(h:H7 t k bytes zs K m vx vy=some r):
  ∃(k1 k2:IntKind) (l c:Int) (v:XV) (b:XB),vx.er=.D (.I k1 l)/\vy.er=.D (.I k2 c)/\0<=l/\l<=c/\c<=9223372036854775807/\(bytes:Int)*c<=281474976710656/\K v b=some r/\v.er=.sl (.O m) k 0 l.toNat/\b.er=.row true k (aag l.toNat zs):=by
 unfold H7 at h;split at h
 ·rename_i k1 l k2 c;split at h
  ·rename_i hb hz;have hb:=θ hb;have hz:=oA (yl hz);obtain⟨h1,h⟩:=bD h;obtain⟨h2,h⟩:=bD h;obtain⟨h3,h⟩:=bD h;obtain⟨h4,h⟩:=bD h;have h0:(0:Int)<=c:=Int.le_trans (show(0:Int)<=l from h1) h2;have hc:((Int.toNat c:Nat):Int)=c:=Int.toNat_of_nonneg h0;have h3:(c:Int)<=9223372036854775807:=by rw[<-hc];exact Int.ofNat_le.2 h3
   have h4:(bytes:Int)*c<=281474976710656:=by rw[<-hc,Int.mul_comm,<-Int.natCast_mul];exact Int.ofNat_le.2 h4
   refine⟨k1,k2,l,c,_,_,rfl,rfl,h1,h2,h3,h4,h,?_,?_⟩
   ·show AV.sl (.O m) t.n 0 _=_;rw[hb]
   ·show bp.row true t.n ((aag _ t.z).map t.ds)=_;rw[hb,abW,<-hz]
  ·cases h
 ·cases h
def Cj(j:Int)(K:XV->Option R):Nat->List XV->Option R
 |_,[]=>none
 |i,v::vs=>match v with
  |.clo f c=>bk (decide (j=(i:Int))) (K (.clo f c)) (Cj j K (i+1) vs)
  |_=>none
theorem Pq[YL]{j:Int}{K:XV->Option R}{r:R}:∀{vs:List XV} {i:Nat},Cj j K i vs=some r->∃n v,j=((i+n:Nat):Int)/\n<vs.length/\(XV.cf vs)[n]?=some v.er/\K v=some r
 |[],i,h=>by cases h
 |v::vs,i,h=>by
  unfold Cj at h;split at h
  ·rename_i f c;by_cases hj:j=(i:Int)
   ·rw[decide_eq_true hj]at h;exact⟨0,.clo f c,hj,Nat.succ_pos _,rfl,h⟩
   ·rw[decide_eq_false hj]at h;have h:Cj j K (i+1) vs=some r:=h;obtain⟨n,v,h1,h2,h3,h4⟩:=Pq h;exact⟨n+1,v,by rw[h1];congr 1;omega,Nat.succ_lt_succ h2,h3,h4⟩
  ·cases h
def Hg(m k:Nat)(ag:Option Nat)(j:Int)(K:XV->Option R):XV->Option R
 |.d (.ar n k') y=>match ag with
  |none=>match aae n m,aae k 1 with
   |true,true=>bB y.l j fun c=>K (.d (.i k') c)
   |_,_=>none
  |some q=>match aae (m*k) n,aae q k with
   |true,true=>bb (0<=j) (bb (j<(m:Int)) (K (.d (.ar q k') (y.part (rh 0 j.toNat k) q))))
   |_,_=>none
 |.agg cs=>match ag,aae cs.length m,aae k 1 with
  |none,true,true=>Cj j K 0 cs
  |_,_,_=>none
 |_=>none
theorem bIz[YL]{m:Nat}{K:XV->Option R}{r:R}(h:Hg m k ag j K v=some r){KP:AV->Prop}(hK:∀v,K v=some r->KP v.er):∃cs,v.er=.agg cs/\0<=j/\j<(m:Int)/\
  match(generalizing:=false) ag with
  |none=>∃a,cs[j.toNat*k]?=some a/\KP a
  |some q=>j.toNat*k+q<=cs.length/\KP (.agg ((cs.drop (j.toNat*k)).take q)):=by
 unfold Hg at h;split at h
 ·rename_i n k' y;cases ag with
  |none=>
   replace h:(match aae n m,aae k 1 with
    |true,true=>bB y.l j fun c=>K (.d (.i k') c)
    |_,_=>none)=some r:=h
   split at h
   ·rename_i hb hb2;have hb:=θ hb;have hb2:=θ hb2;obtain⟨c,h0,hc,h⟩:=Cd h;have hlt:=(χ.1 hc).1;rw[y.len]at hlt;refine⟨(y.l.map (DV.I k')).map .D,rfl,h0,by omega,.D (.I k' c),?_,hK (.d (.i k') c) h⟩;rw[hb2,aaL,aaf,aaf,hc];rfl
   ·cases h
  |some q=>
   replace h:(match aae (m*k) n,aae q k with
    |true,true=>bb (0<=j) (bb (j<(m:Int)) (K (.d (.ar q k') (y.part (rh 0 j.toNat k) q))))
    |_,_=>none)=some r:=h
   split at h
   ·rename_i hb hb2;have hb:=θ hb;obtain rfl:=θ hb2;obtain⟨h0,h⟩:=bD h;obtain⟨h1,h⟩:=bD h;have hle:j.toNat*q+q<=n:=by rw[<-hb,<-Nat.succ_mul];exact Nat.mul_le_mul_right _ (by omega)
    have:=hK _ h;rw[uO,aal]at this;refine⟨(y.l.map (DV.I k')).map .D,rfl,h0,h1,by rw[κ,κ,y.len];exact hle,?_⟩;have e:(XV.d (.ar q k') (y.part (j.toNat*q) q)).er=.agg ((((y.l.map (DV.I k')).map AV.D).drop (j.toNat*q)).take q):=by show AV.agg (((y.part (j.toNat*q) q).l.map (DV.I k')).map .D)=_;rw[bz.si hle,aaA,aaI,aaA,aaI]
    rw[e]at this;exact this
   ·cases h
 ·rename_i cs;split at h
  ·rename_i hb hb2;have hb:=θ hb;obtain rfl:=θ hb2;obtain⟨n,v,h1,h2,h3,h4⟩:=Pq h;refine⟨XV.cf cs,rfl,by omega,by omega,v.er,?_,hK v h4⟩;rw[h1,π,aaL,aal];exact h3
  ·cases h
 ·cases h
def Pr(s:XS)(m:Nat)(lo hi:Option Operand)(K:XV->Option R):XV->Option R
 |.apt h ix=>match s.lk h with
  |some (.arr _ n _ _)=>match ade (ix+m) n with
   |true=>qU s hi m fun hh=>qU s lo 0 fun l=>bb (l<=hh) (bb (hh<=m) (K (.asl h (rh ix l 1) (hh-l))))
   |false=>none
  |_=>none
 |.rpt h off=>match s.lk h with
  |some (.rb _ t x)=>match pq (ji t x) off with
   |some a=>match aae a.n m with
    |true=>qU s hi m fun hh=>qU s lo 0 fun l=>bb (l<=hh) (bb (hh<=m) (K (.rsl h off l (hh-l))))
    |false=>none
   |none=>none
  |_=>none
 |_=>none
def zK(k:IntKind):Nat->List AV->Bool
 |0,[]=>true
 |n+1,.D (.I k' 0)::l=>decide (k'=k)&&zK k n l
 |_,_=>false
theorem Q9{k:IntKind}:∀{n:Nat} {l:List AV},zK k n l=true->l=(aag n (DV.I k 0)).map .D
 |0,[],_=>rfl
 |n+1,.D (.I k' 0)::l,h=>by have h:(decide (k'=k)&&zK k n l)=true:=h;rw[μ,decide_eq_true_eq]at h;rw[h.1,Q9 h.2];rfl
def PO(zs:List AV)(K:XV->XB->Option R)(m:Nat):Ty->Option R
 |.ar n k=>match zK k n zs with
  |true=>K (.apt (.O m) 0) (.arr true n k (bz.zero n))
  |false=>none
 |t=>match o7 zs ((t.ds t.z).map .D)with
  |true=>K (.rpt (.O m) 0) (.rb true t t.z)
  |false=>none
def Qk(ty:Option Ty)(K:XV->XB->Option R)(m:Nat):XV->Option R
 |.d (.ar n k) y=>K (.apt (.O m) 0) (.arr true n k y)
 |.agg cs=>match ty with
  |some t=>match qj t cs with
   |some (x,[])=>K (.rpt (.O m) 0) (.rb true t x)
   |_=>none
  |none=>none
 |_=>none
def Gj(k:IntKind)(m:Nat)(K:Bool->Option R):XV->XV->Option R
 |.d (.ar n k1) a,.d (.ar n2 k2) b=>match aae n m,aae n2 m,decide (k1=k),decide (k2=k)with
  |true,true,true,true=>K (a.l==b.l)
  |_,_,_,_=>none
 |_,_=>none
def Fu(K:XV->Option R):XV->Option R
 |.ptr h o=>K (.ptr h o)
 |.ept h t ix o=>K (.ept h t ix o)
 |.apt h ix=>K (.apt h ix)
 |.rpt h o=>K (.rpt h o)
 |.rop t x o=>K (.rop t x o)
 |_=>none
theorem zI{k:IntKind}:∀(l:List Int),xY k ((l.map (DV.I k)).map .D)=some l
 |[]=>rfl
 |x::l=>by show(if k=k then(xY k ((l.map (DV.I k)).map .D)).map (x::·)else none)=_;rw[if_pos rfl,zI l];rfl
theorem bKc[YL]{k:IntKind}{m:Nat}{K:Bool->Option R}{r:R}{c:XV}(h:Gj k m K a c=some r):∃xs ys p q,a.er=.agg xs/\c.er=.agg ys/\xY k xs=some p/\xY k ys=some q/\p.length=m/\q.length=m/\K (p==q)=some r:=by
 unfold Gj at h;split at h
 ·rename_i n k1 a n2 k2 b;split at h
  ·rename_i h1 h2 h3 h4;have h1:=θ h1;have h2:=θ h2;have h3:=of_decide_eq_true h3;have h4:=of_decide_eq_true h4;subst h1 h2 h3 h4;exact⟨(a.l.map (DV.I _)).map .D,(b.l.map (DV.I _)).map .D,a.l,b.l,rfl,rfl,zI _,zI _,a.len,b.len,h⟩
  ·cases h
 ·cases h
theorem Rp[YL]{K:XV->Option R}{r:R}(h:Fu K v=some r){KP:AV->Prop}(hK:∀v,K v=some r->KP v.er):match v.er with
  |.ptr h o=>KP (.ptr h o)
  |.eptr h k ix o=>KP (.eptr h k ix o)
  |.rop ds=>KP (.rop ds)
  |_=>False:=by
 unfold Fu at h;split at h
 ·exact hK _ h
 ·exact hK _ h
 ·exact hK _ h
 ·exact hK _ h
 ·exact hK _ h
 ·cases h
theorem BL:∀l:List DV,AV.data (l.map .D)=some l
 |[]=>rfl
 |x::l=>by show(AV.data (l.map AV.D)).map (x::·)=_;rw[BL l];rfl
def oJ:List Sh->Bool->Bool->Bool
 |[],p,_=>p
 |_::_,p,q=>p&&q
def Iu(k:IntKind)(m:Nat):XV->XV->Option Bool
 |.d (.ar n k1) a,.d (.ar n2 k2) e=>match aae n m,aae n2 m,decide (k1=k),decide (k2=k)with
  |true,true,true,true=>some (a.l==e.l)
  |_,_,_,_=>none
 |_,_=>none
theorem S7[YL]{k:IntKind}{m:Nat}{x:XV}{b:Bool}(h:Iu k m x y=some b):∃p q:List Int,x.fc=(p.map (DV.I k)).map .D/\y.fc=(q.map (DV.I k)).map .D/\p.length=m/\q.length=m/\b=(p==q):=by
 unfold Iu at h;split at h
 ·rename_i n k1 a n2 k2 e;split at h
  ·rename_i h1 h2 h3 h4;obtain rfl:=θ h1;obtain rfl:=θ h2;obtain rfl:=of_decide_eq_true h3;obtain rfl:=of_decide_eq_true h4;cases h;exact⟨a.l,e.l,rfl,rfl,a.len,e.len,rfl⟩
  ·cases h
 ·cases h
def wq:List Sh->List XV->List XV->Option Bool
 |[],[],[]=>some true
 |.s kd::r,x::xs,y::ys=>match Bh kd x y,wq r xs ys with
  |some p,some q=>some (oJ r p q)
  |_,_=>none
 |.a k m::r,x::xs,y::ys=>match Iu k m x y,wq r xs ys with
  |some p,some q=>some (oJ r p q)
  |_,_=>none
 |_,_,_=>none
theorem SR(h:wq [] xs ys=some q):q=true:=by cases xs<;>cases ys<;>first|(cases h;rfl;done)|(cases h;done)
theorem De{r:List Sh}{p:Bool}(h:wq r xs ys=some q):oJ r p q=(p&&q):=by
 cases r with
 |nil=>rw[SR h,abY];rfl
 |cons _ _=>rfl
theorem X5[YL]{kd:Nat}{x:XV}{p:Bool}(hp:Bh kd x y=some p):∃d1 d2,x.fc=[.D d1]/\y.fc=[.D d2]/\DV.same kd d1 d2=some p:=by
 unfold Bh at hp;split at hp
 ·split at hp
  ·rename_i hb;obtain rfl:=θ hb;exact⟨_,_,rfl,rfl,hp⟩
  ·cases hp
 ·exact⟨_,_,rfl,rfl,hp⟩
 ·split at hp
  ·rename_i hb;obtain rfl:=θ hb;exact⟨_,_,rfl,rfl,hp⟩
  ·cases hp
 ·cases hp
theorem J5[YL]:∀{sh:List Sh} {xs ys:List XV} {b:Bool},wq sh xs ys=some b->r8 sh (XV.cf xs) (XV.cf ys)=some b
 |[],xs,ys,b,h=>by
  cases xs<;>cases ys<;>first|(cases h;rfl;done)|(cases h;done)
 |.s kd::r,x::xs,y::ys,b,h=>by
  unfold wq at h;split at h
  ·rename_i p q h1 h2;cases h;obtain⟨d1,d2,e1,e2,e3⟩:=X5 h1;have ih:=J5 h2;show r8 (.s kd::r) (x.fc++XV.cf xs) (y.fc++XV.cf ys)=_;rw[e1,e2,De h2];show(match DV.same kd d1 d2,r8 r (XV.cf xs) (XV.cf ys)with|some p,some q=>some (p&&q)|_,_=>none)=_;rw[e3,ih]
  ·cases h
 |.a k m::r,x::xs,y::ys,b,h=>by
  unfold wq at h;split at h
  ·rename_i p q h1 h2;cases h;obtain⟨p1,q1,e1,e2,l1,l2,rfl⟩:=S7 h1;have ih:=J5 h2;show r8 (.a k m::r) (x.fc++XV.cf xs) (y.fc++XV.cf ys)=_;rw[e1,e2,De h2];have hl:∀(p:List Int),p.length=m->((p.map (DV.I k)).map AV.D).length=m:=fun p e=>by rw[κ,κ,e]
   have tk:∀{a c:List AV},a.length=m->(a++c).take m=a:=fun e=>by rw[<-e,List.take_left]
   have dp:∀{a c:List AV},a.length=m->(a++c).drop m=c:=fun e=>by rw[<-e,List.drop_left]
   unfold r8;rw[tk (hl _ l1),tk (hl _ l2),dp (hl _ l1),dp (hl _ l2),zI,zI,ih];simp only;rw[if_pos ⟨l1,l2⟩]
  ·cases h
 |.s _::_,[],ys,b,h=>by cases h
 |.s _::_,_::_,[],b,h=>by cases h
 |.a _ _::_,[],ys,b,h=>by cases h
 |.a _ _::_,_::_,[],b,h=>by cases h
section
variable{α β:Type}[DecidableEq α]
def dA:List (α×β)->α->Option β
 |[],_=>none
 |e::es,y=>if e.1=y then some e.2 else dA es y
def iZ:List (α×β)->α->β->List (α×β)
 |[],y,v=>[(y,v)]
 |e::es,y,v=>if e.1=y then(y,v)::es else e::iZ es y v
def KU:List (α×β)->α->List (α×β)
 |[],_=>[]
 |e::es,y=>if e.1=y then es else e::KU es y
end
def C4(t:Ty)(x:t.T):XV:=match t,x with
 |.o t,x=>.d (.sl t) x
 |t,x=>ud t x
theorem Df[YL](t:Ty)(x:t.T):(C4 t x).er=dH t x:=by cases t<;>first|rfl|exact Dr (.p _ _) _|exact Dr (.w _) _
theorem bLc(t:Ty)(x:t.T):(sP false t x).av=dH t x:=by cases t<;>rfl
theorem PK:∀{a b c d:List AV} {p q:Bool},qc a b=some p->qc c d=some q->qc (a++c) (b++d)=some (p&&q)
 |a,b,c,d,p,q,h,h2=>by
  unfold qc at h;split at h
  ·cases h;simpa using h2
  ·rename_i k n xs k' n' ys;rw[ζ]at h;obtain⟨e,h⟩:=h;split at h
   ·rename_i b0 hb;cases h;show(if k=k' then match qc (xs++c) (ys++d)with|some b=>some (n==n'&&b)|none=>none else none)=_;rw[if_pos e,PK hb h2,acG]
   ·cases h
  ·cases h
theorem P7(k:IntKind):∀(l l':List Int),l.length=l'.length->qc ((l.map (DV.I k)).map .D) ((l'.map (DV.I k)).map .D)=some (decide (l'=l))
 |[],[],_=>rfl
 |x::l,y::l',h=>by
  show(if k=k then match qc ((l.map (DV.I k)).map .D) ((l'.map (DV.I k)).map .D)with|some b=>some (x==y&&b)|none=>none else none)=_;rw[if_pos rfl,P7 k l l' (by simpa using h)];simp only[Option.some.injEq];rw[aa7,μ,beq_iff_eq,decide_eq_true_eq,decide_eq_true_eq];exact⟨fun⟨a,b⟩=>by rw[a,b],fun e=>by cases e;exact⟨rfl,rfl⟩⟩
 |[],_::_,h=>by cases h
 |_::_,[],h=>by cases h
theorem Dv:∀{t:Ty},vt t=true->∀x y:t.T,qc ((t.ds x).map .D) ((t.ds y).map .D)=some (decide (y=x))
 |.i k,_,x,y=>by
  show(if k=k then some (((x:Int)==y)&&true)else none)=_;rw[if_pos rfl,abY];congr 1;rw[aa7,beq_iff_eq,decide_eq_true_eq];exact⟨Eq.symm,Eq.symm⟩
 |.p a b,h,x,y=>by
  have h:(vt a&&vt b)=true:=h;rw[μ]at h;show qc ((a.ds x.1++b.ds x.2).map .D) ((a.ds y.1++b.ds y.2).map .D)=_;rw[aau,aau,PK (Dv h.1 x.1 y.1) (Dv h.2 x.2 y.2)];congr 1;rw[aa7,μ,decide_eq_true_eq,decide_eq_true_eq,decide_eq_true_eq];exact⟨fun⟨a,b⟩=>Prod.ext a b,fun e=>by rw[e];exact⟨rfl,rfl⟩⟩
 |.ar n k,_,x,y=>by
  show qc ((x.l.map (DV.I k)).map .D) ((y.l.map (DV.I k)).map .D)=_;rw[P7 k x.l y.l (x.len.trans y.len.symm)];congr 1;rw[aa7,decide_eq_true_eq,decide_eq_true_eq];exact⟨fun e=>bz.ext e,fun e=>by rw[e]⟩
 |.u,h,_,_|.b,h,_,_|.s,h,_,_|.w _,h,_,_|.sl _,h,_,_|.o _,h,_,_=>by cases h
theorem KR:∀{a b:List IntKind} {c d:List AV},pe a c=true->pe b d=true->pe (a++b) (c++d)=true
 |a,b,c,d,h,h2=>by
  unfold pe at h;split at h
  ·exact h2
  ·rw[μ]at h;show(decide _&&pe (_++b) (_++d))=true;rw[h.1,KR h.2 h2];rfl
  ·cases h
theorem PA(k:IntKind):∀(n:Nat) (l:List Int),l.length=n->pe (aag n k) ((l.map (DV.I k)).map .D)=true
 |0,l,h=>by rw[List.length_eq_zero_iff.1 h];rfl
 |n+1,[],h=>by cases h
 |n+1,x::l,h=>by show(decide (k=k)&&pe (aag n k) ((l.map (DV.I k)).map .D))=true;rw[decide_eq_true rfl,PA k n l (by simpa using h)];rfl
theorem FA:∀{t:Ty},vt t=true->∀x:t.T,pe (z7 t) ((t.ds x).map .D)=true
 |.i k,_,x=>by show(decide (k=k)&&true)=true;rw[decide_eq_true rfl];rfl
 |.p a b,h,x=>by
  have h:(vt a&&vt b)=true:=h;rw[μ]at h;show pe (z7 a++z7 b) ((a.ds x.1++b.ds x.2).map .D)=true;rw[aau];exact KR (FA h.1 x.1) (FA h.2 x.2)
 |.ar n k,_,x=>PA k n x.l x.len
 |.u,h,_|.b,h,_|.s,h,_|.w _,h,_|.sl _,h,_|.o _,h,_=>by cases h
theorem Ly(h:zL K=true)(x y:K.T):(dH K x).CS (dH K y)=some (decide (y=x)):=by
 cases K<;>first|(cases h;done)|skip
 ·rename_i k;show(if k=k then some ((x:Int)==y)else none)=_;rw[if_pos rfl];congr 1;rw[aa7,beq_iff_eq,decide_eq_true_eq];exact⟨Eq.symm,Eq.symm⟩
 ·show some ((x:List UInt8)==y)=_;congr 1;rw[aa7,beq_iff_eq,decide_eq_true_eq];exact⟨Eq.symm,Eq.symm⟩
 ·exact Dv h x y
 ·exact Dv (t:=.ar _ _) rfl x y
theorem Mc(h:zL K=true)(x:K.T):(dH K x).sr K.kd=true:=by
 cases K<;>first|(cases h;done)|skip
 ·exact decide_eq_true rfl
 ·rfl
 ·exact FA h x
 ·exact FA (t:=.ar _ _) rfl x
theorem rL{wr:Bool}{K V:Ty}(hk:zL K=true)(y:K.T):∀(es:List (K.T×V.T)) (hole:Option K.T),∃r,mV (dH K y) (iL wr K V es hole)=some r/\
  match dA es y with
  |none=>r=none
  |some v=>∃j,r=some (j,if hole=some y then .v (Bt wr V v)else sP wr V v)
 |[],hole=>⟨none,rfl,rfl⟩
 |e::es,hole=>by
  have key:∀(mv:MV) (rest:List (AV×MV)) (r0:Option (Nat×MV)),mV (dH K y) rest=some r0->mV (dH K y) ((dH K e.1,mv)::rest)=some (if e.1=y then some (0,mv)else match r0 with|some (j,v)=>some (j+1,v)|none=>none):=fun mv rest r0 h0=>by
   unfold mV;rw[Ly hk];by_cases he:e.1=y
   ·rw[decide_eq_true he,if_pos he]
   ·rw[decide_eq_false he,if_neg he];simp only[h0];cases r0 with
    |none=>rfl
    |some p=>rfl
  have hg:dA (e::es) y=if e.1=y then some e.2 else dA es y:=rfl
  cases hole with
  |none=>
   obtain⟨r0,h0,h1⟩:=rL hk y es none;refine⟨_,key (sP wr V e.2) _ r0 h0,?_⟩;rw[hg];by_cases he:e.1=y
   ·rw[if_pos he,if_pos he];exact⟨0,by rw[if_neg (fun h=>by cases h)]⟩
   ·rw[if_neg he,if_neg he];cases hm:dA es y with
    |none=>rw[hm]at h1;simp only at h1;subst h1;rfl
    |some v=>rw[hm]at h1;obtain⟨j,rfl⟩:=h1;exact⟨j+1,rfl⟩
  |some z=>
   by_cases hz:e.1=z
   ·obtain⟨r0,h0,h1⟩:=rL hk y es none;refine⟨_,by unfold iL;rw[if_pos hz];exact key (.v (Bt wr V e.2)) _ r0 h0,?_⟩;rw[hg];by_cases he:e.1=y
    ·rw[if_pos he,if_pos he];exact⟨0,by rw[if_pos (by rw[<-hz,he])]⟩
    ·rw[if_neg he,if_neg he];cases hm:dA es y with
     |none=>rw[hm]at h1;simp only at h1;subst h1;rfl
     |some v=>
      rw[hm]at h1;obtain⟨j,rfl⟩:=h1;exact⟨j+1,by rw[if_neg (fun h=>by cases h),if_neg (fun h=>he (by cases h;exact hz))]⟩
   ·obtain⟨r0,h0,h1⟩:=rL hk y es (some z);refine⟨_,by unfold iL;rw[if_neg hz];exact key (sP wr V e.2) _ r0 h0,?_⟩;rw[hg];by_cases he:e.1=y
    ·rw[if_pos he,if_pos he];exact⟨0,by rw[if_neg (fun h=>hz (by cases h;exact he))]⟩
    ·rw[if_neg he,if_neg he];cases hm:dA es y with
     |none=>rw[hm]at h1;simp only at h1;subst h1;rfl
     |some v=>rw[hm]at h1;obtain⟨j,rfl⟩:=h1;exact⟨j+1,rfl⟩
def Il(V:Ty):AV->Bool
 |.agg cs=>!(nW V)&&o7 cs ((V.ds V.z).map .D)
 |a=>nW V&&o7 [a] [dH V V.z]
theorem WL{z:AV}(h:Il V z=true):z=dH V V.z:=by
 unfold Il at h;split at h
 ·rw[μ,aaZ]at h;rw[nM _ h.1,<-yl h.2]
 ·rw[μ]at h;have:=yl h.2;injection this
def we(a b:KD):Bool:=match a,b with
 |.i k,.i k'=>decide (k=k')
 |.s,.s=>true
 |.a l,.a l'=>decide (l=l')
 |_,_=>false
theorem Ep{a b:KD}(h:we a b=true):a=b:=by
 unfold we at h;split at h
 ·rw[of_decide_eq_true h]
 ·rfl
 ·rw[of_decide_eq_true h]
 ·cases h
def AZ(K:Ty)(v:XV):Option K.T:=match v with
 |.d t x=>t.j8 K x
 |.agg cs=>match nW K with
  |true=>none
  |false=>match qj K cs with
   |some (x,[])=>some x
   |_=>none
 |_=>none
theorem KM[YL]{y:K.T}(h:AZ K v=some y):v.er=dH K y:=by
 unfold AZ at h;split at h
 ·obtain⟨e,rfl⟩:=Ty.ct h;subst e;rfl
 ·split at h
  ·cases h
  ·rename_i cs _ hl;split at h
   ·rename_i x hp;cases h;obtain⟨l1,e1,e2⟩:=qB hp;rw[aac]at e1;subst e1;rw[nM _ hl];show AV.agg (XV.cf _)=_;rw[e2]
   ·cases h
 ·cases h
def JW(s:XS)(kd:KD)(z:AV)(ok:Bool)(K:XV->Option R):XV->XV->Option R
 |.mref h,vy=>match s.lk h with
  |some (.mp false K0 V es _ _)=>match zL K0&&we K0.kd kd&&Il V z,AZ K0 vy with
   |true,some y=>match ok with
    |true=>K (.cr [C4 V ((dA es y).getD V.z),.d .b (dA es y).isSome])
    |false=>K (C4 V ((dA es y).getD V.z))
   |_,_=>none
  |_=>none
 |_,_=>none
theorem bEp[YL]{kd:KD}{z:AV}{ok:Bool}{K:XV->Option R}{r:R}{vx:XV}(h:JW s kd z ok K vx vy=some r){KP:AV->Prop}(hK:∀v,K v=some r->KP v.er):
  ∃h es i q,vx.er=.mref h/\s.er.lk h=some (.mp kd es i)/\vy.er.sr kd=true/\mV vy.er es=some q/\
   match q with
   |some (_,mv)=>KP (if ok=true then .cr [mv.av,.D (.B true)]else mv.av)
   |none=>KP (if ok=true then .cr [z,.D (.B false)]else z):=by
 unfold JW at h;split at h
 ·rename_i hd;split at h
  ·rename_i K0 V es hole i hl;split at h
   ·rename_i y hb hy;rw[μ,μ]at hb;obtain⟨⟨hk,hkd⟩,hz⟩:=hb;have hkd:=Ep hkd;subst hkd;have hz:=WL hz;subst hz;have ey:=KM hy;obtain⟨q,f1,f2⟩:=rL (V:=V) hk y es hole;refine⟨hd,_,_,q,rfl,by rw[aU,hl];rfl,by rw[ey];exact Mc hk y,by rw[ey];exact f1,?_⟩;cases hm:dA es y with
    |none=>
     rw[hm]at f2 h;simp only at f2;subst f2;simp only;cases ok with
     |true=>
      have:=hK _ h;simp only[XV.er,XV.de,Df,Option.getD_none,Option.isSome_none]at this;exact this
     |false=>
      have:=hK _ h;rw[Df]at this;exact this
    |some v=>
     rw[hm]at f2 h;obtain⟨j,rfl⟩:=f2;have e:(if hole=some y then MV.v (Bt false V v)else sP false V v).av=dH V v:=by
      split
      ·rfl
      ·exact bLc _ _
     simp only[e];cases ok with
     |true=>
      have:=hK _ h;simp only[XV.er,XV.de,Df,Option.getD_some,Option.isSome_some]at this;exact this
     |false=>
      have:=hK _ h;rw[Df]at this;exact this
   ·cases h
  ·cases h
 ·cases h
def bT7(s:XS)(K:XV->Option R):XV->Option R
 |.itr h hi=>match s.lk h,s.lk hi with
  |some (.mp false K0 V es _ (some (hi',some cur,_))),some _=>match zL K0&&hi.kq hi' with
   |true=>bj (dA es cur) fun v=>K (.cr [ud K0 cur,C4 V v])
   |false=>none
  |_,_=>none
 |_=>none
def Jg(neg:Bool)(K:XV->Option R):XV->Option R
 |.ptr _ _=>K (.d .b neg)
 |.c (.pointer none)=>K (.d .b (!neg))
 |_=>none
theorem ZK[YL]{neg:Bool}{K:XV->Option R}{r:R}(h:Jg neg K v=some r){KP:AV->Prop}(hK:∀v,K v=some r->KP v.er):match v.er with
  |.ptr _ _=>KP (.D (.B neg))
  |.D (.C (.pointer none))=>KP (.D (.B (!neg)))
  |_=>False:=by
 unfold Jg at h;split at h
 ·exact hK _ h
 ·exact hK _ h
 ·cases h
def EK(k:IntKind):List XV->Option (List Int)
 |[]=>some []
 |.d (.i k') x::l=>match decide (k'=k),EK k l with
  |true,some r=>some (x::r)
  |_,_=>none
 |_=>none
theorem Qr[YL]{k:IntKind}:∀{l:List XV} {xs:List Int},EK k l=some xs->XV.cf l=(xs.map (DV.I k)).map .D
 |[],xs,h=>by cases h;rfl
 |v::l,xs,h=>by
  unfold EK at h;split at h
  ·rename_i e;cases e
  ·rename_i k' x l' e;cases e;split at h
   ·rename_i r h1 h2;cases h;have h1:=of_decide_eq_true h1;subst h1;show[AV.D (.I _ x)]++XV.cf l=_;rw[Qr h2];rfl
   ·cases h
  ·cases h
def Hc(ty:Option Ty)(zs:List AV)(ps:List (Nat×Nat×Operand)):Option (List XV):=match ty,ps with
 |some (.ar _ _),_::_=>zX zs
 |_,_=>Ec ty zs
theorem bPg[YL]{ps:List (Nat×Nat×Operand)}(h:Hc ty zs ps=some l):XV.cf l=zs:=by
 unfold Hc at h;split at h
 ·exact L0 h
 ·exact K7 h
def FO(ty:Option Ty)(K:XV->Option R)(l:List XV):Option R:=match ty with
 |some (.ar n k)=>match EK k l with
  |some xs=>match aae xs.length n with
   |true=>K (.d (.ar n k) (bz.from xs n))
   |false=>K (.agg l)
  |none=>K (.agg l)
 |_=>K (.agg l)
theorem bJf[YL]{K:XV->Option R}{r:R}(h:FO ty K l=some r){KP:AV->Prop}(hK:∀v,K v=some r->KP v.er):KP (.agg (XV.cf l)):=by
 unfold FO at h;split at h
 ·rename_i n k;split at h
  ·rename_i xs hx;split at h
   ·rename_i hb;have:=hK _ h;have e:(XV.d (.ar n k) (bz.from xs n)).er=.agg (XV.cf l):=by show AV.agg (((bz.from xs n).l.map (DV.I k)).map .D)=_;rw[Qr hx,bz.s8 (Nat.le_of_eq (θ hb).symm),aaw (Nat.le_of_eq (θ hb))]
    rw[e]at this;exact this
   ·exact hK _ h
  ·exact hK _ h
 ·exact hK _ h
def xp(T:List bx)(s:XS)(ty:Option Ty)(op:cd)(K:XV->List XB->List Hd->Option R):Option R:=
 match op with
 |.mv x=>w1 s x fun v=>K v [] []
 |.pick c a b=>w1 s c fun vc=>w1 s a fun va=>w1 s b fun vb=>match vc with
  |.d .b x=>Ig x (fun v=>K v [] []) va vb
  |_=>none
 |.new zs=>match Ec ty zs with
  |some l=>K (.ptr (.O s.own.length) 0) [.box l] []
  |none=>none
 |.build zs ps=>match Hc ty zs ps with
  |some l=>Gi s ps l fun l=>FO ty (fun v=>K v [] []) l
  |none=>none
 |.bslice k ps=>match ps with
  |[]=>K (.fln ((An ty).getD .u)) [] []
  |ps=>match An ty with
   |some t=>match aae t.n k with
    |true=>wL s ps fun vs=>Eg s t vs fun xs=>K (.slw (.O s.own.length) t ps.length) [.row true t xs] (nt s (XV.qw vs))
    |false=>none
   |none=>none
 |.bsF k ps=>none
 |.box x=>w1 s x fun v=>match uI v with
  |some cs=>K (.ptr (.O s.own.length) 0) [.box cs] []
  |none=>none
 |.load ag x=>w1 s x (EN s ag fun a=>K a [] [])
 |.bin op x y=>w1 s x fun a=>w1 s y fun c=>Hx op (fun a=>K a [] []) a c
 |.eqs neg kds x y=>w1 s x fun a=>w1 s y fun c=>match a,c with
  |.agg xs,.agg ys=>match B0 kds xs ys with
   |some q=>K (.d .b (match neg with
    |true=>!q
    |false=>q)) [] []
   |none=>none
  |_,_=>none
 |.beq neg x y=>w1 s x fun a=>w1 s y fun c=>match a,c with
  |.d .b p,.d .b q=>K (.d .b (match neg with
   |true=>!(p==q)
   |false=>p==q)) [] []
  |_,_=>none
 |.un op x=>w1 s x (JV op fun a=>K a [] [])
 |.faddr off x=>w1 s x fun v=>match xX s v with
  |true=>Da off (fun a=>K a [] []) v
  |false=>none
 |.field off ag x=>w1 s x fun v=>match v with
  |.agg cs=>zu ag cs off fun a=>K a [] []
  |_=>none
 |.iaddr k x i=>w1 s x fun v=>w1 s i fun vi=>match xX s v with
  |true=>match vi with
   |.d (.i _) j=>Cg k j (fun a=>K a [] []) v
   |_=>none
  |false=>none
 |.ixs x i=>w1 s x fun v=>w1 s i fun vi=>match v,vi with
  |.d .s t,.d (.i _) j=>bB t j fun c=>K (.d (.i .u8) c.toNat) [] []
  |_,_=>none
 |.sls x lo hi=>w1 s x fun v=>match v with
  |.d .s t=>qU s hi t.length fun h=>qU s lo 0 fun l=>bb (l<=h) (bb (h<=t.length) (K (.d .s ((t.drop l).take (h-l))) [] []))
  |_=>none
 |.sll k x lo hi mx=>w1 s x fun v=>match xX s v with
  |true=>BQ s k lo hi mx (fun a=>K a [] []) v
  |false=>none
 |.ext x i=>w1 s x fun v=>match v with
  |.cr vs=>match nth vs i with
   |some a=>K a [] []
   |none=>none
  |_=>none
 |.call f args=>w1 s f fun vf=>wL s args fun vs=>F9 T s vs K vf
 |.len str x=>w1 s x fun v=>match xX s v with
  |true=>match z6 str v with
   |some m=>K (.d (.i .i64) (m:Int)) [] []
   |none=>none
  |false=>none
 |.mm isMax x y=>w1 s x fun a=>w1 s y fun c=>match a,c with
  |.d (.i k) p,.d (.i k') q=>if k=k' then K (.d (.i k) (match isMax with
   |true=>max p q
   |false=>min p q)) [] []else none
  |_,_=>none
 |.mkf f caps=>wL s caps fun vs=>K (.clo f vs) [] []
 |.cvI k x=>w1 s x fun v=>match v with
  |.d (.i _) j=>K (.d (.i k) (k.wrap j)) [] []
  |_=>none
 |.cvS x=>w1 s x fun v=>qD s (.sl (.i .u8)) v fun xs=>K (.d .s (bA xs)) [] []
 |.lf x=>w1 s x fun v=>match v with
  |.d .s t=>K (.d (.sl (.i .u8)) (bE t)) [] []
  |_=>none
 |.iaddrA m k x i=>w1 s x fun v=>w1 s i fun vi=>match xX s v with
  |true=>match vi with
   |.d (.i _) j=>H9 m k j (fun a=>K a [] []) v
   |_=>none
  |false=>none
 |.idxA m k ag x i=>w1 s x fun v=>w1 s i fun vi=>match vi with
  |.d (.i _) j=>Hg m k ag j (fun a=>K a [] []) (As v)
  |_=>none
 |.slsA m x lo hi=>w1 s x fun v=>Pr s m lo hi (fun a=>K a [] []) v
 |.newR zs=>match ty with
  |some t=>PO zs (fun v b=>K v [b] []) s.own.length t
  |none=>none
 |.boxR x=>w1 s x fun v=>Qk ty (fun v b=>K v [b] []) s.own.length v
 |.eqa neg k m x y=>w1 s x fun a=>w1 s y fun c=>Gj k m (fun q=>K (.d (.b) (match neg with
  |true=>!q
  |false=>q)) [] []) (As a) (As c)
 |.isnil neg x=>w1 s x fun v=>match xX s v with
  |true=>match z6 false v with
   |some m=>bk (decide (0<m)) (K (.d .b neg) [] []) (K .ab [] [])
   |none=>none
  |false=>none
 |.nilc x=>w1 s x fun v=>match xX s v with
  |true=>Fu (fun a=>K a [] []) v
  |false=>none
 |.isp neg x=>w1 s x fun v=>match xX s v with
  |true=>Jg neg (fun a=>K a [] []) v
  |false=>none
 |.eqg neg sh x y=>w1 s x fun a=>w1 s y fun c=>match a,c with
  |.agg xs,.agg ys=>match wq sh xs ys with
   |some q=>K (.d .b (match neg with
    |true=>!q
    |false=>q)) [] []
   |none=>none
  |_,_=>none
 |.newB T=>K (.mref (.O s.own.length)) [.sb T false []] []
 |.mkm kd=>match ty with
  |some (.p K0 V)=>match we K0.kd kd with
   |true=>K (.mref (.O s.own.length)) [.mp false K0 V [] none none] []
   |false=>none
  |_=>none
 |.mkmW kd=>match ty with
  |some (.p K0 V)=>match we K0.kd kd with
   |true=>K (.mref (.O s.own.length)) [.mp true K0 V [] none none] []
   |false=>none
  |_=>none
 |.mget kd z _ ok x y=>w1 s x fun vx=>w1 s y fun vy=>JW s kd z ok (fun a=>K a [] []) vx vy
 |.mlen x=>none
 |.ent x=>none
 |.loadD ag x=>w1 s x fun v=>match v with
  |.rop t x off=>JE ag off (fun a=>K a [] []) t x
  |_=>none
 |.sllD k x lo hi mx=>w1 s x fun v=>match v with
  |.d (.sl t) xs=>BQ s k lo hi mx (fun a=>K a [] []) (.d (.sl t) xs)
  |.fl t xs=>BQ s k lo hi mx (fun a=>K a [] []) (.fl t xs)
  |_=>none
 |.iaddrD k x i=>w1 s x fun v=>w1 s i fun vi=>match vi,v with
  |.d (.i _) j,.d (.sl t) xs=>Cg k j (fun a=>K a [] []) (.d (.sl t) xs)
  |.d (.i _) j,.fl t xs=>Cg k j (fun a=>K a [] []) (.fl t xs)
  |_,_=>none
 |.mks k bytes zs x y=>w1 s x fun vx=>w1 s y fun vy=>match An ty with
  |some t=>H7 t k bytes zs (fun v b=>K v [b] []) s.own.length vx vy
  |none=>none
 |.arrP m x=>w1 s x fun v=>match v with
  |.asl h off len=>match s.lk h with
   |some (.arr _ _ _ _)=>bb (m<=len) (bb (0<len) (K (.apt h off) [] []))
   |_=>none
  |.rsl h off l len=>match s.lk h with
   |some (.rb _ _ _)=>bb (m<=len) (bb (0<len) (K (.rpt h (off+l)) [] []))
   |_=>none
  |_=>none
 |.capK x=>w1 s x fun v=>match v with
  |.fl _ xs=>K (.d (.i .i64) (xs.length:Int)) [] []
  |.fln _=>K (.d (.i .i64) 0) [] []
  |_=>none
 |.appZ k bytes zs x y=>w1 s x fun vx=>w1 s y fun vy=>match vx,vy,An ty with
  |.fln _,.d (.i _) j,some t=>match aae t.n k,o7 (zs.map .D) ((t.ds t.z).map .D)with
   |true,true=>bb (0<j) (bb ((0+j.toNat)*bytes<=140737488355328) (K (.slw (.O s.own.length) t j.toNat) [.row true t (aag j.toNat t.z)] []))
   |_,_=>none
  |_,_,_=>none
 |.mkI t x=>w1 s x fun v=>match v with
  |.agg []=>K (.c (.iface t (.agg #[]))) [] []
  |_=>none
 |.isn neg x=>w1 s x fun v=>match v with
  |.c .nilIface=>K (.d .b (!neg)) [] []
  |.c (.iface _ _)=>K (.d .b neg) [] []
  |_=>none
 |.tas t x=>w1 s x fun v=>match v with
  |.c (.iface t' (.agg a))=>match aae t' t,a.isEmpty with
   |true,true=>K (.cr [.agg [],.d .b true]) [] []
   |_,_=>none
  |_=>none
 |_=>none
theorem VR{lk:bL}{KP:AV->Prop}(h:pS lk ag KP (.rop ds)):pS (fun _=>none) ag KP (.rop ds):=h
theorem Tt[YL]{T:List bx}(hT:lA P T){op:cd}{K:XV->List XB->List Hd->Option R}{r:R}(h:xp T s ty op K=some r){KP:AV->List bp->List Hd->Prop}
  (hK:∀v nbs fz,K v nbs fz=some r->KP v.er (nbs.map XB.er) fz):bC P s.er.lk s.er.nx s.er.ev op KP:=by
 unfold xp at h;split at h
 ·obtain⟨h,e⟩:=aP h;show KP (s.er.ev _) [] [];rw[e];exact hK _ _ _ h
 ·obtain⟨h,e1⟩:=aP h;obtain⟨h,e2⟩:=aP h;obtain⟨h,e3⟩:=aP h;split at h
  ·rename_i x hx;refine⟨x,by rw[e1,hx];rfl,?_⟩;rw[e2,e3];exact Za (KP:=fun a=>KP a [] []) h fun v h=>hK _ _ _ h
  ·cases h
 ·split at h
  ·rename_i l hl;have:=hK _ _ _ h;show KP (.ptr (.O s.own.length) 0) [.box _] [];rw[<-K7 hl];exact this
  ·cases h
 ·split at h
  ·rename_i l hl;have e:=bPg hl;exact Ml (KP:=fun a=>KP a [] []) (fun l h=>bJf (KP:=fun a=>KP a [] []) h fun v h=>hK v [] [] h) (acc:=[]) e (by rw[e]) h
  ·cases h
 ·rename_i k ps;split at h
  ·exact hK _ _ _ h
  ·rename_i ps' hne;split at h
   ·rename_i t _;split at h
    ·rename_i hb;have hk:=θ hb;obtain⟨vs,h,e⟩:=zq h;obtain⟨xs,h,h1,h2⟩:=Mq hk e h;show if ps=[]then _ else _
     rw[if_neg hne];refine⟨_,h1,?_⟩;rw[h2,rI];have:=hK _ _ _ h;have e2:([XB.row true t xs].map XB.er)=[bp.row true k (xs.map t.ds)]:=by show[bp.row true t.n (xs.map t.ds)]=_;rw[hk]
     have e3:(XV.slw (.O s.own.length) t ps.length).er=.sl (.O s.own.length) k 0 ps.length:=by show AV.sl (.O s.own.length) t.n 0 ps.length=_;rw[hk]
     rw[e2,e3]at this;exact this
    ·cases h
   ·cases h
 ·cases h
 ·obtain⟨h,e1⟩:=aP h;split at h
  ·rename_i cs hcs;exact⟨_,by rw[e1];exact oU hcs,hK _ _ _ h⟩
  ·cases h
 ·obtain⟨h,e1⟩:=aP h;show pS s.er.lk _ (fun a=>KP a [] []) (s.er.ev _);rw[e1];exact Gf h fun v h=>hK _ _ _ h
 ·obtain⟨h,e1⟩:=aP h;obtain⟨h,e2⟩:=aP h;show Al _ (fun a=>KP a [] []) (s.er.ev _) (s.er.ev _);rw[e1,e2];exact Yp h fun v h=>hK _ _ _ h
 ·obtain⟨h,e1⟩:=aP h;obtain⟨h,e2⟩:=aP h;split at h
  ·rename_i xs ys hx hy;split at h
   ·rename_i q hq;refine⟨XV.cf xs,XV.cf ys,q,by rw[e1,hx];rfl,by rw[e2,hy];rfl,QB hq,?_⟩;have:=hK _ _ _ h;split at this<;>exact this
   ·cases h
  ·cases h
 ·obtain⟨h,e1⟩:=aP h;obtain⟨h,e2⟩:=aP h;split at h
  ·rename_i p q hx hy;refine⟨p,q,by rw[e1,hx];rfl,by rw[e2,hy];rfl,?_⟩;have:=hK _ _ _ h;split at this<;>exact this
  ·cases h
 ·obtain⟨h,e1⟩:=aP h;show B6 _ (fun a=>KP a [] []) (s.er.ev _);rw[e1];exact U8 h fun v h=>hK _ _ _ h
 ·obtain⟨h,e1⟩:=aP h;split at h
  ·rename_i hl;show AV.live s.er.lk (s.er.ev _)=true/\_;rw[e1];exact⟨kD hl,Ki h (KP:=fun a=>KP a [] []) fun v h=>hK _ _ _ h⟩
  ·cases h
 ·obtain⟨h,e1⟩:=aP h;split at h
  ·rename_i cs hx;refine⟨XV.cf cs,by rw[e1,hx];rfl,?_⟩;obtain⟨v,h1,h2⟩:=BK h;split
   ·exact⟨_,h2,hK _ _ _ h1⟩
   ·exact⟨h2.1,by rw[<-h2.2];exact hK _ _ _ h1⟩
  ·cases h
 ·obtain⟨h,e1⟩:=aP h;obtain⟨h,e2⟩:=aP h;split at h
  ·rename_i hl;split at h
   ·rename_i k j hj;obtain⟨h1,h2⟩:=Jo h (KP:=fun a=>KP a [] []) fun v h=>hK _ _ _ h;show AV.live s.er.lk (s.er.ev _)=true/\_;rw[e1];exact⟨kD hl,k,j,by rw[e2,hj];rfl,h1,h2⟩
   ·cases h
  ·cases h
 ·obtain⟨h,e1⟩:=aP h;obtain⟨h,e2⟩:=aP h;split at h
  ·rename_i t k j hx hj;obtain⟨c,h0,hc,h⟩:=Cd h;exact⟨t,k,j,c,by rw[e1,hx];rfl,by rw[e2,hj];rfl,h0,hc,hK _ _ _ h⟩
  ·cases h
 ·obtain⟨h,e1⟩:=aP h;split at h
  ·rename_i t hx;refine⟨t,by rw[e1,hx];rfl,eS h fun hh h=>eS h fun l h=>?_⟩;obtain⟨h1,h⟩:=bD h;obtain⟨h2,h⟩:=bD h;exact⟨h1,h2,hK _ _ _ h⟩
  ·cases h
 ·obtain⟨h,e1⟩:=aP h;split at h
  ·rename_i hl;show AV.live s.er.lk (s.er.ev _)=true/\rO _ s.er.ev _ _ _ (fun a=>KP a [] []) (s.er.ev _);rw[e1];exact⟨kD hl,Hw h fun v h=>hK _ _ _ h⟩
  ·cases h
 ·obtain⟨h,e1⟩:=aP h;split at h
  ·rename_i vs hx;split at h
   ·rename_i a ha;exact⟨XV.de vs,_,by rw[e1,hx];rfl,LQ ha,hK _ _ _ h⟩
   ·cases h
  ·cases h
 ·obtain⟨h,e1⟩:=aP h;obtain⟨vs,h,e2⟩:=zq h;obtain⟨fn,caps,ks,z,rr,nbs,f1,fz,f2,f3⟩:=Sw hT h hK;exact⟨fn,caps,ks,z,rr,nbs,by rw[e1];exact f1,fz,by rw[e2];exact f2,by rw[e2];exact f3⟩
 ·obtain⟨h,e1⟩:=aP h;split at h
  ·rename_i hl;split at h
   ·rename_i m hm;show AV.live s.er.lk (s.er.ev _)=true/\∃m,(s.er.ev _).ma _=some m/\_;rw[e1];exact⟨kD hl,m,HP hm,hK _ _ _ h⟩
   ·cases h
  ·cases h
 ·obtain⟨h,e1⟩:=aP h;obtain⟨h,e2⟩:=aP h;split at h
  ·rename_i k p k' q hx hy;rw[ζ]at h;obtain⟨rfl,h⟩:=h;refine⟨k,p,q,by rw[e1,hx];rfl,by rw[e2,hy];rfl,?_⟩;have:=hK _ _ _ h;split at this<;>exact this
  ·cases h
 ·obtain⟨vs,h,e⟩:=zq h;show KP (.clo _ (_:List AV)) [] [];rw[e];exact hK _ _ _ h
 ·obtain⟨h,e1⟩:=aP h;split at h
  ·rename_i k j hx;exact⟨k,j,by rw[e1,hx];rfl,hK _ _ _ h⟩
  ·cases h
 ·obtain⟨h,e1⟩:=aP h;obtain⟨xs,h,h1,h2⟩:=Qa h;refine⟨_,bA xs,by rw[e1];exact h1,?_,by rw[e1];exact h2,hK _ _ _ h⟩;exact Qh
 ·obtain⟨h,e1⟩:=aP h;split at h
  ·rename_i t hx;refine⟨t,by rw[e1,hx];rfl,?_⟩;have:=hK _ _ _ h;simp only[XV.er,dH,bE,abF]at this;exact this
  ·cases h
 ·obtain⟨h,e1⟩:=aP h;obtain⟨h,e2⟩:=aP h;split at h
  ·rename_i hl;split at h
   ·rename_i k j hj;obtain⟨h1,h2,h3⟩:=WZ h (KP:=fun a=>KP a [] []) fun v h=>hK _ _ _ h;show AV.live s.er.lk (s.er.ev _)=true/\_;rw[e1];exact⟨kD hl,k,j,by rw[e2,hj];rfl,h1,h2,h3⟩
   ·cases h
  ·cases h
 ·obtain⟨h,e1⟩:=aP h;obtain⟨h,e2⟩:=aP h;split at h
  ·rename_i k j hj;obtain⟨cs,h1,h2,h3,h4⟩:=bIz h (KP:=fun a=>KP a [] []) fun v h=>hK _ _ _ h;exact⟨cs,k,j,by rw[e1,<-Fh,h1],by rw[e2,hj];rfl,h2,h3,h4⟩
  ·cases h
 ·obtain⟨h,e1⟩:=aP h;unfold Pr at h;split at h
  ·rename_i hd ix hx;split at h
   ·rename_i mt n kk y hl;split at h
    ·rename_i hb;have hb:=abd hb;refine⟨hd,ix,mt,y.l.map (iq kk),by rw[e1,hx];rfl,by rw[aU,hl];rfl,by rw[κ,y.len];exact hb,?_⟩;refine eS h fun hh h=>eS h fun l h=>?_;obtain⟨h1,h⟩:=bD h;obtain⟨h2,h⟩:=bD h;have:=hK _ _ _ h;rw[uO,aaL]at this;exact⟨h1,h2,this⟩
    ·cases h
   ·cases h
  ·rename_i hd off hx;split at h
   ·rename_i mt t x hl;split at h
    ·rename_i a ha;split at h
     ·rename_i hb;have hb:=θ hb;subst hb;obtain⟨c1,_⟩:=Ft (l:=0) (len:=a.n) ha (by omega);refine⟨hd,off,mt,ja (t.ds x),by rw[e1,hx];rfl,by rw[aU,hl];rfl,c1,?_⟩;refine eS h fun hh h=>eS h fun l h=>?_;obtain⟨h1,h⟩:=bD h;obtain⟨h2,h⟩:=bD h;exact⟨h1,h2,hK _ _ _ h⟩
     ·cases h
    ·cases h
   ·cases h
  ·cases h
 ·split at h
  ·rename_i t;unfold PO at h;split at h
   ·rename_i n k;split at h
    ·rename_i hz;refine⟨aag n (DV.I k 0),by rw[Q9 hz];exact BL _,?_⟩;have:=hK _ _ _ h;have e:(aag n (DV.I k 0)).map (fun d=>[d])=(bz.zero n).l.map (iq k):=by show _=(aag n (0:Int)).map (iq k);rw[abW,abW];rfl
     rw[e];exact this
    ·cases h
   ·split at h
    ·rename_i hz;exact⟨_,by rw[yl hz];exact BL _,hK _ _ _ h⟩
    ·cases h
  ·cases h
 ·obtain⟨h,e1⟩:=aP h;unfold Qk at h;split at h
  ·rename_i n k y hx;refine⟨(y.l.map (DV.I k)).map .D,y.l.map (DV.I k),?_,BL _,?_⟩
   ·rw[e1,hx];show(if AV.cz (((Ty.ar n k).ds y).map AV.D)=true then some (((Ty.ar n k).ds y).map AV.D)else none)=some (((Ty.ar n k).ds y).map AV.D);rw[if_pos (uE _ _)]
   have:=hK _ _ _ h;have e:(y.l.map (DV.I k)).map (fun d=>[d])=y.l.map (iq k):=by rw[abF];rfl
   rw[e];exact this
  ·rename_i cs hx;split at h
   ·rename_i t _;split at h
    ·rename_i x hp;obtain⟨l1,e2,e3⟩:=qB hp;rw[aac]at e2;subst e2;refine⟨(t.ds x).map .D,t.ds x,?_,BL _,hK _ _ _ h⟩;rw[e1,hx];show(if AV.cz (XV.cf cs)=true then some (XV.cf cs)else none)=_;rw[e3,if_pos (uE _ _)]
    ·cases h
   ·cases h
  ·cases h
 ·obtain⟨h,e1⟩:=aP h;obtain⟨h,e2⟩:=aP h;obtain⟨xs,ys,p,q,h1,h2,h3,h4,h5,h6,h⟩:=bKc h;refine⟨xs,ys,p,q,by rw[e1,<-Fh,h1],by rw[e2,<-Fh,h2],h3,h4,h5,h6,?_⟩;have:=hK _ _ _ h;split at this<;>exact this
 ·obtain⟨h,e1⟩:=aP h;split at h
  ·rename_i hl;split at h
   ·rename_i m hm;show AV.live s.er.lk (s.er.ev _)=true/\∃m,(s.er.ev _).ma false=some m/\_;rw[e1];refine⟨kD hl,m,HP hm,?_⟩;rcases vn h with⟨h0,h⟩|⟨h0,h⟩
    ·rw[if_neg (by have:=of_decide_eq_true h0;omega)];exact hK _ _ _ h
    ·rw[if_pos (by have:=of_decide_eq_false h0;omega)];exact hK _ _ _ h
   ·cases h
  ·cases h
 ·obtain⟨h,e1⟩:=aP h;split at h
  ·rename_i hl;show AV.live s.er.lk (s.er.ev _)=true/\_;rw[e1];exact⟨kD hl,Rp h (KP:=fun a=>KP a [] []) fun v h=>hK _ _ _ h⟩
  ·cases h
 ·obtain⟨h,e1⟩:=aP h;split at h
  ·rename_i hl;show AV.live s.er.lk (s.er.ev _)=true/\_;rw[e1];exact⟨kD hl,ZK h (KP:=fun a=>KP a [] []) fun v h=>hK _ _ _ h⟩
  ·cases h
 ·obtain⟨h,e1⟩:=aP h;obtain⟨h,e2⟩:=aP h;split at h
  ·rename_i xs ys hx hy;split at h
   ·rename_i q hq;refine⟨XV.cf xs,XV.cf ys,q,by rw[e1,hx];rfl,by rw[e2,hy];rfl,J5 hq,?_⟩;have:=hK _ _ _ h;split at this<;>exact this
   ·cases h
  ·cases h
 ·exact hK _ _ _ h
 ·split at h
  ·rename_i K0 V;split at h
   ·rename_i hkd;have:=hK _ _ _ h;rw[<-Ep hkd];exact this
   ·cases h
  ·cases h
 ·split at h
  ·rename_i K0 V;split at h
   ·rename_i hkd;have:=hK _ _ _ h;rw[<-Ep hkd];exact this
   ·cases h
  ·cases h
 ·obtain⟨h,e1⟩:=aP h;obtain⟨h,e2⟩:=aP h;have:=bEp h (KP:=fun a=>KP a [] []) fun v h=>hK _ _ _ h;rw[<-e1,<-e2]at this;exact this
 ·cases h
 ·cases h
 ·obtain⟨h,e1⟩:=aP h;split at h
  ·rename_i t x off hx;show pS (fun _=>none) _ (fun a=>KP a [] []) (s.er.ev _);rw[e1,hx];exact VR (Gf (s:=s) (a:=.rop t x off) h (KP:=fun a=>KP a [] []) fun v h=>hK _ _ _ h)
  ·cases h
 ·obtain⟨h,e1⟩:=aP h;show(match s.er.ev _ with
   |.D (.L es)=>rO _ s.er.ev _ _ _ (fun a=>KP a [] []) (.D (.L es))
   |.fl es=>rO _ s.er.ev _ _ _ (fun a=>KP a [] []) (.fl es)
   |_=>False)
  rw[e1];split at h
  ·rename_i t xs hx;rw[hx];exact Hw (v:=.d (.sl t) xs) h fun v h=>hK _ _ _ h
  ·rename_i t xs hx;rw[hx];exact Hw (v:=.fl t xs) h fun v h=>hK _ _ _ h
  ·cases h
 ·obtain⟨h,e1⟩:=aP h;obtain⟨h,e2⟩:=aP h;split at h
  ·rename_i k j t xs hj hx;obtain⟨h1,h2⟩:=Jo h (KP:=fun a=>KP a [] []) fun v h=>hK _ _ _ h;exact⟨k,j,by rw[e2,hj];rfl,h1,by rw[e1,hx];exact h2⟩
  ·rename_i k j t xs hj hx;obtain⟨h1,h2⟩:=Jo h (KP:=fun a=>KP a [] []) fun v h=>hK _ _ _ h;exact⟨k,j,by rw[e2,hj];rfl,h1,by rw[e1,hx];exact h2⟩
  ·cases h
 ·obtain⟨h,e1⟩:=aP h;obtain⟨h,e2⟩:=aP h;split at h
  ·rename_i t _;obtain⟨k1,k2,l,c,v,b,h1,h2,h3,h4,h5,h6,h7,h8,h9⟩:=Td h;refine⟨k1,k2,l,c,by rw[e1,h1],by rw[e2,h2],h3,h4,h5,h6,?_⟩;have:=hK _ _ _ h7;rw[h8]at this;rw[<-h9];exact this
  ·cases h
 ·obtain⟨h,e1⟩:=aP h;split at h
  ·rename_i hd off len hv;split at h
   ·rename_i mt n k x hl;obtain⟨h1,h⟩:=bD h;obtain⟨h2,h⟩:=bD h;exact⟨hd,off,len,mt,x.l.map (iq k),by rw[e1,hv];rfl,by rw[aU,hl];rfl,h1,h2,hK _ _ _ h⟩
   ·cases h
  ·rename_i hd off l len hv;split at h
   ·rename_i mt t x hl;obtain⟨h1,h⟩:=bD h;obtain⟨h2,h⟩:=bD h;exact⟨hd,off+l,len,mt,ja (t.ds x),by rw[e1,hv];rfl,by rw[aU,hl];rfl,h1,h2,hK _ _ _ h⟩
   ·cases h
  ·cases h
 ·obtain⟨h,e1⟩:=aP h;split at h
  ·rename_i t xs hv;refine⟨by rw[e1,hv];rfl,xs.length,.inr ⟨xs.map t.ds,by rw[e1,hv];rfl,(κ _).symm⟩,hK _ _ _ h⟩
  ·rename_i t hv;refine⟨by rw[e1,hv];rfl,0,.inr ⟨[],by rw[e1,hv];rfl,rfl⟩,hK _ _ _ h⟩
  ·cases h
 ·obtain⟨h,e1⟩:=aP h;obtain⟨h,e2⟩:=aP h;split at h
  ·rename_i t0 kd j t hv hw ht;split at h
   ·rename_i hb hz;have hb:=θ hb;obtain⟨h1,h⟩:=bD h;obtain⟨h2,h⟩:=bD h;have h1:(0:Int)<j:=h1;have hz:=oA (yl hz);have hq:=hK _ _ _ h;subst hb hz;have h1':(0:Int)<=j:=Int.le_of_lt h1;have h1'':0<0+Int.toNat j:=by omega
    refine⟨by rw[e1,hv];rfl,0,0,kd,j,[],.inr ⟨by rw[e1,hv];rfl,rfl,rfl,rfl⟩,by rw[e2,hw];rfl,h1',me _,fun e he=>(by simp at he),h1'',h2,?_⟩;have e3:(XV.slw (.O s.own.length) t (Int.toNat j)).er=.sl (.O s.own.length) t.n 0 (0+Int.toNat j):=by show AV.sl _ t.n 0 _=_;rw[aal]
    have e4:([XB.row true t (aag (Int.toNat j) t.z)].map XB.er:List bp)=[.row true t.n (([]:List (List DV)).take 0++aag (Int.toNat j) (t.ds t.z))]:=by show[bp.row true t.n ((aag _ t.z).map t.ds)]=_;rw[abW];rfl
    rw[e3,e4]at hq;exact hq
   ·cases h
  ·cases h
 ·obtain⟨h,e1⟩:=aP h;split at h
  ·rename_i hv;exact⟨by rw[e1,hv];rfl,hK _ _ _ h⟩
  ·cases h
 ·obtain⟨h,e1⟩:=aP h;split at h
  ·rename_i hv;exact⟨_,by rw[e1,hv];rfl,hK _ _ _ h⟩
  ·rename_i hv;exact⟨_,by rw[e1,hv];rfl,hK _ _ _ h⟩
  ·cases h
 ·obtain⟨h,e1⟩:=aP h;split at h
  ·rename_i t' a hv;split at h
   ·rename_i ht ha;refine⟨?_,hK _ _ _ h⟩;rw[e1,hv,θ ht,Array.isEmpty_iff.1 ha];rfl
   ·cases h
  ·cases h
 ·cases h
end
section
variable{R:Type}
def DU(s:XS)(sz:Nat)(v:XV)(K:XS->Option R)(h:Hd)(off:Nat):Option R:=match s.lk h with
 |some (.box cs)=>match uI v with
  |some ys=>match aae (wx ys) sz with
   |true=>match uk cs off ys sz with
    |some cs'=>K (s.az h (some (.box cs')))
    |none=>none
   |false=>none
  |none=>none
 |_=>none
def Cw(k:IntKind):XV->Option Int
 |.d t c=>t.j8 (.i k) c
 |_=>none
theorem Gp[YL]{k:IntKind}{c:Int}(h:Cw k v=some c):v.er=.D (.I k c):=by
 unfold Cw at h;split at h
 ·obtain⟨e,rfl⟩:=Ty.ct h;subst e;rfl
 ·cases h
theorem Fa{l:List α}{i:Nat}{v:α}(h:i<l.length):l.take i++[v]++l.drop (i+1)=l.set i v:=by rw[List.set_eq_take_append_cons_drop,if_pos h,ν];rfl
theorem Yy{l:List α}{j:Nat}{v:α}(h:off+n<=l.length)(hj:j<n):l.take off++((l.drop off).take n).set j v++l.drop (off+n)=l.set (off+j) v:=by
 apply abO;intro i;rw[List.getElem?_set];have hl:(((l.drop off).take n).set j v).length=n:=by rw[List.length_set,aaq,aaz];omega
 have ht:(l.take off).length=off:=by rw[aaq];omega
 rcases aaY i off with h1|h1
 ·rw[ν,aak (by omega),aaH h1,if_neg (by omega)]
 ·rcases aaY i (off+n)with h2|h2
  ·rw[aak (by rw[ε];omega),aam (by omega),ht,List.getElem?_set];by_cases e:off+j=i
   ·subst e;rw[if_pos (by omega),if_pos rfl,if_pos (by rw[aaq,aaz];omega),if_pos (by omega)]
   ·rw[if_neg (by omega),if_neg e,aaH (by omega),abe];congr 1;omega
  ·rw[aam (by rw[ε];omega),ε,ht,hl,abe,if_neg (by omega)];congr 1;omega
def Dj(cs:List XV)(off j:Nat)(a:kj)(c:Int):Option (List XV):=uk cs off [.d (.ar a.n a.k) (a.x.set j c)] a.n
theorem Ih[YL]{cs:List XV}{j:Nat}{a:kj}{c:Int}(ha:pq cs off=some a)(hj:j<a.n)(h:Dj cs off j a c=some l):off+j<(XV.cf cs).length/\XV.cf l=(XV.cf cs).set (off+j) (.D (.I a.k c)):=by
 obtain⟨h1,h2⟩:=Bx ha;obtain⟨_,h3⟩:=wK h;refine⟨by omega,?_⟩;rw[h3];have e:XV.cf [XV.d (.ar a.n a.k) (a.x.set j c)]=(((XV.cf cs).drop off).take a.n).set j (.D (.I a.k c)):=by rw[h1];show(((a.x.set j c).l.map (DV.I a.k)).map AV.D)++[]=_;rw[aac,bz.xd,ace,ace]
 rw[e];exact Yy h2 hj
def Ke(s:XS)(sz:Nat)(v:XV)(K:XS->Option R):XV->Option R
 |.ptr h off=>DU s sz v K h off
 |.pa h off j=>match s.lk h with
  |some (.box cs)=>match pq cs off,sz with
   |some a,1=>match Cw a.k v with
    |some c=>bb (j<a.n) (match Dj cs off j a c with
     |some cs'=>K (s.az h (some (.box cs')))
     |none=>none)
    |none=>none
   |none,sz=>DU s sz v K h (off+j)
   |_,_=>none
  |_=>none
 |.epa h t ix off j=>match s.lk h with
  |some (.row true t' xs)=>match t'.beq t,sz with
   |true,1=>cw xs ix fun e=>match pq (ji t' e) off with
    |some a=>match Cw a.k v with
     |some c=>bb (j<a.n) (match Dj (ji t' e) off j a c with
      |some l=>match qj t' l with
       |some (y,[])=>K (s.az h (some (.row true t' (xs.set ix y))))
       |_=>none
      |none=>none)
     |none=>none
    |none=>none
   |_,_=>none
  |_=>none
 |.ept h t ix off=>match s.lk h with
  |some (.row true t' xs)=>match t'.beq t,uI v with
   |true,some ys=>match aae (wx ys) sz,(aae sz 1|| !(aae t'.n 1))with
    |true,true=>cw xs ix fun e=>match uk (ji t' e) off ys sz with
     |some l=>match qj t' l with
      |some (y,[])=>K (s.az h (some (.row true t' (xs.set ix y))))
      |_=>none
     |none=>none
    |_,_=>none
   |_,_=>none
  |_=>none
 |.apt h ix=>match s.lk h with
  |some (.arr true n k x)=>match sz with
   |1=>match v with
    |.d t c=>match t.j8 (.i k) c with
     |some c=>bb (ix<n) (K (s.az h (some (.arr true n k (x.set ix c)))))
     |none=>none
    |_=>none
   |sz=>match ix,v with
    |0,.d t y=>match t.j8 (.ar n k) y,aae sz n with
     |some y,true=>K (s.az h (some (.arr true n k y)))
     |_,_=>none
    |0,.agg [.d t y]=>match t.j8 (.ar n k) y,aae sz n with
     |some y,true=>K (s.az h (some (.arr true n k y)))
     |_,_=>none
    |ix,v=>match As v with
     |.d t y=>match t.j8 (.ar sz k) y with
      |some y=>bb (ix+sz<=n) (K (s.az h (some (.arr true n k (x.put ix y.l)))))
      |none=>none
     |_=>none
  |_=>none
 |.rpt h off=>match s.lk h with
  |some (.rb true t x)=>match uI v with
   |some ys=>match aae (wx ys) sz&&ade 1 sz with
    |true=>match uk (ji t x) off ys sz with
     |some l=>match qj t l with
      |some (y,[])=>K (s.az h (some (.rb true t y)))
      |_=>none
     |none=>none
    |false=>none
   |none=>none
  |_=>none
 |.rpa h off j=>match s.lk h with
  |some (.rb true t x)=>match pq (ji t x) off,sz with
   |some a,1=>match Cw a.k v with
    |some c=>bb (j<a.n) (match Dj (ji t x) off j a c with
     |some l=>match qj t l with
      |some (y,[])=>K (s.az h (some (.rb true t y)))
      |_=>none
     |none=>none)
    |none=>none
   |_,_=>none
  |_=>none
 |_=>none
theorem QM[YL]{x y:t.T}{vs:List DV}{a:AV}(hl:s.lk hd=some (.rb true t x))(hc:a.cells?=some (vs.map .D))(hn:vs.length=sz)(hle:off+sz<=(t.ds x).length)
  (hlt:off<(t.ds x).length) (hds:t.ds y=(t.ds x).take off++vs++(t.ds x).drop (off+sz)) (hK:KP (s.az hd (some (.rb true t y))).er):qA s.er sz a KP (.eptr hd 1 off 0):=by
 rw[cJ hl]at hK;have hK:KP (s.er.az hd (some (.row true 1 (ja (t.ds y))))):=hK;rw[hds]at hK;by_cases h1:sz=1
 ·subst h1;obtain⟨d,rfl⟩:=List.length_eq_one_iff.1 hn;refine .inl ⟨.inr rfl,ja (t.ds x),[(t.ds x)[off]],_,[d],by rw[aU,hl];rfl,DM (ξ hlt),hc,rfl,rfl,me _,?_⟩;have e:(ja (t.ds x)).set off ([(t.ds x)[off]].take 0++[d]++[(t.ds x)[off]].drop (0+1))=ja ((t.ds x).take off++[d]++(t.ds x).drop (off+1)):=by rw[Fa hlt];unfold ja;rw[ace];rfl
  rw[e];exact hK
 ·refine .inr ⟨rfl,rfl,h1,ja (t.ds x),_,vs,by rw[aU,hl];rfl,hc,zS _,hn,by rw[AF];exact hle,?_⟩;have e:(ja (t.ds x)).take off++(vs.map fun d=>[d])++(ja (t.ds x)).drop (off+sz)=ja ((t.ds x).take off++vs++(t.ds x).drop (off+sz)):=by unfold ja;rw[aau,aau,aaA,aaI]
  rw[e];exact hK
theorem JS{k:IntKind}{y:bz n}:(AV.agg (((Ty.ar n k).ds y).map .D)).cells?=some (((Ty.ar n k).ds y).map .D):=by show(if AV.cz (((Ty.ar n k).ds y).map .D)=true then some (((Ty.ar n k).ds y).map AV.D)else none)=_;rw[if_pos (uE _ _)]
theorem PW[YL]{k:IntKind}{x y:bz n}(hl:s.lk hd=some (.arr true n k x))(h1:sz≠1)(hb:sz=n)(hc:(s.er.ev xo).cells?=some (((Ty.ar n k).ds y).map .D))
  (hK:KP (s.az hd (some (.arr true n k y))).er):qA s.er sz (s.er.ev xo) KP (.eptr hd 1 0 0):=by
 have e1:=x.len;have e2:=y.len;refine .inr ⟨rfl,rfl,h1,x.l.map (iq k),_,(Ty.ar n k).ds y,by rw[aU,hl];rfl,hc,zS _,by rw[Ty.fo];exact hb.symm,by rw[κ];omega,?_⟩;have e:(x.l.map (iq k)).take 0++(((Ty.ar n k).ds y).map fun d=>[d])++(x.l.map (iq k)).drop (0+sz)=y.l.map (iq k):=by rw[List.take_zero,aaW,abv (by rw[κ];omega),aac];show((y.l.map (DV.I k)).map fun d=>[d])=_;rw[abF];rfl
 rw[e];rw[cJ hl]at hK;exact hK
theorem Rf[YL]{K:XS->Option R}{r:R}(hv:s.er.ev xo=v.er)(h:DU s sz v K hd off=some r)(hK:∀s',K s'=some r->KP s'.er):qA s.er sz (s.er.ev xo) KP (.ptr hd off):=by
 unfold DU at h;split at h
 ·rename_i cs hl;split at h
  ·rename_i ys hy;split at h
   ·rename_i hb;split at h
    ·rename_i cs' hu;obtain⟨h1,h2⟩:=wK hu;have:=hK _ h;rw[cJ hl]at this;refine⟨XV.cf cs,XV.cf ys,by rw[aU,hl];rfl,by rw[hv];exact oU hy,by rw[Ay];exact θ hb,h1,?_⟩;rw[<-h2];exact this
    ·cases h
   ·cases h
  ·cases h
 ·cases h
theorem SP[YL]{K:XS->Option R}{r:R}(hv:s.er.ev xo=v.er)(h:Ke s sz v K a=some r)(hK:∀s',K s'=some r->KP s'.er):qA s.er sz (s.er.ev xo) KP a.er:=by
 unfold Ke at h;split at h
 ·exact Rf hv h hK
 ·rename_i hd off j;split at h
  ·rename_i cs hl;split at h
   ·rename_i a ha;split at h
    ·rename_i c hc;obtain⟨hj,h⟩:=bD h;split at h
     ·rename_i cs' hs;obtain⟨h1,h2⟩:=Ih ha hj hs;have:=hK _ h;rw[cJ hl]at this;have e:s.er.ev xo=.D (.I a.k c):=by rw[hv];exact Gp hc
      refine⟨XV.cf cs,[.D (.I a.k c)],by rw[aU,hl];rfl,by rw[e];rfl,rfl,by omega,?_⟩;rw[Fa h1,<-h2];exact this
     ·cases h
    ·cases h
   ·exact Rf hv h hK
   ·cases h
  ·cases h
 ·rename_i hd t ix off j;split at h
  ·rename_i t' xs hl;split at h
   ·rename_i hb;obtain rfl:=Ty.fm hb
    replace h:=xh h
    obtain⟨e,he,h⟩:=h;split at h
    ·rename_i a ha;split at h
     ·rename_i c hc;obtain⟨hj,h⟩:=bD h;split at h
      ·rename_i l hs;split at h
       ·rename_i y hp;obtain⟨h1,h2⟩:=Ih ha hj hs;obtain⟨l1,e1,e2⟩:=qB hp;rw[aac]at e1;subst e1;rw[eR]at h1 h2;rw[κ]at h1;have hds:t'.ds y=(t'.ds e).set (off+j) (.I a.k c):=by
         have h3:(t'.ds y).map AV.D=((t'.ds e).set (off+j) (.I a.k c)).map AV.D:=by rw[<-e2,h2,ace]
         exact oA h3
        have ev:s.er.ev xo=.D (.I a.k c):=by rw[hv];exact Gp hc
        refine .inl ⟨.inr rfl,xs.map t'.ds,t'.ds e,[.D (.I a.k c)],[.I a.k c],by rw[aU,hl];rfl,by rw[aaf,he];rfl,by rw[ev];rfl,rfl,rfl,by omega,?_⟩;have:=hK _ h;rw[cJ hl]at this;rw[Fa h1,<-hds];have e3:(xs.map t'.ds).set ix (t'.ds y)=(xs.set ix y).map t'.ds:=by rw[ace]
        rw[e3];exact this
       ·cases h
      ·cases h
     ·cases h
    ·cases h
   ·cases h
  ·cases h
 ·rename_i hd t ix off;split at h
  ·rename_i t' xs hl;split at h
   ·rename_i ys hb hy;obtain rfl:=Ty.fm hb;split at h
    ·rename_i hb1 hb2
     replace h:=xh h
     obtain⟨e,he,h⟩:=h;split at h
     ·rename_i l hu;split at h
      ·rename_i y hp;obtain⟨h1,h2⟩:=wK hu;obtain⟨l1,e1,e2⟩:=qB hp;rw[aac]at e1;subst e1;rw[eR]at h1 h2;rw[κ]at h1;have hsz:=θ hb1;have hlen:(XV.cf ys).length=sz:=by rw[Ay];exact hsz
       have hys:XV.cf ys=(((t'.ds y).drop off).take sz).map .D:=by
        have:(((XV.cf l).drop off).take sz)=XV.cf ys:=by rw[h2,ν,abq (by rw[aaq,κ];omega),abv (by rw[aaq,κ];omega),aaW,abZ (by omega),aaw (by omega)]
        rw[<-this,e2,aaA,aaI]
       have hds:t'.ds y=(t'.ds e).take off++((t'.ds y).drop off).take sz++(t'.ds e).drop (off+sz):=by
        have h3:(t'.ds y).map AV.D=((t'.ds e).take off++((t'.ds y).drop off).take sz++(t'.ds e).drop (off+sz)).map AV.D:=by rw[aau,aau,<-hys,aaA,aaI,<-h2,e2]
        have:=congrArg AV.data h3;rwa[zS,zS,Option.some.injEq]at this
       refine .inl ⟨?_,xs.map t'.ds,t'.ds e,XV.cf ys,((t'.ds y).drop off).take sz,by rw[aU,hl];rfl,by rw[aaf,he];rfl,by rw[hv];exact oU hy,by rw[hys];exact zS _,?_,h1,?_⟩
       ·rw[abx]at hb2;rcases hb2 with hb2|hb2
        ·exact .inr (θ hb2)
        ·exact .inl fun e=>by rw[e]at hb2;cases hb2
       ·have:=congrArg List.length hys;rw[κ,hlen]at this;exact this.symm
       ·have:=hK _ h;rw[cJ hl]at this;rw[<-hds];have e3:(xs.map t'.ds).set ix (t'.ds y)=(xs.set ix y).map t'.ds:=by rw[ace]
        rw[e3];exact this
      ·cases h
     ·cases h
    ·cases h
   ·cases h
  ·cases h
 ·rename_i hd ix;split at h
  ·rename_i n k x hl;split at h
   ·split at h
    ·rename_i t c;split at h
     ·rename_i c' hc;obtain⟨e,rfl⟩:=Ty.ct hc;subst e;obtain⟨h1,h⟩:=bD h;have e1:=x.len;refine .inl ⟨.inr rfl,x.l.map (iq k),iq k (x.l[ix]'(by omega)),[.D (.I k c)],[.I k c],by rw[aU,hl];rfl,by rw[aaf,ξ (by omega)];rfl,by rw[hv];rfl,rfl,rfl,me _,?_⟩;have:=hK _ h;rw[cJ hl]at this;have e3:(x.l.map (iq k)).set ix ((iq k (x.l[ix]'(by omega))).take 0++[.I k c]++(iq k (x.l[ix]'(by omega))).drop (0+1))=(x.set ix c).l.map (iq k):=by rw[bz.xd,ace];rfl
      rw[e3];exact this
     ·cases h
    ·cases h
   ·rename_i h1;split at h
    ·rename_i t y;split at h
     ·rename_i y' hy hb;obtain⟨e,rfl⟩:=Ty.ct hy;subst e;exact PW hl h1 (θ hb) (by rw[hv];exact JS) (hK _ h)
     ·cases h
    ·rename_i t y;split at h
     ·rename_i y' hy hb;obtain⟨e,rfl⟩:=Ty.ct hy;subst e;exact PW hl h1 (θ hb) (by
       rw[hv];show(AV.agg (((Ty.ar n k).ds _).map AV.D++[])).cells?=_;rw[aac];exact JS) (hK _ h)
     ·cases h
    ·split at h
     ·rename_i t y hu;split at h
      ·rename_i y' hy;obtain⟨e,rfl⟩:=Ty.ct hy;subst e;obtain⟨h2,h⟩:=bD h;have e1:=x.len;refine .inr ⟨rfl,rfl,h1,x.l.map (iq k),_,(Ty.ar sz k).ds y,by rw[aU,hl];rfl,by rw[hv,<-Fh,hu];exact JS,zS _,by rw[Ty.fo];rfl,by rw[κ,e1];exact h2,?_⟩;have:=hK _ h;rw[cJ hl]at this;have e3:(x.l.map (iq k)).take ix++(((Ty.ar sz k).ds y).map fun d=>[d])++(x.l.map (iq k)).drop (ix+sz)=(x.put ix y.l).l.map (iq k):=by rw[bz.s9 (by rw[y.len];exact h2),aau,aau,aaA,aaI,y.len];congr 2;show((y.l.map (DV.I k)).map fun d=>[d])=_;rw[abF];rfl
       rw[e3];exact this
      ·cases h
     ·cases h
  ·cases h
 ·rename_i hd off;split at h
  ·rename_i t x hl;split at h
   ·rename_i ys hy;split at h
    ·rename_i hb;rw[μ]at hb;have hb0:=abd hb.2;split at h
     ·rename_i l hu;split at h
      ·rename_i y hp;obtain⟨h1,h2⟩:=wK hu;obtain⟨l1,e1,e2⟩:=qB hp;rw[aac]at e1;subst e1;rw[eR]at h1 h2;rw[κ]at h1;have hlen:(XV.cf ys).length=sz:=by rw[Ay];exact θ hb.1
       have hys:XV.cf ys=(((t.ds y).drop off).take sz).map .D:=by
        have:(((XV.cf l).drop off).take sz)=XV.cf ys:=by rw[h2,ν,abq (by rw[aaq,κ];omega),abv (by rw[aaq,κ];omega),aaW,abZ (by omega),aaw (by omega)]
        rw[<-this,e2,aaA,aaI]
       have hds:t.ds y=(t.ds x).take off++((t.ds y).drop off).take sz++(t.ds x).drop (off+sz):=by
        have h3:(t.ds y).map AV.D=((t.ds x).take off++((t.ds y).drop off).take sz++(t.ds x).drop (off+sz)).map AV.D:=by rw[aau,aau,<-hys,aaA,aaI,<-h2,e2]
        exact oA h3
       have hn:(((t.ds y).drop off).take sz).length=sz:=by have:=congrArg List.length hys;rw[κ,hlen]at this;exact this.symm
       exact QM hl (by rw[hv,<-hys];exact oU hy) hn h1 (by omega) hds (hK _ h)
      ·cases h
     ·cases h
    ·cases h
   ·cases h
  ·cases h
 ·rename_i hd off j;split at h
  ·rename_i t x hl;split at h
   ·rename_i a ha;split at h
    ·rename_i c hc;obtain⟨hj,h⟩:=bD h;split at h
     ·rename_i l hs;split at h
      ·rename_i y hp;obtain⟨h1,h2⟩:=Ih ha hj hs;obtain⟨l1,e1,e2⟩:=qB hp;rw[aac]at e1;subst e1;rw[eR]at h1 h2;rw[κ]at h1;have hds:t.ds y=(t.ds x).set (off+j) (.I a.k c):=by
        have h3:(t.ds y).map AV.D=((t.ds x).set (off+j) (.I a.k c)).map AV.D:=by rw[<-e2,h2,ace]
        exact oA h3
       have ev:s.er.ev xo=.D (.I a.k c):=by rw[hv];exact Gp hc
       exact QM (vs:=[.I a.k c]) hl (by rw[ev];rfl) rfl h1 h1 (by rw[Fa h1];exact hds) (hK _ h)
      ·cases h
     ·cases h
    ·cases h
   ·cases h
  ·cases h
 ·cases h
def Jk:List XV->Bool
 |[]=>true
 |.d _ _::l=>Jk l
 |.nl _::l=>Jk l
 |_::_=>false
def bRm(v a:XV):Bool:=match a with
 |.ept _ _ _ _=>match uI v with
  |some ys=>!(Jk ys)
  |none=>false
 |_=>false
def Qu(s s1:XS)(sz:Nat)(v:XV)(K:XS->Option R)(h:Hd)(t:Ty)(ix off:Nat):Option R:=match s1.lk h with
 |some (.row true t' xs)=>match t'.beq t,uI v with
  |true,some ys=>match aae (wx ys) sz,(aae sz 1|| !(aae t'.n 1))with
   |true,true=>cw xs ix fun e=>match uk (ji t' e) off ys sz with
    |some l=>A7 s t' l fun y rest=>match rest with
     |[]=>K (s1.az h (some (.row true t' (xs.set ix y))))
     |_::_=>none
    |none=>none
   |_,_=>none
  |_,_=>none
 |_=>none
def Gl(s:XS)(sz:Nat)(v:XV)(K:XS->Option R):XV->Option R
 |.ept h t ix off=>Qu s (s.put none .un [] (nt s v.hr)) sz v K h t ix off
 |_=>none
theorem Ve{lk:bL}{φ:Hd->Option Hd}{a:AV}{cs:List AV}(h:a.cells?=some cs)(hc:AV.bu lk φ cs=ds.map .D)(ho:AV.cz (ds.map .D)=true):(AV.conv lk φ a).cells?=some (ds.map .D):=by
 have key:∀a:AV,(∀l,a≠.agg l)->a.cells?=some cs->(AV.conv lk φ a).cells?=some (ds.map .D):=fun a hn h=>by
  have h1:cs=[a]:=by
   unfold AV.cells? at h;split at h
   ·exact absurd rfl (hn _)
   ·split at h
    ·cases h;rfl
    ·cases h
  subst h1;have hc:[AV.conv lk φ a]=ds.map .D:=hc;cases ds with
  |nil=>cases hc
  |cons d ds=>
   cases ds with
   |cons _ _=>exact absurd (congrArg List.length hc) (by simp)
   |nil=>
    have hc:AV.conv lk φ a=.D d:=(List.cons.inj hc).1;rw[hc];have ho:(AV.one (.D d)&&true)=true:=ho;rw[abY]at ho;show(if AV.one (.D d)=true then some [AV.D d]else none)=_;rw[if_pos ho];rfl
 cases a with
 |agg l=>
  have h:(if AV.cz l=true then some l else none)=some cs:=h;split at h
  ·have e:l=cs:=Option.some.inj h;rw[<-e]at hc;show(if AV.cz (AV.bu lk φ l)=true then some (AV.bu lk φ l)else none)=_;rw[hc,if_pos ho]
  ·cases h
 |_=>exact key _ (fun _=>AV.noConfusion) h
theorem NR(lk:bL)(φ:Hd->Option Hd):∀l:List AV,(AV.bu lk φ l).length=l.length
 |[]=>rfl
 |x::l=>by show(AV.bu lk φ l).length+1=_;rw[NR lk φ l];rfl
theorem Sx[YL]{K:XS->Option R}{r:R}(hv:s.er.ev xo=v.er)(h:Gl s sz v K a=some r)(hK:∀s',K s'=some r->KP s'.er):
  qA (s.er.put none AV.un [] (jg s.er.lk (AV.rows (s.er.ev xo)))) sz (AV.conv s.er.lk (fun _=>none) (s.er.ev xo)) KP a.er:=by
 unfold Gl at h;split at h
 ·rename_i hd t ix off;have hs1:s.er.put none AV.un [] (jg s.er.lk (AV.rows (s.er.ev xo)))=(s.put none .un [] (nt s v.hr)).er:=by rw[eV,hv,xg,rI];rfl
  rw[hs1,hv];revert h;generalize s.put none .un [] (nt s v.hr)=s1;intro h;unfold Qu at h;split at h
  ·rename_i t' xs hl;split at h
   ·rename_i ys hb hy;obtain rfl:=Ty.fm hb;split at h
    ·rename_i hb1 hb2
     replace h:=xh h
     obtain⟨e,he,h⟩:=h;split at h
     ·rename_i l hu;obtain⟨y,l1,l2,rfl,h,ec⟩:=Cu (φ:=fun _=>none) (fun _ _ _=>rfl) h;split at h
      ·obtain⟨h1,h2⟩:=wK hu;rw[aac]at h2;rw[eR]at h1 h2;rw[κ]at h1;have hsz:=θ hb1;have hlen:(XV.cf ys).length=sz:=by rw[Ay];exact hsz
       have hC:((t'.ds e).take off).map AV.D++AV.bu s.er.lk (fun _=>none) (XV.cf ys)++((t'.ds e).drop (off+sz)).map AV.D=(t'.ds y).map .D:=by rw[<-ec,h2,uZ,uZ,<-aaA,<-aaI,B7,B7]
       have hcl:(AV.bu s.er.lk (fun _=>none) (XV.cf ys)).length=sz:=by rw[NR,hlen]
       have hys:AV.bu s.er.lk (fun _=>none) (XV.cf ys)=(((t'.ds y).drop off).take sz).map .D:=by rw[aaA,aaI,<-hC,ν,abq (by rw[κ,aaq];omega),abv (by rw[κ,aaq];omega),aaW,abZ (by omega),aaw (by omega)]
       have hds:t'.ds y=(t'.ds e).take off++((t'.ds y).drop off).take sz++(t'.ds e).drop (off+sz):=by
        have h3:(t'.ds y).map AV.D=((t'.ds e).take off++((t'.ds y).drop off).take sz++(t'.ds e).drop (off+sz)).map AV.D:=by rw[aau,aau,<-hys,hC]
        have:=congrArg AV.data h3;rwa[zS,zS,Option.some.injEq]at this
       have hone:AV.cz ((((t'.ds y).drop off).take sz).map .D)=true:=by
        have h4:=uE t' y;have h6:(t'.ds y).map AV.D=((t'.ds e).take off).map AV.D++(((t'.ds y).drop off).take sz).map AV.D++((t'.ds e).drop (off+sz)).map AV.D:=by rw[<-aau,<-aau,<-hds]
        rw[h6,Bw,Bw,μ,μ]at h4;exact h4.1.2
       refine .inl ⟨?_,xs.map t'.ds,t'.ds e,(((t'.ds y).drop off).take sz).map .D,((t'.ds y).drop off).take sz,by rw[aU,hl];rfl,by rw[aaf,he];rfl,Ve (oU hy) hys hone,zS _,?_,h1,?_⟩
       ·rw[abx]at hb2;rcases hb2 with hb2|hb2
        ·exact .inr (θ hb2)
        ·exact .inl fun e=>by rw[e]at hb2;cases hb2
       ·have:=congrArg List.length hys;rw[κ,hcl]at this;exact this.symm
       ·have:=hK _ h;rw[cJ hl]at this;rw[<-hds];have e3:(xs.map t'.ds).set ix (t'.ds y)=(xs.set ix y).map t'.ds:=by rw[ace]
        rw[e3];exact this
      ·cases h
     ·cases h
    ·cases h
   ·cases h
  ·cases h
 ·cases h
end
section
variable{R:Type}
def rP(s:XS)(t:Ty)(v:XV)(K:List t.T->Option R):Option R:=match v with
 |.d .s b=>match(Ty.sl (.i .u8)).j8 (.sl t) (bE b)with
  |some y=>K y
  |none=>none
 |v=>qD s (.sl t) v K
theorem mX[YL]{K:List t.T->Option R}{r:R}(h:rP s t v K=some r):∃xs:List t.T,K xs=some r/\AV.content s.er.lk v.er=some (xs.map t.ds):=by
 unfold rP at h;split at h
 ·rename_i b;split at h
  ·rename_i y hy;obtain⟨e,rfl⟩:=Ty.ct hy;cases e;refine⟨_,h,?_⟩;show some (b.map fun c=>[DV.I .u8 c.toNat])=_;simp only[bE,abF];rfl
  ·cases h
 ·obtain⟨xs,h,h1,_⟩:=Qa h;exact⟨xs,h,h1⟩
def bT1(s:XS)(t:Ty)(xs:List t.T)(k bytes:Nat)(y:XV)(K:XV->List XB->List Hd->Option R):Option R:=match aae t.n k with
 |true=>rP s t y fun ys=>match xs,ys with
  |[],ys=>bb (ys.length*bytes<=140737488355328) (K (.slw (.O s.own.length) t ys.length) [.row true t ys] (nt s y.hr))
  |xs,y0::yr=>bb ((xs.length+(y0::yr).length)*bytes<=140737488355328) (K (.slw (.O s.own.length) t (xs++y0::yr).length) [.row true t (xs++y0::yr)] (nt s y.hr))
  |_,_=>none
 |false=>none
def J1(s:XS)(ty:Option Ty)(k bytes:Nat)(y:XV)(dst:Option Nat)(K:XS->Option R):XV->Option R
 |.slw h t len=>match s.lk h with
  |some (.row mt t' xs)=>match t'.beq t,aae t'.n k with
   |true,true=>bf len xs (rP s t' y fun ys=>bb ((xs.length+ys.length)*bytes<=140737488355328) (K ((s.az h none).put dst (.slw (.O s.own.length) t' (xs++ys).length) [.row mt t' (xs++ys)] [])))
   |_,_=>none
  |_=>none
 |.fln _=>match An ty,dst with
  |some t,some d=>match aae t.n k with
   |true=>rP s t y fun ys=>bb (ys.length*bytes<=140737488355328) (K (s.put (some d) (.slw (.O s.own.length) t ys.length) [.row true t ys] (nt s y.hr)))
   |false=>none
  |_,_=>none
 |.fl t xs=>match aae t.n k,dst with
  |true,some d=>rP s t y fun ys=>match ys with
   |[]=>none
   |y0::yr=>bb ((xs.length+(y0::yr).length)*bytes<=140737488355328) (K (s.put (some d) (.slw (.O s.own.length) t (xs++y0::yr).length) [.row true t (xs++y0::yr)] (nt s y.hr)))
  |_,_=>none
 |_=>none
theorem Tm[YL]{K:XS->Option R}{r:R}(hy:s.er.ev yo=y.er)(h:J1 s ty k bytes y dst K a=some r)(hK:∀s',K s'=some r->KP s'.er):sW s.er k bytes yo dst KP a.er:=by
 unfold J1 at h;split at h
 ·rename_i hd t len;split at h
  ·rename_i mt t' xs hl;split at h
   ·rename_i hb hb2;obtain rfl:=Ty.fm hb;have hk:=θ hb2
    replace h:=AU h
    obtain⟨rfl,h⟩:=h;obtain⟨ys,h,hc⟩:=mX h;obtain⟨hsz,h⟩:=bD h;refine⟨hk,rfl,mt,xs.map t'.ds,ys.map t'.ds,by rw[aU,hl,<-hk];rfl,by rw[κ],by rw[hy];exact hc,hk▸uX t' xs,hk▸uX t' ys,Ev t' ys,by rw[κ];exact hsz,?_⟩;have:=hK _ h;rw[eV,cJ hl]at this;have e:(XV.slw (.O s.own.length) t' (xs++ys).length).er=.sl (.O s.own.length) k 0 (xs.length+(ys.map t'.ds).length):=by show AV.sl (.O s.own.length) t'.n 0 (xs++ys).length=_;rw[hk,ε,κ]
    rw[e]at this;have e2:([XB.row mt t' (xs++ys)].map XB.er)=[bp.row mt k (xs.map t'.ds++ys.map t'.ds)]:=by show[bp.row mt t'.n ((xs++ys).map t'.ds)]=_;rw[hk,aau]
    rw[e2]at this;exact this
   ·cases h
  ·cases h
 ·split at h
  ·rename_i t d _;split at h
   ·rename_i hb;have hk:=θ hb;obtain⟨ys,h,hc⟩:=mX h;obtain⟨hsz,h⟩:=bD h;refine⟨rfl,ys.map t.ds,by rw[hy];exact hc,hk▸uX t ys,by rw[κ];exact hsz,?_⟩;have:=hK _ h;rw[eV]at this;have e:(XV.slw (.O s.own.length) t ys.length).er=.sl (.O s.own.length) k 0 (ys.map t.ds).length:=by show AV.sl (.O s.own.length) t.n 0 ys.length=_;rw[hk,κ]
    rw[e]at this;have e2:([XB.row true t ys].map XB.er)=[bp.row true k (ys.map t.ds)]:=by show[bp.row true t.n (ys.map t.ds)]=_;rw[hk]
    rw[e2]at this;rw[hy,xg,rI];exact this
   ·cases h
  ·cases h
 ·rename_i t xs;split at h
  ·rename_i d hb;have hk:=θ hb;obtain⟨ys,h,hc⟩:=mX h;split at h
   ·cases h
   ·rename_i y0 yr;obtain⟨hsz,h⟩:=bD h;have:=hK _ h;rw[eV]at this;have e2:([XB.row true t (xs++y0::yr)].map XB.er)=[bp.row true k (xs.map t.ds++(y0::yr).map t.ds)]:=by show[bp.row true t.n ((xs++y0::yr).map t.ds)]=_;rw[hk,aau]
    have e:(XV.slw (.O s.own.length) t (xs++y0::yr).length).er=.sl (.O s.own.length) k 0 (xs.length+(y0::yr).length):=by show AV.sl (.O s.own.length) t.n 0 (xs++y0::yr).length=_;rw[hk,ε]
    rw[e,e2,show s.own.length=s.er.nx from rfl]at this;cases xs with
    |nil=>
     refine⟨rfl,(y0::yr).map t.ds,by rw[hy];exact hc,hk▸uX t _,by rw[κ];simpa using hsz,?_⟩;rw[hy,xg,rI,κ];simpa using this
    |cons x0 xr=>
     refine⟨(y0::yr).map t.ds,by rw[hy];exact hc,hk▸uX t (x0::xr),hk▸uX t _,by simpa using hsz,?_⟩;rw[if_neg (by simp),hy,xg,rI];simpa using this
  ·cases h
 ·cases h
def GR(s:XS)(ty:Option Ty)(k bytes:Nat)(y:XV)(K:XV->List XB->List Hd->Option R):XV->Option R
 |.fln _=>match An ty with
  |some t=>match aae t.n k with
   |true=>rP s t y fun ys=>bb (ys.length*bytes<=140737488355328) (K (.slw (.O s.own.length) t ys.length) [.row true t ys] (nt s y.hr))
   |false=>none
  |none=>none
 |.fl t xs=>match aae t.n k with
  |true=>rP s t y fun ys=>match ys with
   |[]=>none
   |y0::yr=>bb ((xs.length+(y0::yr).length)*bytes<=140737488355328) (K (.slw (.O s.own.length) t (xs++y0::yr).length) [.row true t (xs++y0::yr)] (nt s y.hr))
  |false=>none
 |_=>none
theorem Ss[YL]{K:XV->List XB->List Hd->Option R}{r:R}(hy:s.er.ev yo=y.er)(h:GR s ty k bytes y K a=some r){KP:AV->List bp->List Hd->Prop}(hK:∀v nbs fz,K v nbs fz=some r->KP v.er (nbs.map XB.er) fz):
  ∃es,a.er=.fl es/\∃ys,AV.content s.er.lk (s.er.ev yo)=some ys/\j0 k es/\j0 k ys/\(es.length+ys.length)*bytes<=140737488355328/\
   (if ys=[]/\es≠[]then KP (.fl es) [] []else KP (.sl (.O s.er.nx) k 0 (es.length+ys.length)) [.row true k (es++ys)] (jg s.er.lk (AV.rows (s.er.ev yo)))):=by
 unfold GR at h;split at h
 ·split at h
  ·rename_i t _;split at h
   ·rename_i hb;have hk:=θ hb;obtain⟨ys,h,hc⟩:=mX h;obtain⟨hsz,h⟩:=bD h;refine⟨[],rfl,ys.map t.ds,by rw[hy];exact hc,fun _ h=>(by cases h),hk▸uX t ys,by rw[κ];simpa using hsz,?_⟩;rw[if_neg (fun h=>h.2 rfl),hy,xg,rI];have:=hK _ _ _ h;have e:(XV.slw (.O s.own.length) t ys.length).er=.sl (.O s.own.length) k 0 (([]:List (List DV)).length+(ys.map t.ds).length):=by show AV.sl (.O s.own.length) t.n 0 ys.length=_;rw[hk,κ,List.length_nil,aal]
    rw[e]at this;have e2:([XB.row true t ys].map XB.er)=[bp.row true k ([]++ys.map t.ds)]:=by show[bp.row true t.n (ys.map t.ds)]=_;rw[hk];rfl
    rw[e2]at this;exact this
   ·cases h
  ·cases h
 ·rename_i t xs;split at h
  ·rename_i hb;have hk:=θ hb;obtain⟨ys,h,hc⟩:=mX h;split at h
   ·cases h
   ·rename_i y0 yr;obtain⟨hsz,h⟩:=bD h;refine⟨xs.map t.ds,rfl,(y0::yr).map t.ds,by rw[hy];exact hc,hk▸uX t xs,hk▸uX t (y0::yr),by rw[κ,κ];exact hsz,?_⟩;rw[if_neg (fun h=>by cases h.1),hy,xg,rI];have:=hK _ _ _ h;have e:(XV.slw (.O s.own.length) t (xs++y0::yr).length).er=.sl (.O s.own.length) k 0 ((xs.map t.ds).length+((y0::yr).map t.ds).length):=by show AV.sl (.O s.own.length) t.n 0 (xs++y0::yr).length=_;rw[hk,κ,κ,ε]
    rw[e]at this;have e2:([XB.row true t (xs++y0::yr)].map XB.er)=[bp.row true k (xs.map t.ds++(y0::yr).map t.ds)]:=by show[bp.row true t.n ((xs++y0::yr).map t.ds)]=_;rw[hk,aau]
    rw[e2]at this;exact this
  ·cases h
 ·cases h
def ye{α:Type}(xs:List α)(off len:Nat)(ys:List α):List α:=xs.take off++ys.take (min ys.length len)++xs.drop (off+min ys.length len)
def Dk(s:XS)(k:Nat)(vy:XV)(dst:Option Nat)(K:XS->Option R)(h:Hd)(t:Ty)(off len:Nat):Option R:=match s.lk h with
 |some (.row true t' xs)=>match t'.beq t,aae t'.n k with
  |true,true=>bb (off+len<=xs.length) (rP s t' vy fun ys=>K ((s.az h (some (.row true t' (ye xs off len ys)))).put dst (.d (.i .i64) (min ys.length len:Nat)) [] []))
  |_,_=>none
 |_=>none
def Hz(s:XS)(k:Nat)(vy:XV)(dst:Option Nat)(K:XS->Option R):XV->Option R
 |.slw h t len=>Dk s k vy dst K h t 0 len
 |.sl h t off len=>Dk s k vy dst K h t off len
 |.asl h off len=>match s.lk h with
  |some (.arr true n kd x)=>match aae 1 k with
   |true=>bb (off+len<=n) (rP s (.i kd) vy fun ys=>K ((s.az h (some (.arr true n kd (x.put off (ys.take (min ys.length len)))))).put dst (.d (.i .i64) (min ys.length len:Nat)) [] []))
   |false=>none
  |_=>none
 |.rsl h off l len=>match s.lk h with
  |some (.rb true t x)=>match aae 1 k,pq (ji t x) off with
   |true,some a=>bb (l+len<=a.n) (rP s (.i a.k) vy fun ys=>match uk (ji t x) off [.d (.ar a.n a.k) (a.x.put l (ys.take (min ys.length len)))] a.n with
    |some q=>match qj t q with
     |some (y,[])=>K ((s.az h (some (.rb true t y))).put dst (.d (.i .i64) (min ys.length len:Nat)) [] [])
     |_=>none
    |none=>none)
   |_,_=>none
  |_=>none
 |_=>none
theorem YS{l p:List α}{i:Nat}(h:off+n<=l.length)(hi:i+p.length<=n):l.take off++(((l.drop off).take n).take i++p++((l.drop off).take n).drop (i+p.length))++l.drop (off+n)=l.take (off+i)++p++l.drop (off+i+p.length):=by
 have e1:l.take (off+i)=l.take off++(l.drop off).take i:=by rw[List.take_add]
 have e2:((l.drop off).take n).take i=(l.drop off).take i:=by rw[List.take_take,Nat.min_eq_left (by omega)]
 have e3:l.drop (off+i+p.length)=((l.drop off).take n).drop (i+p.length)++l.drop (off+n):=by
  have h1:l.drop (off+i+p.length)=(l.drop off).drop (i+p.length):=by rw[abc,abJ]
  have h2:l.drop (off+n)=(l.drop off).drop n:=by rw[abc]
  rw[h1,h2];have h3:l.drop off=(l.drop off).take n++(l.drop off).drop n:=(List.take_append_drop _ _).symm;have h4:((l.drop off).take n).length=n:=by rw[aaq,aaz];omega
  conv=>lhs;rw[h3]
  rw[abq (by omega)]
 rw[e1,e2,e3];simp only[ν]
theorem Le[YL]{K:XS->Option R}{r:R}{len:Nat}(hy:s.er.ev yo=vy.er)(h:Dk s k vy dst K hd t off len=some r)(hK:∀s',K s'=some r->KP s'.er):Af s.er k yo dst KP (.sl hd t.n off len):=by
 unfold Dk at h;split at h
 ·rename_i t' xs hl;split at h
  ·rename_i hb hb2;obtain rfl:=Ty.fm hb;have hk:=θ hb2;obtain⟨h1,h⟩:=bD h;obtain⟨ys,h,hc⟩:=mX h;refine⟨hk,xs.map t'.ds,ys.map t'.ds,by rw[aU,hl,<-hk];rfl,by rw[κ];exact h1,by rw[hy];exact hc,hk▸uX t' ys,by rw[<-aaA];exact Ev t' _,?_⟩;have:=hK _ h;rw[eV,cJ hl]at this;have e:(some (XB.row true t' (ye xs off len ys))).map XB.er=some (.row true k ((xs.map t'.ds).take off++(ys.map t'.ds).take (min (ys.map t'.ds).length len)++(xs.map t'.ds).drop (off+min (ys.map t'.ds).length len))):=by show some (bp.row true t'.n ((ye xs off len ys).map t'.ds))=_;unfold ye;rw[hk,aau,aau,aaA,aaA,aaI,κ]
   rw[e]at this;have e2:(XV.d (.i .i64) ((min ys.length len:Nat):Int)).er=.D (.I .i64 (min (ys.map t'.ds).length len:Nat)):=by rw[κ];rfl
   rw[e2]at this;exact this
  ·cases h
 ·cases h
theorem VM[YL]{K:XS->Option R}{r:R}(hy:s.er.ev yo=vy.er)(h:Hz s k vy dst K a=some r)(hK:∀s',K s'=some r->KP s'.er):Af s.er k yo dst KP a.er:=by
 unfold Hz at h;split at h
 ·exact Le hy h hK
 ·exact Le hy h hK
 ·rename_i hd off len;split at h
  ·rename_i n kd x hl;split at h
   ·rename_i hb;obtain rfl:=θ hb;obtain⟨h1,h⟩:=bD h;obtain⟨ys,h,hc⟩:=mX h;refine⟨rfl,x.l.map (iq kd),ys.map (Ty.i kd).ds,by rw[aU,hl];rfl,by rw[κ,x.len];exact h1,by rw[hy];exact hc,uX (.i kd) ys,by rw[<-aaA];exact Ev (.i kd) _,?_⟩;have:=hK _ h;rw[eV,cJ hl]at this;have hm:(ys.take (min ys.length len)).length=min ys.length len:=by rw[aaq];omega
    have e:(some (XB.arr true n kd (x.put off (ys.take (min ys.length len))))).map XB.er=some (.row true 1 ((x.l.map (iq kd)).take off++(ys.map (Ty.i kd).ds).take (min (ys.map (Ty.i kd).ds).length len)++(x.l.map (iq kd)).drop (off+min (ys.map (Ty.i kd).ds).length len))):=by show some (bp.row true 1 ((x.put off (ys.take (min ys.length len))).l.map (iq kd)))=_;rw[bz.s9 (by rw[hm];omega),aau,aau,hm,aaA,aaA,aaI,κ];rfl
    rw[e]at this;have e2:(XV.d (.i .i64) ((min ys.length len:Nat):Int)).er=.D (.I .i64 (min (ys.map (Ty.i kd).ds).length len:Nat)):=by rw[κ];rfl
    rw[e2]at this;exact this
   ·cases h
  ·cases h
 ·rename_i hd off l len;split at h
  ·rename_i t x hl;split at h
   ·rename_i a hb ha;obtain rfl:=θ hb;obtain⟨h1,h⟩:=bD h;obtain⟨ys,h,hc⟩:=mX h;split at h
    ·rename_i q hu;split at h
     ·rename_i y hp;obtain⟨c1,c2⟩:=wK hu;obtain⟨d1,d2⟩:=Bx ha;obtain⟨l1,e1,e2⟩:=qB hp;rw[aac]at e1;subst e1;have hm:(ys.take (min ys.length len)).length=min ys.length len:=by rw[aaq];omega
      have hp1:(((ys.take (min ys.length len)).map (DV.I a.k)).map AV.D).length=min ys.length len:=by rw[κ,κ,hm]
      have e3:XV.cf [XV.d (.ar a.n a.k) (a.x.put l (ys.take (min ys.length len)))]=((((XV.cf (ji t x)).drop off).take a.n).take l++((ys.take (min ys.length len)).map (DV.I a.k)).map .D++(((XV.cf (ji t x)).drop off).take a.n).drop (l+(((ys.take (min ys.length len)).map (DV.I a.k)).map AV.D).length)):=by rw[d1,hp1];show(((a.x.put l (ys.take (min ys.length len))).l.map (DV.I a.k)).map AV.D)++[]=_;rw[aac,bz.s9 (by rw[hm];omega),hm];simp only[aau,aaA,aaI]
      have e4:=YS (p:=((ys.take (min ys.length len)).map (DV.I a.k)).map AV.D) d2 (i:=l) (by rw[hp1];omega);rw[<-e3,<-c2,hp1,eR]at e4;have e5:t.ds y=(t.ds x).take (off+l)++(ys.take (min ys.length len)).map (DV.I a.k)++(t.ds x).drop (off+l+min ys.length len):=by refine oA ?_;rw[<-e2,e4];simp only[aau,aaA,aaI]
      rw[eR,κ]at d2;refine⟨rfl,ja (t.ds x),ys.map (Ty.i a.k).ds,by rw[aU,hl];rfl,by rw[AF];omega,by rw[hy];exact hc,uX (.i a.k) ys,by rw[<-aaA];exact Ev (.i a.k) _,?_⟩;have:=hK _ h;rw[eV,cJ hl]at this;have e:(some (XB.rb true t y)).map XB.er=some (.row true 1 ((ja (t.ds x)).take (off+l)++(ys.map (Ty.i a.k).ds).take (min (ys.map (Ty.i a.k).ds).length len)++(ja (t.ds x)).drop (off+l+min (ys.map (Ty.i a.k).ds).length len))):=by show some (bp.row true 1 (ja (t.ds y)))=_;rw[e5,κ];unfold ja;simp only[aau,aaA,aaI,abF];rfl
      rw[e]at this;have e6:(XV.d (.i .i64) ((min ys.length len:Nat):Int)).er=.D (.I .i64 (min (ys.map (Ty.i a.k).ds).length len:Nat)):=by rw[κ];rfl
      rw[e6]at this;exact this
     ·cases h
    ·cases h
   ·cases h
  ·cases h
 ·cases h
def Dq(s:XS)(k:Nat)(zs:List DV)(dst:Option Nat)(K:XS->Option R)(h:Hd)(t:Ty)(off len:Nat):Option R:=match s.lk h with
 |some (.row true t' xs)=>match t'.beq t,aae t'.n k,o7 (zs.map .D) ((t'.ds t'.z).map .D)with
  |true,true,true=>bb (off+len<=xs.length) (K ((s.az h (some (.row true t' (xs.take off++aag len t'.z++xs.drop (off+len))))).put dst .any [] []))
  |_,_,_=>none
 |_=>none
def Hf(s:XS)(k:Nat)(zs:List DV)(dst:Option Nat)(K:XS->Option R):XV->Option R
 |.slw h t len=>Dq s k zs dst K h t 0 len
 |.sl h t off len=>Dq s k zs dst K h t off len
 |_=>none
theorem QH[YL]{zs:List DV}{K:XS->Option R}{r:R}{len:Nat}(h:Dq s k zs dst K hd t off len=some r)(hK:∀s',K s'=some r->KP s'.er):Ax s.er k zs dst KP (.sl hd t.n off len):=by
 unfold Dq at h;split at h
 ·rename_i t' xs hl;split at h
  ·rename_i hb hb2 hz;obtain rfl:=Ty.fm hb;have hk:=θ hb2;have hz:=oA (yl hz);obtain⟨h1,h⟩:=bD h;refine⟨hk,xs.map t'.ds,by rw[aU,hl,<-hk];rfl,by rw[κ];exact h1,?_⟩;have:=hK _ h;rw[eV,cJ hl]at this;have e:(some (XB.row true t' (xs.take off++aag len t'.z++xs.drop (off+len)))).map XB.er=some (.row true k ((xs.map t'.ds).take off++aag len zs++(xs.map t'.ds).drop (off+len))):=by show some (bp.row true t'.n ((xs.take off++aag len t'.z++xs.drop (off+len)).map t'.ds))=_;rw[hk,aau,aau,abW,aaA,aaI,hz]
   rw[e]at this;exact this
  ·cases h
 ·cases h
theorem bLg[YL]{zs:List DV}{K:XS->Option R}{r:R}(h:Hf s k zs dst K a=some r)(hK:∀s',K s'=some r->KP s'.er):Ax s.er k zs dst KP a.er:=by
 unfold Hf at h;split at h
 ·exact QH h hK
 ·exact QH h hK
 ·cases h
theorem Dp{wr:Bool}{K V:Ty}(hk:zL K=true)(y:K.T)(v:V.T)(mv:MV)(hmv:mv=sP wr V v):∀(es:List (K.T×V.T)) (hole:Option K.T) (r:Option (Nat×MV)),(hole=none\/hole=some y)->mV (dH K y) (iL wr K V es hole)=some r->
  Bs (iL wr K V es hole) r (dH K y) mv=iL wr K V (iZ es y v) none
 |[],hole,r,_,h=>by
  cases h;subst hmv;rfl
 |e::es,hole,r,hh,h=>by
  subst hmv;have main:∀(mv0:MV) (rest:List (AV×MV)),mV (dH K y) ((dH K e.1,mv0)::rest)=some r->(e.1=y->rest=iL wr K V es none)->(e.1≠y->mv0=sP wr V e.2/\∃hole',rest=iL wr K V es hole'/\(hole'=none\/hole'=some y))->
    Bs ((dH K e.1,mv0)::rest) r (dH K y) (sP wr V v)=iL wr K V (iZ (e::es) y v) none:=fun mv0 rest hf h1 h2=>by
   unfold mV at hf;rw[Ly hk]at hf;have hs:iZ (e::es) y v=if e.1=y then(y,v)::es else e::iZ es y v:=rfl
   rw[hs];by_cases he:e.1=y
   ·rw[decide_eq_true he]at hf;simp only[Option.some.injEq]at hf;subst hf;rw[if_pos he,h1 he];rfl
   ·rw[decide_eq_false he]at hf;obtain⟨rfl,hole',rfl,hh'⟩:=h2 he;rw[if_neg he];simp only at hf;split at hf
    ·rename_i j v0 hq;cases hf;have ih:=Dp hk y v _ rfl es hole' _ hh' hq;show(dH K e.1,sP wr V e.2)::(iL wr K V es hole').set j (dH K y,sP wr V v)=(dH K e.1,sP wr V e.2)::iL wr K V (iZ es y v) none;rw[<-ih];rfl
    ·rename_i hq;cases hf;have ih:=Dp hk y v _ rfl es hole' _ hh' hq;show(dH K e.1,sP wr V e.2)::(iL wr K V es hole'++[(dH K y,sP wr V v)])=(dH K e.1,sP wr V e.2)::iL wr K V (iZ es y v) none;rw[<-ih];rfl
    ·cases hf
  rcases hh with rfl|rfl
  ·exact main _ _ h (fun _=>rfl) (fun _=>⟨rfl,none,rfl,.inl rfl⟩)
  ·by_cases he:e.1=y
   ·have e2:iL wr K V (e::es) (some y)=(dH K e.1,.v (Bt wr V e.2))::iL wr K V es none:=by show(if e.1=y then _ else _)=_;rw[if_pos he]
    rw[e2]at h|-;exact main _ _ h (fun _=>rfl) (fun hn=>absurd he hn)
   ·have e2:iL wr K V (e::es) (some y)=(dH K e.1,sP wr V e.2)::iL wr K V es (some y):=by show(if e.1=y then _ else _)=_;rw[if_neg he]
    rw[e2]at h|-;exact main _ _ h (fun hn=>absurd hn he) (fun _=>⟨rfl,some y,rfl,.inr rfl⟩)
def Jb{α:Type}[DecidableEq α]:List α->α->List α
 |[],_=>[]
 |x::l,y=>if x=y then Jb l y else x::Jb l y
def Hv(V:Ty):XV->Option V.T
 |.d t x=>t.j8 V x
 |.agg cs=>match nW V with
  |true=>none
  |false=>match qj V cs with
   |some (x,[])=>some x
   |_=>none
 |_=>none
theorem VS[YL]{x:V.T}(h:Hv V v=some x):v.er=dH V x:=by
 unfold Hv at h;split at h
 ·obtain⟨e,rfl⟩:=Ty.ct h;subst e;rfl
 ·split at h
  ·cases h
  ·rename_i cs _ hl;split at h
   ·rename_i y hp;cases h;obtain⟨l1,e1,e2⟩:=qB hp;rw[aac]at e1;subst e1;rw[nM x hl];show AV.agg (XV.cf _)=_;rw[e2]
   ·cases h
 ·cases h
theorem L6:∀l:List DV,AV.jv (l.map .D)=true
 |[]=>rfl
 |_::l=>L6 l
theorem aYf(x:V.T):(dH V x).mq=true:=by
 cases hl:nW V with
 |true=>cases V<;>first|rfl|(cases hl;done)
 |false=>rw[nM x hl];exact L6 _
def isO:Ty->Bool
 |.o _=>true
 |_=>false
def Jw{α:Type}[DecidableEq α](hole:Option α)(y:α)(K:Option R):Option R:=match hole with
 |none=>K
 |some z=>bb (z=y) K
theorem XJ{α:Type}[DecidableEq α]{hole:Option α}{y:α}{K:Option R}{r:R}(h:Jw hole y K=some r):(hole=none\/hole=some y)/\K=some r:=by
 unfold Jw at h;split at h
 ·exact⟨.inl rfl,h⟩
 ·obtain⟨e,h⟩:=bD h;exact⟨.inr (by rw[e]),h⟩
def EC(s:XS)(wr:Bool)(V:Ty)(vz:XV)(K:V.T->Option Hd->Option R):Option R:=match V,K with
 |.o t,K=>match vz with
  |.slw hr t' len=>match s.lk hr with
   |some (.row mt t2 xs)=>match t2.beq t'&&(!wr||mt),(Ty.sl t2).j8 (.sl t) xs with
    |true,some x=>bf len xs (K x (some hr))
    |_,_=>none
   |_=>none
  |_=>none
 |V,K=>match Hv V vz with
  |some x=>K x none
  |none=>none
theorem YE[YL]{K:V.T->Option Hd->Option R}{r:R}(h:EC s wr V vz K=some r):∃x hr,K x hr=some r/\
  ((hr=none/\MV.v (dH V x)=sP wr V x/\vz.er=dH V x)\/∃a mt k rs b,hr=some a/\((wr=false/\sP wr V x=.o k rs)\/(wr=true/\mt=true/\sP wr V x=.ow k rs))/\vz.er=.sl a k 0 rs.length/\s.lk a=some b/\b.er=.row mt k rs):=by
 cases V with
 |o t=>
  unfold EC at h;simp only at h;split at h
  ·rename_i hr t' len;split at h
   ·rename_i mt t2 xs hl;split at h
    ·rename_i x hb hx;rw[μ]at hb;obtain⟨hb,hw⟩:=hb;obtain rfl:=Ty.fm hb;obtain⟨e,rfl⟩:=Ty.ct hx;cases e;obtain⟨e,h⟩:=AU h;refine⟨xs,some hr,h,.inr ⟨hr,mt,t.n,xs.map t.ds,_,rfl,?_,?_,hl,rfl⟩⟩
     ·cases wr with
      |false=>exact .inl ⟨rfl,rfl⟩
      |true=>exact .inr ⟨rfl,hw,rfl⟩
     show AV.sl hr t.n 0 len=_;rw[e,κ]
    ·cases h
   ·cases h
  ·cases h
 |_=>
  unfold EC at h;simp only at h;split at h
  ·rename_i x hx;exact⟨x,none,h,.inl ⟨rfl,rfl,VS hx⟩⟩
  ·cases h
def Pp(s:XS)(h:Hd)(b:XB)(hr:Option Hd)(K:XS->Option R):Option R:=match hr with
 |none=>K (s.az h (some b))
 |some a=>match a.kq h with
  |true=>none
  |false=>K ((s.az a none).az h (some b))
def NJ(s:XS)(h:Hd)(wr:Bool)(K0 V:Ty)(es:List (K0.T×V.T))(hole:Option K0.T)(y:K0.T)(vz:XV)(K:XS->Option R):Option R:=
 EC s wr V vz fun x hr=>Jw hole y (Pp s h (.mp wr K0 V (iZ es y x) none none) hr K)
def IX(s:XS)(kd:KD)(vy vz:XV)(K:XS->Option R):XV->Option R
 |.mref h=>match s.lk h with
  |some (.mp wr K0 V es hole i)=>match zL K0&&we K0.kd kd&&E4 wr i,AZ K0 vy with
   |true,some y=>NJ s h wr K0 V es hole y vz K
   |_,_=>none
  |_=>none
 |_=>none
theorem Ry{a:Hd}{b0:XB}(hl:s.lk a=some b0)(hn:a≠h)(b:Option XB):(s.az a b).lk h=s.lk h:=by
 cases a with
 |B i=>cases h with
  |B j=>
   show bP (wN s.bs i b) j=bP s.bs j;rw[nG _ _ _ _ (pF (l:=s.bs) hl),if_neg (fun e=>hn (by rw[e]))]
  |O j=>rfl
 |O i=>cases h with
  |B j=>rfl
  |O j=>
   show bP (wN s.own i b) j=bP s.own j;rw[nG _ _ _ _ (pF (l:=s.own) hl),if_neg (fun e=>hn (by rw[e]))]
theorem Ze[YL]{K0:Ty}{es:List (K0.T×V.T)}{hole:Option K0.T}{i:Option (Hd×Option K0.T×List K0.T)}{y:K0.T}{K:XS->Option R}{r:R}(hk:zL K0=true)(hl:s.lk hd=some (.mp wr K0 V es hole i))(hio:E4 wr i=true)(h:NJ s hd wr K0 V es hole y vz K=some r)(hK:∀s',K s'=some r->KP s'.er)(hz:s.er.ev zo=vz.er):
  IP s.er (s.er.ev zo) fun mv s1=>∃es it r,s.er.lk hd=some (.mp K0.kd es it)/\mV (dH K0 y) es=some r/\KP (s1.az hd (some (.mp K0.kd (Bs es r (dH K0 y) mv) none))):=by
 have hl':s.er.lk hd=some (.mp K0.kd (iL wr K0 V es hole) (CL K0 i)):=by rw[aU,hl];show some (bp.mp _ (uc wr K0 V es hole i) _)=_;rw[bGw hio]
 obtain⟨q,f1,_⟩:=rL (wr:=wr) (V:=V) hk y es hole;obtain⟨x,hr,h,hx⟩:=YE h;obtain⟨hh,h⟩:=XJ h;rcases hx with⟨rfl,e1,e2⟩|⟨a,mt,k,rs,b,rfl,e1,e2,e3,e4⟩
 ·rw[hz,e2];refine .inl ⟨aYf x,_,_,q,hl',f1,?_⟩;have:=hK _ h;rw[cJ hl]at this;rw[Dp hk y x _ e1 es hole q hh f1];have e9:(some (XB.mp wr K0 V (iZ es y x) none none)).map XB.er=some (.mp K0.kd (iL wr K0 V (iZ es y x) none) none):=by show some (bp.mp _ (uc wr _ _ _ _ _) _)=_;rw[MP];rfl
  rw[e9]at this;exact this
 ·unfold Pp at h;simp only at h;split at h
  ·cases h
  ·rename_i hne;have hne:a≠hd:=fun e=>by rw[e,Hd.du.2 rfl]at hne;cases hne
   rw[hz,e2];have e9:(some (XB.mp wr K0 V (iZ es y x) none none)).map XB.er=some (.mp K0.kd (iL wr K0 V (iZ es y x) none) none):=by show some (bp.mp _ (uc wr _ _ _ _ _) _)=_;rw[MP];rfl
   have:=hK _ h;rw[cJ ((Ry e3 hne none).trans hl),cJ e3,e9]at this;have fin:∀mv,sP wr V x=mv->∃es' it r,s.er.lk hd=some (.mp K0.kd es' it)/\mV (dH K0 y) es'=some r/\KP ((s.er.az a none).az hd (some (.mp K0.kd (Bs es' r (dH K0 y) mv) none))):=fun mv e1=>by refine⟨_,_,q,hl',f1,?_⟩;rw[Dp hk y x _ e1.symm es hole q hh f1];exact this
   refine .inr ⟨a,k,mt,rs,rfl,by rw[aU,e3];exact congrArg some e4,?_⟩;rcases e1 with⟨_,e1⟩|⟨_,e1',e1⟩
   ·exact .inl (fin _ e1)
   ·exact .inr ⟨e1',fin _ e1⟩
theorem bD1[YL]{kd:KD}{K:XS->Option R}{r:R}(hy:s.er.ev yo=vy.er)(hz:s.er.ev zo=vz.er)(h:IX s kd vy vz K a=some r)(hK:∀s',K s'=some r->KP s'.er):xq s.er kd yo zo KP a.er:=by
 unfold IX at h;split at h
 ·rename_i hd;split at h
  ·rename_i wr K0 V es hole i hl;split at h
   ·rename_i y hb hkey;rw[μ,μ]at hb;obtain⟨⟨hk,hkd⟩,hio⟩:=hb;have hkd:=Ep hkd;subst hkd;have ey:=KM hkey;refine⟨by rw[hy,ey];exact Mc hk y,?_⟩;have:=Ze hk hl hio h hK hz;rw[hy,ey];exact this
   ·cases h
  ·cases h
 ·cases h
def bOs{α:Type}[DecidableEq α](y:α):Option (Hd×Option α×List α)->Option (Hd×Option α×List α)
 |none=>none
 |some (hi,_,rem)=>some (hi,none,Jb rem y)
def bT4(s:XS)(kd:KD)(vy:XV)(K:XS->Option R):XV->Option R
 |.mref h=>match s.lk h with
  |some (.mp false K0 V es none i)=>match zL K0&&we K0.kd kd,AZ K0 vy with
   |true,some y=>K (s.az h (some (.mp false K0 V (KU es y) none (bOs y i))))
   |_,_=>none
  |_=>none
 |_=>none
def bT8(s:XS)(kd:KD)(dst:Option Nat)(K:XS->Option R):XV->Option R
 |.mref h=>match s.lk h with
  |some (.mp wr K0 V es hole i)=>match we K0.kd kd&&(!wr||(i.isNone&&hole.isNone))with
   |true=>K ((s.az h (some (.mp wr K0 V es hole (some (.O s.own.length,none,es.map (·.1)))))).put dst (.itr h (.O s.own.length)) [.it] [])
   |false=>none
  |_=>none
 |_=>none
def bTf(s:XS)(kd:KD)(z:AV)(k:Nat)(ok:Bool)(vy:XV)(dst:Option Nat)(K:XS->Option R):XV->Option R
 |.mref h=>match ok,s.lk h with
  |false,some (.mp wr K0 (.o t) es none i)=>match zL K0&&we K0.kd kd&&o7 [z] [.D (.L [])]&&aae t.n k&&E4 wr i,AZ K0 vy with
   |true,some y=>K ((s.az h (some (.mp wr K0 (.o t) es (some y) i))).put dst (.slw (.O s.own.length) t ((dA es y).getD []).length) [.row wr t ((dA es y).getD [])] [])
   |_,_=>none
  |_,_=>none
 |_=>none
def bT2(s:XS)(dst:Option Nat)(K:XS->Option R):XV->Option R
 |.itr h hi=>match s.lk h,s.lk hi with
  |some (.mp true K0 (.o t) es none (some (hi',some cur,rem))),some _=>match zL K0&&hi.kq hi' with
   |true=>bb (¬cur∈rem)<|bj (dA es cur) fun v=>K ((s.az h (some (.mp true K0 (.o t) es none (some (hi,none,rem))))).put dst (.cr [ud K0 cur,.slw (.O s.own.length) t v.length]) [.row true t v] [])
   |false=>none
  |_,_=>none
 |_=>none
end
section
variable{R:Type}
def IS(vr:Hd->Option Nat)(s:XS):Nat->List (Option XB)->List (Option Hd)->List (Option Hd)
 |_,[],l=>l
 |i,m::r,l=>IS vr s (i+1) r (match Hj l i,m with
  |some h,some (.box ms)=>match s.lk h with
   |some (.box cs)=>By vr ms cs l
   |_=>l
  |_,_=>l)
def J3:List (Option Hd)->Option (List Hd)
 |[]=>some []
 |some h::r=>match J3 r with
  |some l=>some (h::l)
  |none=>none
 |none::_=>none
def El:List Hd->Bool
 |[]=>true
 |h::r=>!(gw h r)&&El r
theorem KA:∀{l:List Hd},El l=true->l.Nodup
 |[],_=>List.nodup_nil
 |h::r,e=>by unfold El at e;rw[μ,aaZ]at e;exact abh.2 ⟨fun q=>(by rw[wD.2 q]at e;cases e.1),KA e.2⟩
def u0(s:XS):List Hd->List (Option XB)
 |[]=>[]
 |h::r=>s.lk h::u0 s r
theorem MW[YL](s:XS):∀hs:List Hd,dw (u0 s hs)=hs.map s.er.lk
 |[]=>rfl
 |h::r=>by show(s.lk h).map XB.er::dw (u0 s r)=s.er.lk h::r.map s.er.lk;rw[aU,MW s r]
theorem Qd(s:XS):∀(hs:List Hd) (i:Nat),bP (u0 s hs) i=(hs[i]?).bind s.lk
 |[],_=>by simp[u0,bP]
 |h::r,0=>rfl
 |h::r,i+1=>by show bP (u0 s r) i=_;rw[Qd s r i];simp
def Fs(s:XS):List Hd->Bool
 |[]=>true
 |h::r=>(match s.lk h with
  |some .it=>false
  |some _=>true
  |none=>false)&&Fs s r
theorem Lg[YL]{s:XS}:∀{hs:List Hd},Fs s hs=true->∀h∈hs,∃b,s.lk h=some b/\b.er.qv=false
 |[],_,_,h=>by cases h
 |x::r,e,h,hh=>by
  unfold Fs at e;rw[μ]at e;rcases υ.1 hh with rfl|hh
  ·have e:=e.1;split at e
   ·cases e
   ·rename_i b hn hl;refine⟨b,hl,?_⟩;cases b with
    |it=>exact(hn rfl).elim
    |_=>rfl
   ·cases e
  ·exact Lg e.2 h hh
def XB.hr:XB->List Hd
 |.box cs=>XV.qw cs
 |_=>[]
theorem VP[YL](b:XB):b.er.rows=b.hr:=by
 cases b with
 |box cs=>exact Ef cs
 |_=>rfl
def yX(s:XS):List Hd->List Hd
 |[]=>[]
 |h::r=>(match s.lk h with
  |some b=>b.hr
  |none=>[])++yX s r
theorem QK[YL](s:XS):∀hs:List Hd,wA s.er.lk hs=yX s hs
 |[]=>rfl
 |h::r=>by
  unfold wA yX;rw[QK s r,aU];cases s.lk h with
  |none=>rfl
  |some b=>exact congrArg (· ++_) (VP b)
def z8(hs:List Hd):List Hd->List Hd
 |[]=>[]
 |h::r=>match gw h hs with
  |true=>z8 hs r
  |false=>h::z8 hs r
theorem HF(hs:List Hd):∀l:List Hd,l.filter (fun h=>decide (h∉hs))=z8 hs l
 |[]=>rfl
 |h::r=>by
  rw[List.filter_cons];unfold z8;cases hq:gw h hs with
  |true=>rw[if_neg (by simp[wD.1 hq])];exact HF hs r
  |false=>rw[if_pos (by simp only[decide_eq_true_eq];exact fun q=>by rw[wD.2 q]at hq;cases hq),HF hs r]
def vP(ψ:Hd->Hd):List Hd->List (Option XB)->XS->XS
 |h::hs,b::bs,s=>vP ψ hs bs (s.az h (match b with
  |some b=>some (b.cm ψ)
  |none=>none))
 |_,_,s=>s
def xn(s:XS):Hd->Prop
 |.B i=>i<s.bs.length
 |.O i=>i<s.own.length
theorem Zr{b:XB}(hl:s.lk h=some b):xn s h:=by
 cases h with
 |B i=>exact pF (l:=s.bs) hl
 |O i=>exact pF (l:=s.own) hl
theorem Sr[YL](hl:xn s h)(b:Option XB):(s.az h b).er=s.er.az h (b.map XB.er):=by
 cases h with
 |B i=>
  refine aq.ext' (fun _=>rfl) (fun j=>?_) (fun _=>rfl) rfl;show(bP (wN s.bs i b) j).map XB.er=if j=i then b.map XB.er else(bP s.bs j).map XB.er
  rw[nG _ _ _ _ hl];split<;>rfl
 |O i=>
  refine aq.ext' (fun _=>rfl) (fun _=>rfl) (fun j=>?_) (zD _ _ _);show(bP (wN s.own i b) j).map XB.er=if j=i then b.map XB.er else(bP s.own j).map XB.er
  rw[nG _ _ _ _ hl];split<;>rfl
theorem bJi{h':Hd}(hl:xn s h')(b:Option XB):xn (s.az h b) h':=by
 cases h with
 |B i=>cases h' with
  |B j=>show j<(wN s.bs i b).length;rw[zD];exact hl
  |O j=>exact hl
 |O i=>cases h' with
  |B j=>exact hl
  |O j=>show j<(wN s.own i b).length;rw[zD];exact hl
theorem NI[YL](ψ:Hd->Hd):∀(hs:List Hd) (bs:List (Option XB)) (s:XS),(∀h∈hs,xn s h)->(vP ψ hs bs s).er=cS s.er ψ hs (dw bs)
 |[],bs,s,_=>by unfold vP cS;rfl
 |h::hs,[],s,_=>by unfold vP cS;rfl
 |h::hs,b::bs,s,hr=>by
  have h1:=hr h aao;show(vP ψ hs bs (s.az h _)).er=cS (s.er.az h ((b.map XB.er).map (bp.cm ψ))) ψ hs (dw bs);rw[NI ψ hs bs _ (fun x hx=>bJi (hr x (aaa _ hx)) _),Sr h1];cases b with
  |none=>rfl
  |some b=>
   show cS (s.er.az h (some (b.cm ψ).er)) ψ hs (dw bs)=_;rw[GC];rfl
def CN(s:XS)(hs:List Hd)(vs:List XV)(dst:Option Nat)(o:XS)(bl:List XB):XS:=
 (vP (bW hs s.own.length) hs o.bs (s.put none .un [] (z8 hs (nt s (XV.qw vs++yX s hs))))).put dst ((XV.val o.env).cm (bW hs s.own.length)) (bl.map (XB.cm (bW hs s.own.length))) []
theorem Vv(hl:xn s h)(fz:List Hd):xn (s.put none .un [] fz) h:=by
 cases h with
 |B i=>
  show i<(match fz with|[]=>s.bs|fz=>oo .B fz 0 s.bs).length;cases fz with
  |nil=>exact hl
  |cons x r=>show i<(oo .B (x::r) 0 s.bs).length;rw[zN];exact hl
 |O i=>
  show i<((match fz with|[]=>s.own|fz=>oo .O fz 0 s.own)++([]:List XB).map some).length;rw[ε];cases fz with
  |nil=>exact aa0 hl (abL _ _)
  |cons x r=>
   show i<(oo .O (x::r) 0 s.own).length+_;rw[zN];exact aa0 hl (abL _ _)
theorem Wb[YL](hr:∀h∈hs,xn s h)(vs:List XV)(dst:Option Nat)(o:XS)(bl:List XB):(CN s hs vs dst o bl).er=gV s.er hs (XV.de vs) dst (XV.val o.env).er (dw o.bs) (bl.map XB.er):=by
 have e:qi s.er.lk hs (XV.de vs)=z8 hs (nt s (XV.qw vs++yX s hs)):=by unfold qi;rw[HF,yn,QK,rI]
 unfold CN gV;rw[eV,NI _ _ _ _ (fun h hh=>Vv (hr h hh) _),eV,D3,Qi,e];rfl
def MT(s:XS)(hs:List Hd)(vs:List XV)(dst:Option Nat)(K:XS->Option R)(o:XS):Option R:=match aae o.bs.length hs.length,CP o.own,o.pv with
 |true,some bl,none=>K (CN s hs vs dst o bl)
 |_,_,_=>none
def Dx(s:XS)(g:bx)(vs:List XV)(dst:Option Nat)(K:XS->Option R)(hs:List Hd):Option R:=match El hs&&tq s.own.length hs&&Fs s hs&&ym 0 g.ent.env vs,g.ent.own with
 |true,[]=>Fc s (oq hs) g.ent (uW vs) (u0 s hs) [] fun v=>bj (jh g.ent.cn g.F v) fun r=>E5 g.out r (MT s hs vs dst K)
 |_,_=>none
def F2(T:List bx)(s:XS)(vs:List XV)(dst:Option Nat)(K:XS->Option R):XV->Option R
 |.clo fn caps=>match zz T fn (vs++caps)with
  |some g=>match J3 (IS FF s 0 g.ent.bs (CV FF (uW (vs++caps)) g.ent.env (BH g.ent.bs)))with
   |some hs=>Dx s g (vs++caps) dst K hs
   |none=>none
  |none=>none
 |_=>none
theorem Z6:∀h h' b,oq hs h=some h'->s.lk h=some b->match h' with|.B i=>bP (u0 s hs) i=some b|.O i=>bP [] i=some b:=fun h h' b e hl=>by have e:(rk h hs 0).map Hd.B=some h':=e;rw[ι]at e;obtain⟨i,hi,rfl⟩:=e;obtain⟨_,h2⟩:=DO hi;show bP (u0 s hs) i=some b;rw[Qd,show hs[i]?=some h from h2];exact hl
theorem MM[YL]{g:bx}{K:XS->Option R}{r:R}{hds:List Hd}(h:Dx s g vs dst K hds=some r):
  ∃v rr bl,jh g.ent.cn g.F v=some rr/\(bl.map XB.er).map some=dw (fS g.out rr).own/\(fS g.out rr).pv=none/\(g.ent.fill v).env.map (fun p=>p.2.er)=AV.bu s.er.lk (oq hds) (XV.de vs)/\uN s.er.lk hds=dw (g.ent.fill v).bs/\
   hds.Nodup/\tq s.er.nx hds=true/\(∀h∈hds,(s.er.lk h).isSome=true)/\(∀h∈hds,(s.er.lk h).any bp.qv=false)/\(dw (fS g.out rr).bs).length=hds.length/\
   K (CN s hds vs dst (fS g.out rr) bl)=some r/\(CN s hds vs dst (fS g.out rr) bl).er=gV s.er hds (XV.de vs) dst (XV.val (fS g.out rr).env).er (dw (fS g.out rr).bs) (bl.map XB.er):=by
 unfold Dx at h;split at h
 case h_2=>cases h
 rename_i hb ho;rw[μ,μ,μ]at hb;obtain⟨⟨⟨b1,b2⟩,b3⟩,b4⟩:=hb;obtain⟨v,h,e1,e2,_⟩:=Nu Z6 h;obtain⟨rr,hr,h⟩:=Hl h;have h:=Hb h;unfold MT at h;split at h
 case h_2=>cases h
 rename_i bl hlen hbl hpv;have hlen:=θ hlen;have hargs:(g.ent.fill v).env.map (fun p=>p.2.er)=AV.bu s.er.lk (oq hds) (XV.de vs):=by have:=congrArg (fun l=>l.map (fun p:Nat×AV=>p.2)) e1;simp only[abF]at this;rw[JD,<-I9 (f:=fun v=>AV.conv s.er.lk (oq hds) v.er) b4 (ev:=uW vs) fun i _=>by rw[aal]];exact this
 have hh:uN s.er.lk hds=dw (g.ent.fill v).bs:=by rw[e2,MW,abF];rfl
 have hlive:=Lg b3;refine⟨v,rr,bl,hr,Hi hbl,hpv,hargs,hh,KA b1,b2,fun x hx=>?_,fun x hx=>?_,?_,h,?_⟩
 ·obtain⟨b,q,_⟩:=hlive x hx;rw[aU,q];rfl
 ·obtain⟨b,q,q2⟩:=hlive x hx;rw[aU,q];exact q2
 ·show(List.map _ _).length=_;rw[κ];exact hlen
 ·rw[Wb (fun x hx=>by obtain⟨b,q,_⟩:=hlive x hx;exact Zr q)]
theorem R9[YL]{T:List bx}(hT:lA P T){K:XS->Option R}{r:R}(h:F2 T s vs dst K vf=some r)(hK:∀s',K s'=some r->KP s'.er):CD P s.er dst KP (XV.de vs) vf.er:=by
 unfold F2 at h;split at h
 case h_2=>cases h
 rename_i fn caps;split at h
 case h_2=>cases h
 rename_i g hg;obtain⟨hs,hfn⟩:=DR hT hg;split at h
 case h_2=>cases h
 rename_i hds _;obtain⟨v,rr,bl,hr,hbl,hpv,hargs,hh,c1,c2,c3,c4,c5,hk,he⟩:=MM h;have hcall:=hs v rr hr (bl.map XB.er) hbl;unfold wb at hcall;rw[hpv]at hcall;rw[hargs,hfn,<-hh,rB]at hcall;refine⟨hds,_,_,_,c1,c2,c3,c4,c5,hcall,?_⟩;have:=hK _ hk;rw[he,rB]at this;exact this
structure gg where
 ro:RO
 ty:Option Ty
def Cq(T:List bx)(s:XS)(o:gg)(K:XS->Option R):Option R:=
 match o.ro.op with
 |.store sz a x=>w1 s a fun va=>w1 s x fun vx=>match bRm vx va with
  |true=>Gl s sz vx K va
  |false=>Ke s sz vx K va
 |.appE k bytes x y=>w1 s x fun vx=>w1 s y fun vy=>J1 s o.ty k bytes vy o.ro.dst K vx
 |.app k bytes x y=>w1 s x fun vx=>w1 s y fun vy=>GR s o.ty k bytes vy (fun v nbs fz=>K (s.put o.ro.dst v nbs fz)) vx
 |.callE f args=>w1 s f fun vf=>wL s args fun vs=>F2 T s vs o.ro.dst K vf
 |.clr k zs x=>w1 s x (Hf s k zs o.ro.dst K)
 |.cpy k x y=>w1 s x fun vx=>w1 s y fun vy=>Hz s k vy o.ro.dst K vx
 |.mtake kd z k ok x y=>none
 |.mput kd x y z=>w1 s x fun vx=>w1 s y fun vy=>w1 s z fun vz=>IX s kd vy vz K vx
 |.mdel kd x y=>none
 |.rng kd x=>none
 |.entT x=>none
 |op=>xp T s o.ty op fun v nbs fz=>K (s.put o.ro.dst v nbs fz)
theorem G8[YL]{T:List bx}(hT:lA P T){o:gg}{K:XS->Option R}{r:R}(h:Cq T s o K=some r)(hK:∀s',K s'=some r->KP s'.er):qI P s.er o.ro KP:=by
 have hput:∀v nbs fz,K (s.put o.ro.dst v nbs fz)=some r->KP (s.er.put o.ro.dst v.er (nbs.map XB.er) fz):=fun v nbs fz h=>by rw[<-eV];exact hK _ h
 unfold Cq at h;unfold qI;split at h
 ·rename_i sz a x e;obtain⟨h,e1⟩:=aP h;obtain⟨h,e2⟩:=aP h;rw[e];show qA s.er sz (s.er.ev x) KP (s.er.ev a)\/qA (s.er.put none .un [] (jg s.er.lk (AV.rows (s.er.ev x)))) sz (AV.conv s.er.lk (fun _=>none) (s.er.ev x)) KP (s.er.ev a);split at h
  ·right;rw[e1];exact Sx e2 h hK
  ·left;rw[e1];exact SP e2 h hK
 ·rename_i k bytes x y e;obtain⟨h,e1⟩:=aP h;obtain⟨h,e2⟩:=aP h;rw[e];show sW s.er k bytes y o.ro.dst KP (s.er.ev x);rw[e1];exact Tm e2 h hK
 ·rename_i k bytes x y e;obtain⟨h,e1⟩:=aP h;obtain⟨h,e2⟩:=aP h;rw[e];show∃es,s.er.ev x=.fl es/\_;rw[e1];exact Ss e2 h (KP:=fun a nbs fz=>KP (s.er.put o.ro.dst a nbs fz)) hput
 ·rename_i f args e;obtain⟨h,e1⟩:=aP h;obtain⟨vs,h,e2⟩:=zq h;rw[e];show CD P s.er o.ro.dst KP (args.map s.er.ev) (s.er.ev f);rw[e1,e2];exact R9 hT h hK
 ·rename_i k zs x e;obtain⟨h,e1⟩:=aP h;rw[e];show Ax s.er k zs o.ro.dst KP (s.er.ev x);rw[e1];exact bLg h hK
 ·rename_i k x y e;obtain⟨h,e1⟩:=aP h;obtain⟨h,e2⟩:=aP h;rw[e];show Af s.er k y o.ro.dst KP (s.er.ev x);rw[e1];exact VM e2 h hK
 ·cases h
 ·rename_i kd x y z e;obtain⟨h,e1⟩:=aP h;obtain⟨h,e2⟩:=aP h;obtain⟨h,e3⟩:=aP h;rw[e];show xq s.er kd y z KP (s.er.ev x);rw[e1];exact bD1 e2 e3 h hK
 ·cases h
 ·cases h
 ·cases h
 ·rename_i n1 n2 n3 n4 n5 n6 n7 n8 n9 n10 n11;have:=Tt hT h (KP:=fun a nbs fz=>KP (s.er.put o.ro.dst a nbs fz)) hput;split
  ·rename_i e;exact absurd e (n1 _ _ _)
  ·rename_i e;exact absurd e (n2 _ _ _ _)
  ·rename_i e;exact absurd e (n4 _ _)
  ·rename_i e;exact absurd e (n5 _ _ _)
  ·rename_i e;exact absurd e (n6 _ _ _)
  ·rename_i e;exact absurd e (n7 _ _ _ _ _ _)
  ·rename_i e;exact absurd e (n8 _ _ _ _)
  ·rename_i e;exact absurd e (n9 _ _ _)
  ·rename_i e;exact absurd e (n10 _ _)
  ·rename_i e;exact absurd e (n11 _)
  ·exact this
def pY(s:XS)(t:Nat)(q:Bool):XS:={s with env:=(t,.d .b q)::s.env}
theorem kW[YL]{t:Nat}{c:Bool}(h:aV s.env t=.d .b c)(e:c=q):(pY s t q).er=s.er:=by
 subst e;refine aq.ext' (fun i=>?_) (fun _=>rfl) (fun _=>rfl) rfl;show(if aae i t=true then XV.d .b c else aV s.env i).er=(aV s.env i).er;by_cases hi:i=t
 ·rw[if_pos (by rw[abA];exact hi),hi,h]
 ·rw[if_neg (by rw[abA];exact hi)]
def qf(T:List bx):List gg->XS->(XS->Option R)->Option R
 |[],s,K=>K s
 |o::r,s,K=>match o.ro.guard with
  |none=>Cq T s o fun s'=>qf T r s' K
  |some (t,want)=>match aV s.env t with
   |.d .b c=>match want with
    |true=>bk c (Cq T (pY s t true) o fun s'=>qf T r s' K) (qf T r ((pY s t false).put o.ro.dst .un [] []) K)
    |false=>bk c (qf T r ((pY s t true).put o.ro.dst .un [] []) K) (Cq T (pY s t false) o fun s'=>qf T r s' K)
   |.un=>qf T r (s.put o.ro.dst .un [] []) K
   |_=>none
theorem lW[YL]{P:Program}{T:List bx}(hT:lA P T){r:R}:∀{os:List gg} {s:XS} {K:XS->Option R},qf T os s K=some r->∀{KP:aq->Prop},(∀s',K s'=some r->KP s'.er)->lU P (os.map gg.ro) s.er KP
 |[],s,K,h,KP,hK=>hK _ h
 |o::os,s,K,h,KP,hK=>by
  unfold qf at h;show lU P (o.ro::os.map gg.ro) s.er KP;unfold lU;split at h
  ·rename_i hg;rw[hg];exact G8 hT h fun s' h=>lW hT h hK
  ·rename_i t want hg;rw[hg];split at h
   ·rename_i c hc;have ht:s.er.env t=.D (.B c):=by show(aV s.env t).er=_;rw[hc];rfl
    show match s.er.env t with
     |.D (.B c)=>(c=want->_)/\(¬c=want->_)
     |.D (.C (.tuple _))=>_
     |_=>False
    rw[ht];split at h
    ·rcases vn h with⟨e,h⟩|⟨e,h⟩
     ·have:=G8 hT h (KP:=fun s'=>lU P (os.map gg.ro) s' KP) fun s' h=>lW hT h hK;rw[kW hc e]at this;exact⟨fun _=>this,fun h=>absurd e h⟩
     ·have:=lW hT h hK;rw[eV,kW hc e]at this;exact⟨fun h=>aaS (e.symm.trans h),fun _=>this⟩
    ·rcases vn h with⟨e,h⟩|⟨e,h⟩
     ·have:=lW hT h hK;rw[eV,kW hc e]at this;exact⟨fun h=>aaS (e.symm.trans h),fun _=>this⟩
     ·have:=G8 hT h (KP:=fun s'=>lU P (os.map gg.ro) s' KP) fun s' h=>lW hT h hK;rw[kW hc e]at this;exact⟨fun _=>this,fun h=>absurd e h⟩
   ·rename_i hc;have ht:s.er.env t=.D (.C undef):=by show(aV s.env t).er=_;rw[hc];rfl
    have:=lW hT h hK;rw[eV]at this;show match s.er.env t with
     |.D (.B c)=>(c=want->_)/\(¬c=want->_)
     |.D (.C (.tuple _))=>_
     |_=>False
    rw[ht];exact this
   ·cases h
def DX:Option XB->Option XB->Bool
 |some (.arr _ n _ _),some (.arr _ m _ _)=>aae n m
 |some (.rb _ t _),some (.rb _ t' _)=>t.beq t'
 |_,_=>false
theorem bJa[YL]{c:Option XB}(h:DX b c=true):ee false (b.map XB.er) (c.map XB.er):=by
 unfold DX at h;split at h
 ·rename_i mt n k x mt' m k' y;have h:=θ h;subst h;show qa (some (bp.row mt' 1 (y.l.map (iq k'))))=qa (some (bp.row mt 1 (x.l.map (iq k))));unfold qa;simp only[κ,x.len,y.len]
 ·rename_i mt t x mt' t' y;obtain rfl:=Ty.fm h;show qa (some (bp.row mt' 1 (ja (t.ds y))))=qa (some (bp.row mt 1 (ja (t.ds x))));unfold qa;simp only[AF,Ty.fo]
 ·cases h
def DZ(s s':XS):List Hd->Bool
 |[]=>true
 |h::r=>DX (s.lk h) (s'.lk h)&&DZ s s' r
theorem OC[YL]{s s':XS}:∀{hs:List Hd},DZ s s' hs=true->AQ false hs s.er s'.er
 |[],_=>fun _ h=>by cases h
 |h::r,e=>by
  have e:(DX (s.lk h) (s'.lk h)&&DZ s s' r)=true:=e;rw[μ]at e;intro x hx;rcases υ.1 hx with rfl|hx
  ·rw[aU,aU];exact bJa e.1
  ·exact OC e.2 x hx
def ur:XV->Option Hd
 |.apt h _=>some h
 |.asl h _ _=>some h
 |.rpt h _=>some h
 |.rpa h _ _=>some h
 |.rsl h _ _ _=>some h
 |.ptr h _=>some h
 |.pa h _ _=>some h
 |.ept h _ _ _=>some h
 |.epa h _ _ _ _=>some h
 |.slw h _ _=>some h
 |.sl h _ _ _=>some h
 |_=>none
theorem Bq[YL](e:ur v=some h):v.er.o9=some h:=by unfold ur at e;split at e<;>first|exact e|cases e
def FI(hs:List Hd)(s:XS)(op:cd):Bool:=match op.nf with
 |none=>true
 |some x=>match ur (s.ev x)with
  |some h=>gw h hs
  |none=>C0 x
theorem XA[YL](e:ur v=none):v.er.o9=none:=by
 cases v<;>first|rfl|(cases e;done)|skip
 rename_i t x;cases t<;>rfl
theorem Hm[YL]{op:cd}(h:FI hs s op=true):Bv hs op s.er.ev:=by
 unfold FI at h;unfold Bv;split at h
 ·rename_i e;rw[e];trivial
 ·rename_i x e;rw[e];split at h
  ·rename_i hd hx;intro h' e';rw[v8 s rfl,Bq hx]at e';cases e';exact wD.1 h
  ·rename_i hx;intro h' e';rw[v8 s rfl,XA hx]at e';cases e'
def Ez(s:XS)(x:Operand)(K:List Hd):List Hd:=match ur (s.ev x)with
 |some h=>match gw h K with
  |true=>K
  |false=>h::K
 |none=>K
def FU:List XV->Nat->Option XV
 |[],_=>none
 |v::_,0=>some v
 |.d t _::r,off+1=>match ade t.n (off+1)with
  |true=>FU r (off+1-t.n)
  |false=>none
 |_::r,off+1=>FU r off
def ldP(s:XS)(ag:Option Nat)(dst:Option Nat)(x:Operand):XS:=match ag,s.ev x with
 |none,.ptr h off=>match s.lk h with
  |some (.box cs)=>match FU cs off with
   |some v=>s.put dst v [] []
   |none=>s
  |_=>s
 |_,_=>s
def zB(s:XS):List gg->List Hd
 |[]=>[]
 |o::r=>match o.ro.op with
  |.mv x=>zB (s.put o.ro.dst (s.ev x) [] []) r
  |.nilcS x=>Ez s x (zB (s.put o.ro.dst (s.ev x) [] []) r)
  |.loadS ag x=>Ez s x (zB (ldP s ag o.ro.dst x) r)
  |.faddrS _ x=>Ez s x (zB (s.put o.ro.dst (s.ev x) [] []) r)
  |.iaddr _ x _=>zB (s.put o.ro.dst (s.ev x) [] []) r
  |.faddr _ x=>zB (s.put o.ro.dst (s.ev x) [] []) r
  |.iaddrA _ _ x _=>zB (s.put o.ro.dst (s.ev x) [] []) r
  |op=>match op.nf with
   |some x=>Ez s x (zB s r)
   |none=>zB s r
def DH(v w:XV)(K:Option R):Option R:=match v,w with
 |.d t x,.d t' y=>match t'.j8 t y with
  |some y=>bb (x=y) K
  |none=>none
 |.slw h t n,.slw h' t' n'=>match h.kq h',t.beq t' with
  |true,true=>bb (n=n') K
  |_,_=>none
 |.ptr h o,.ptr h' o'=>match h.kq h',aae o o' with
  |true,true=>K
  |_,_=>none
 |.apt h o,.apt h' o'=>match h.kq h',aae o o' with
  |true,true=>K
  |_,_=>none
 |.rpt h o,.rpt h' o'=>match h.kq h',aae o o' with
  |true,true=>K
  |_,_=>none
 |.mref h,.mref h'=>match h.kq h' with
  |true=>K
  |false=>none
 |.fln _,.fln _=>K
 |.nl _,.nl _=>K
 |.sc,.sc=>K
 |.c x,.c y=>match BI x y with
  |true=>K
  |false=>none
 |_,_=>none
theorem OU[YL]{w:XV}{K:Option R}{r:R}(h:DH v w K=some r):(v.fc=w.fc/\v.er=w.er)/\K=some r:=by
 unfold DH at h;split at h
 ·split at h
  ·rename_i y hy;obtain⟨e,rfl⟩:=Ty.ct hy;subst e;obtain⟨rfl,h⟩:=bD h;exact⟨⟨rfl,rfl⟩,by assumption⟩
  ·cases h
 ·split at h
  ·rename_i h1 h2;obtain rfl:=Hd.du.1 h1;obtain rfl:=Ty.fm h2
   replace h:=bD h
   obtain⟨e,h⟩:=h;subst e;exact⟨⟨rfl,rfl⟩,h⟩
  ·cases h
 ·split at h
  ·rename_i h1 h2;obtain rfl:=Hd.du.1 h1;obtain rfl:=θ h2;exact⟨⟨rfl,rfl⟩,h⟩
  ·cases h
 ·split at h
  ·rename_i h1 h2;obtain rfl:=Hd.du.1 h1;obtain rfl:=θ h2;exact⟨⟨rfl,rfl⟩,h⟩
  ·cases h
 ·split at h
  ·rename_i h1 h2;obtain rfl:=Hd.du.1 h1;obtain rfl:=θ h2;exact⟨⟨rfl,rfl⟩,h⟩
  ·cases h
 ·split at h
  ·rename_i h1;obtain rfl:=Hd.du.1 h1;exact⟨⟨rfl,rfl⟩,h⟩
  ·cases h
 ·exact⟨⟨rfl,rfl⟩,h⟩
 ·exact⟨⟨rfl,rfl⟩,h⟩
 ·exact⟨⟨rfl,rfl⟩,h⟩
 ·split at h
  ·rename_i h1;obtain rfl:=LZ h1;exact⟨⟨rfl,rfl⟩,h⟩
  ·cases h
 ·cases h
def Dt:List XV->List XV->Option R->Option R
 |[],[],K=>K
 |v::vs,w::ws,K=>DH v w (Dt vs ws K)
 |_,_,_=>none
theorem Ri[YL]{r:R}:∀{vs ws:List XV} {K:Option R},Dt vs ws K=some r->XV.de vs=XV.de ws/\K=some r
 |[],[],_,h=>⟨rfl,h⟩
 |v::vs,w::ws,K,h=>by
  obtain⟨⟨_,e⟩,h⟩:=OU (K:=Dt vs ws K) h;obtain⟨e2,h⟩:=Ri h;exact⟨by show v.er::XV.de vs=w.er::XV.de ws;rw[e,e2],h⟩
 |[],_::_,_,h=>by cases h
 |_::_,[],_,h=>by cases h
def Hy(v w:XV)(K:Option R):Option R:=match v,w with
 |.clo f vs,.clo f' ws=>match aae f f' with
  |true=>Dt vs ws K
  |false=>none
 |v,w=>DH v w K
theorem V4[YL]{w:XV}{K:Option R}{r:R}(h:Hy v w K=some r):v.fc=w.fc/\K=some r:=by
 unfold Hy at h;split at h
 ·split at h
  ·rename_i hf;obtain rfl:=θ hf;obtain⟨e,h⟩:=Ri h;exact⟨by show[AV.clo _ (XV.de _)]=[AV.clo _ (XV.de _)];rw[e],h⟩
  ·cases h
 ·obtain⟨⟨e,_⟩,h⟩:=OU h;exact⟨e,h⟩
def DY:List XV->List XV->Option R->Option R
 |[],[],K=>K
 |v::vs,w::ws,K=>Hy v w (DY vs ws K)
 |_,_,_=>none
theorem OY[YL]{r:R}:∀{vs ws:List XV} {K:Option R},DY vs ws K=some r->XV.cf vs=XV.cf ws/\K=some r
 |[],[],_,h=>⟨rfl,h⟩
 |v::vs,w::ws,K,h=>by
  obtain⟨e,h⟩:=V4 (K:=DY vs ws K) h;obtain⟨e2,h⟩:=OY h;exact⟨by show v.fc++XV.cf vs=w.fc++XV.cf ws;rw[e,e2],h⟩
 |[],_::_,_,h=>by cases h
 |_::_,[],_,h=>by cases h
def Gs(b c:Option XB)(K:Option R):Option R:=match b,c with
 |some (.box vs),some (.box ws)=>DY vs ws K
 |some (.row mt t xs),some (.row mt' t' ys)=>match mt==mt',(Ty.sl t').j8 (.sl t) ys with
  |true,some ys=>bb (xs=ys) K
  |_,_=>none
 |some (.arr mt n k x),some (.arr mt' n' k' y)=>match mt==mt',(Ty.ar n' k').j8 (.ar n k) y with
  |true,some y=>bb (x=y) K
  |_,_=>none
 |some (.rb mt t x),some (.rb mt' t' y)=>match mt==mt',t'.j8 t y with
  |true,some y=>bb (x=y) K
  |_,_=>none
 |_,_=>none
theorem Xe[YL]{c:Option XB}{K:Option R}{r:R}(h:Gs b c K=some r):b.map XB.er=c.map XB.er/\K=some r:=by
 unfold Gs at h;split at h
 ·obtain⟨e,h⟩:=OY h;exact⟨congrArg (fun l=>some (bp.box l)) e,h⟩
 ·split at h
  ·rename_i ys h1 hy;obtain⟨e,hy⟩:=Ty.ct hy;cases e;cases hy
   replace h:=bD h
   obtain⟨e,h⟩:=h;cases e;exact⟨by rw[eq_of_beq h1],h⟩
  ·cases h
 ·split at h
  ·rename_i y h1 hy;obtain⟨e,hy⟩:=Ty.ct hy;cases e;cases hy
   replace h:=bD h
   obtain⟨e,h⟩:=h;cases e;exact⟨by rw[eq_of_beq h1],h⟩
  ·cases h
 ·split at h
  ·rename_i y h1 hy;obtain⟨e,hy⟩:=Ty.ct hy;subst e;cases hy
   replace h:=bD h
   obtain⟨e,h⟩:=h;cases e;exact⟨by rw[eq_of_beq h1],h⟩
  ·cases h
 ·cases h
def E0(s s':XS):List Hd->Option R->Option R
 |[],K=>K
 |h::r,K=>Gs (s.lk h) (s'.lk h) (E0 s s' r K)
theorem N9[YL]{s s':XS}{r:R}:∀{hs:List Hd} {K:Option R},E0 s s' hs K=some r->AQ true hs s.er s'.er/\K=some r
 |[],_,h=>⟨fun _ h=>(by cases h),h⟩
 |x::hs,K,h=>by
  obtain⟨e,h⟩:=Xe (K:=E0 s s' hs K) h;obtain⟨e2,h⟩:=N9 h;refine⟨fun y hy=>?_,h⟩;rcases υ.1 hy with rfl|hy
  ·show s'.er.lk y=s.er.lk y;rw[aU,aU,e]
  ·exact e2 y hy
def Ju(ld:Bool)(s s':XS)(hs:List Hd)(K:Option R):Option R:=match ld with
 |true=>E0 s s' hs K
 |false=>match DZ s s' hs with
  |true=>K
  |false=>none
theorem bD2[YL]{ld:Bool}{K:Option R}{r:R}(h:Ju ld s s' hs K=some r):AQ ld hs s.er s'.er/\K=some r:=by
 unfold Ju at h;split at h
 ·exact N9 h
 ·split at h
  ·rename_i e;exact⟨OC e,h⟩
  ·cases h
def BT(s:XS)(o:gg)(K:XS->Option R):Option R:=match o.ro.op with
 |.loadS ag x=>w1 s x fun v=>match ur v with
  |some _=>EN s ag (fun a=>K (s.put o.ro.dst a [] [])) v
  |none=>none
 |.faddrS off x=>w1 s x fun v=>match ur v,xX s v with
  |some _,true=>Da off (fun a=>K (s.put o.ro.dst a [] [])) v
  |_,_=>none
 |.lenS str x=>w1 s x fun v=>match ur v,xX s v,z6 str v with
  |some _,true,some m=>K (s.put o.ro.dst (.d (.i .i64) (m:Int)) [] [])
  |_,_,_=>none
 |.nilcS x=>w1 s x fun v=>match ur v,xX s v with
  |some _,true=>Fu (fun a=>K (s.put o.ro.dst a [] [])) v
  |_,_=>none
 |_=>none
theorem Fw(s:XS)(dst:Option Nat)(v:XV)(h:Hd):(s.put dst v [] []).lk h=s.lk h:=by
 cases h with
 |B i=>rfl
 |O i=>show bP (s.own++[]) i=bP s.own i;rw[aac]
theorem FN[YL]{o:gg}{K:XS->Option R}{r:R}(h:BT s o K=some r)(hK:∀s',(∀h,s'.lk h=s.lk h)->K s'=some r->KP s'.er):qI P s.er o.ro KP:=by
 have hput:∀v,K (s.put o.ro.dst v [] [])=some r->KP (s.er.put o.ro.dst v.er [] []):=fun v h=>by have:=hK _ (Fw s _ v) h;rw[eV]at this;exact this
 unfold BT at h;split at h
 ·rename_i ag x e;obtain⟨h,e1⟩:=aP h;split at h
  ·rename_i hd hh;unfold qI;rw[e];show(s.er.ev x).o9.isSome=true/\pS s.er.lk ag _ (s.er.ev x);rw[e1,Bq hh];exact⟨rfl,Gf h fun v h=>hput v h⟩
  ·cases h
 ·rename_i off x e;obtain⟨h,e1⟩:=aP h;split at h
  ·rename_i hd hh hl;unfold qI;rw[e];show(s.er.ev x).o9.isSome=true/\AV.live s.er.lk (s.er.ev x)=true/\_;rw[e1,Bq hh];exact⟨rfl,kD hl,Ki h (KP:=fun a=>KP (s.er.put o.ro.dst a [] [])) fun v h=>hput v h⟩
  ·cases h
 ·rename_i str x e;obtain⟨h,e1⟩:=aP h;split at h
  ·rename_i hd m hh hl hm;unfold qI;rw[e];show(s.er.ev x).o9.isSome=true/\AV.live s.er.lk (s.er.ev x)=true/\_;rw[e1,Bq hh];exact⟨rfl,kD hl,m,HP hm,hput _ h⟩
  ·cases h
 ·rename_i x e;obtain⟨h,e1⟩:=aP h;split at h
  ·rename_i hd hh hl;unfold qI;rw[e];show(s.er.ev x).o9.isSome=true/\AV.live s.er.lk (s.er.ev x)=true/\_;rw[e1,Bq hh];exact⟨rfl,kD hl,Rp h (KP:=fun a=>KP (s.er.put o.ro.dst a [] [])) fun v h=>hput v h⟩
  ·cases h
 ·cases h
def I6(s:XS)(o:gg)(K:XS->Option R):Option R:=match o.ro.guard with
 |none=>BT s o K
 |some (t,want)=>match aV s.env t with
  |.d .b c=>match want with
   |true=>bk c (BT (pY s t true) o K) (K ((pY s t false).put o.ro.dst .un [] []))
   |false=>bk c (K ((pY s t true).put o.ro.dst .un [] [])) (BT (pY s t false) o K)
  |.un=>K (s.put o.ro.dst .un [] [])
  |_=>none
theorem bCt[YL]{o:gg}{K:XS->Option R}{r:R}(h:I6 s o K=some r)(hK:∀s',(∀h,s'.lk h=s.lk h)->K s'=some r->KP s'.er):lU P [o.ro] s.er KP:=by
 unfold I6 at h;unfold lU;split at h
 ·rename_i hg;rw[hg];exact FN h hK
 ·rename_i t want hg;rw[hg];split at h
  ·rename_i c hc;have ht:s.er.env t=.D (.B c):=by show(aV s.env t).er=_;rw[hc];rfl
   show match s.er.env t with
    |.D (.B c)=>(c=want->_)/\(¬c=want->_)
    |.D (.C (.tuple _))=>_
    |_=>False
   rw[ht];split at h
   ·rcases vn h with⟨e,h⟩|⟨e,h⟩
    ·have:=FN (P:=P) h fun s' e=>hK s' e;rw[kW hc e]at this;exact⟨fun _=>this,fun h=>absurd e h⟩
    ·have:=hK _ (fun x=>Fw (pY s t false) _ _ x) h;rw[eV,kW hc e]at this;exact⟨fun h=>aaS (e.symm.trans h),fun _=>this⟩
   ·rcases vn h with⟨e,h⟩|⟨e,h⟩
    ·have:=hK _ (fun x=>Fw (pY s t true) _ _ x) h;rw[eV,kW hc e]at this;exact⟨fun h=>aaS (e.symm.trans h),fun _=>this⟩
    ·have:=FN (P:=P) h fun s' e=>hK s' e;rw[kW hc e]at this;exact⟨fun _=>this,fun h=>absurd e h⟩
  ·rename_i hc;have ht:s.er.env t=.D (.C undef):=by show(aV s.env t).er=_;rw[hc];rfl
   show match s.er.env t with
    |.D (.B c)=>(c=want->_)/\(¬c=want->_)
    |.D (.C (.tuple _))=>_
    |_=>False
   rw[ht];have:=hK _ (fun x=>Fw s _ _ x) h;rw[eV]at this;exact this
  ·cases h
def bRh:cd->Bool
 |.loadS _ _=>true
 |.faddrS _ _=>true
 |.nilcS _=>true
 |.lenS _ _=>true
 |_=>false
def C5:Bool->List gg->Bool
 |true,[]=>true
 |_,_=>false
theorem Sm{l:Bool}{os:List gg}(h:C5 l os=true):¬(l=false\/os.map gg.ro≠[]):=by
 unfold C5 at h;split at h
 ·simp
 ·cases h
def AO(T:List bx)(ld:Bool)(hs:List Hd)(lst:Bool):List gg->XS->(XS->Option R)->Option R
 |[],s,K=>K s
 |o::r,s,K=>match FI hs s o.ro.op with
  |true=>match bRh o.ro.op with
   |true=>I6 s o fun s'=>AO T ld hs lst r s' K
   |false=>match o.ro.op.ht,C5 lst r with
    |true,false=>qf T [o] s fun s'=>Ju ld s s' hs (AO T ld hs lst r s' K)
    |_,_=>qf T [o] s fun s'=>AO T ld hs lst r s' K
  |false=>none
theorem Fm[YL]{P:Program}{T:List bx}(hT:lA P T){ld:Bool}{hs:List Hd}{lst:Bool}{r:R}:∀{os:List gg} {s:XS} {K:XS->Option R},AO T ld hs lst os s K=some r->∀{KP:aq->Prop},(∀s',K s'=some r->KP s'.er)->E6 P ld hs lst (os.map gg.ro) s.er KP
 |[],s,K,h,KP,hK=>hK _ h
 |o::os,s,K,h,KP,hK=>by
  unfold AO at h;split at h
  ·rename_i e;split at h
   ·refine⟨Hm e,bCt h fun s' e2 h=>⟨fun _ _ x hx=>?_,Fm hT h hK⟩⟩;rw[aU,aU,e2];exact ee.refl _ _
   ·split at h
    ·refine⟨Hm e,lW (os:=[o]) hT h fun s' h=>?_⟩;obtain⟨e2,h⟩:=bD2 h;exact⟨fun _ _=>e2,Fm hT h hK⟩
    ·rename_i hn;refine⟨Hm e,lW (os:=[o]) hT h fun s' h=>⟨fun e1 e2=>?_,Fm hT h hK⟩⟩;cases e3:C5 lst os with
     |true=>exact absurd e2 (Sm e3)
     |false=>exact absurd e3 (hn e1)
  ·cases h
theorem AV.rm{ψ:Hd->Hd}:∀(a:AV),AV.flat (AV.cm ψ a)=AV.flat a:=by
 intro a;apply AV.rec (motive_1:=fun a=>AV.flat (AV.cm ψ a)=AV.flat a) (motive_2:=fun as=>AV.dm (AV.dj ψ as)=AV.dm as)
 all_goals intros
 all_goals simp_all[AV.flat,AV.cm,AV.dm,AV.dj]
def zb(T:List bx)(dr:Bool):List gg->XS->(XS->Option R)->(Value->XS->Option R)->Option R
 |[],s,K,_=>K s
 |o::r,s,K,Kp=>match o.ro.op with
  |.callP f args=>match o.ro.guard with
   |none=>w1 s f fun vf=>wL s args fun vs=>HW T s vs (fun v nbs fz=>match dr,x7 v,nbs with
    |false,_,_=>zb T dr r (s.put o.ro.dst v nbs fz) K Kp
    |true,true,[]=>zb T dr r (s.put o.ro.dst v nbs fz) K Kp
    |true,_,_=>none) (fun pv=>Kp pv (s.put none .any [] [])) vf
   |some _=>none
  |.px x=>match o.ro.guard with
   |none=>w1 s x fun v=>match v with
    |.c (.iface t u)=>Kp (.iface t u) s
    |_=>none
   |some _=>none
  |_=>qf T [o] s fun s'=>zb T dr r s' K Kp
theorem yV[YL]{P:Program}{T:List bx}(hT:lA P T){dr:Bool}{r:R}{Pn:Value->aq->Prop}:∀{os:List gg} {s:XS} {K:XS->Option R} {Kp:Value->XS->Option R},zb T dr os s K Kp=some r->∀{KP:aq->Prop},(∀s',K s'=some r->KP s'.er)->(∀pv s',Kp pv s'=some r->Pn pv s'.er)->sK P dr (os.map gg.ro) s.er KP Pn
 |[],s,K,_,h,KP,hK,_=>hK _ h
 |o::os,s,K,Kp,h,KP,hK,hP=>by
  unfold zb at h;show sK P dr (o.ro::os.map gg.ro) s.er KP Pn;unfold sK;split at h
  ·rename_i f args e;rw[e];split at h
   ·rename_i hg;refine⟨hg,?_⟩;obtain⟨h,e1⟩:=aP h;obtain⟨vs,h,e2⟩:=zq h;obtain⟨fn,caps,h1,h2⟩:=WJ hT h (KP:=fun a nbs fz=>(dr=true->AV.flat a=true/\nbs=[])/\sK P dr (os.map gg.ro) (s.er.put o.ro.dst a nbs fz) KP Pn) fun v nbs fz h=>by
     rw[<-eV];split at h
     ·exact⟨fun h=>aaS h,yV hT h hK hP⟩
     ·exact⟨fun _=>⟨(Jr v).trans (by assumption),rfl⟩,yV hT h hK hP⟩
     ·cases h
    refine⟨fn,caps,e1.trans h1,?_⟩;rw[e2];rcases h2 with⟨rr,nbs,h2,h3,h4⟩|⟨pv,h2,h3⟩
    ·exact .inl ⟨rr,nbs,fun hd=>by
      obtain⟨a1,a2⟩:=h3 hd;rw[AV.rm]at a1;exact⟨a1,abR.1 a2⟩,h2,h4⟩
    ·refine .inr ⟨pv,h2,?_⟩;have:=hP _ _ h3;rw[eV]at this;exact this
   ·cases h
  ·rename_i x e;rw[e];split at h
   ·rename_i hg;refine⟨hg,?_⟩;obtain⟨h,e1⟩:=aP h;split at h
    ·rename_i t u hv;rw[hv]at e1;exact⟨t,u,e1,hP _ _ h⟩
    ·cases h
   ·cases h
  ·rename_i n1 n2;split
   ·rename_i f args e;exact absurd e (n1 f args)
   ·rename_i x e;exact absurd e (n2 x)
   ·exact lW (os:=[o]) hT h fun s' h=>yV hT h hK hP
def Ey:List gg->XS->XS
 |[],s=>s
 |o::os,s=>Ey os (s.put o.ro.dst .any [] [])
theorem Mz[YL]:∀(os:List gg) (s:XS),(Ey os s).er=ue (os.map gg.ro) s.er
 |[],_=>rfl
 |o::os,s=>by show(Ey os _).er=ue (os.map gg.ro) (s.er.put o.ro.dst .any [] []);rw[Mz os,eV];rfl
end
section
variable{R:Type}
end
section
variable{R:Type}
instance ph:(ts:List Ty)->DecidableEq (se ts)
 |[]=>inferInstanceAs (DecidableEq Unit)
 |[t]=>t.xw
 |t::t2::ts=>@instDecidableEqProd _ _ t.xw (ph (t2::ts))
instance CH:(l:List XS)->DecidableEq (RT l)
 |[]=>inferInstanceAs (DecidableEq Unit)
 |[m]=>ph m.cn
 |m::m2::l=>@instDecidableEqSum _ _ (ph m.cn) (CH (m2::l))
inductive XC where
 |skip
 |reg (dr:Bool) (os:List gg)
 |regS (lst:Bool) (os:List gg)
 |regP (os:List gg)
 |regDP (os:List gg)
 |regN (os:List gg)
 |regM (os:List gg) (x:MA)
 |seq (a b:XC)
 |join (pure:Bool) (m:XS) (a b:XC)
 |cond (c:Operand) (a b:XC)
 |block (id:Nat) (b:XC)
 |loop (m:XS) (b:XC)
 |exit (id:Nat)
 |scope (b:XC)
 |ret
 |regY (os:List gg)
 |rangeF (N0:Nat) (g:Operand) (ps:Array Tmp) (ca cb:Code) (f N2:Nat) (a b it:XC)
 |bad (rc:bq)
def XC.rc:XC->bq
 |.skip=>.skip
 |.reg dr os=>.reg dr (os.map gg.ro)
 |.regS lst os=>.regS lst (os.map gg.ro)
 |.regP os=>.regP (os.map gg.ro)
 |.regDP os=>.regDP (os.map gg.ro)
 |.regN os=>.regN (os.map gg.ro)
 |.regM os x=>.regM (os.map gg.ro) x
 |.seq a b=>.seq a.rc (.wkr b.rc)
 |.join _ _ a b=>.seq a.rc (.wkr b.rc)
 |.cond c a b=>.cond c a.rc b.rc
 |.block id b=>.block id b.rc
 |.loop _ b=>.loop b.rc
 |.exit id=>.exit id
 |.scope b=>.scope b.rc
 |.ret=>.ret
 |.regY os=>.regY (os.map gg.ro)
 |.rangeF N0 g ps ca cb _ _ _ _ _=>.xe N0 (.rangeFunc g ps ca cb)
 |.bad rc=>rc
def XC.Wf(P:Program):XC->Prop
 |.seq a b=>a.Wf P/\b.Wf P
 |.join _ _ a b=>a.Wf P/\b.Wf P
 |.cond _ a b=>a.Wf P/\b.Wf P
 |.block _ b=>b.Wf P
 |.loop _ b=>b.Wf P
 |.scope b=>b.Wf P
 | .rangeF N0 g _ ca cb f N2 a b it => (∃ fl flB fn c2, P.funcs[f]? = some fn /\ fn.body = some c2 /\ (fn.name == "runtime.NumGoroutine") = false /\ P.follows .mixedOrders = true /\ aH P fl N2 c2 = some it.rc /\ aH P flB N0 ca = some a.rc /\ aH P flB N0 cb = some b.rc /\
   fn.results=#[]/\g.m9 N0=true/\fn.ntmps=N2)/\a.Wf P/\b.Wf P/\it.Wf P
 |_=>True
def Ak(f:XS->Option R)(K:Exit->XS->Option R):Exit->XS->Option R
 |.normal,s=>f s
 |e,s=>K e s
def H6(id:Nat)(K:Exit->XS->Option R):Exit->XS->Option R
 |.exit i,s=>match aae i id with
  |true=>K .normal s
  |false=>K (.exit i) s
 |e,s=>K e s
def QX(K:Exit->XS->Option R):Exit->XS->Option R
 |.goto _,_=>none
 |e,s=>K e s
def zJ{α β:Type}(a:Option β):Option (β⊕α):=match a with
 |some r=>some (.inl r)
 |none=>none
def sn{α β:Type}(a:Option (β⊕α))(f:α->Option β):Option β:=match a with
 |some (.inl r)=>some r
 |some (.inr x)=>f x
 |none=>none
theorem OH{β:Type}{a:Option β}{r:β⊕α}(h:zJ a=some r):∃x,a=some x/\r=.inl x:=by
 unfold zJ at h;split at h
 ·cases h;exact⟨_,rfl,rfl⟩
 ·cases h
theorem Xt{β:Type}{a:Option (β⊕α)}{f:α->Option β}{r:β}(h:sn a f=some r):a=some (.inl r)\/∃x,a=some (.inr x)/\f x=some r:=by
 unfold sn at h;split at h
 ·cases h;exact .inl rfl
 ·exact .inr ⟨_,rfl,h⟩
 ·cases h
def Mr(m:XS)(K:Exit->XS->Option R):Exit->XS->Option (R⊕se m.cn)
 |.normal,s=>rd m s fun v=>some (.inr (mu m.cn v))
 |e,s=>zJ (K e s)
def NQ(m:XS):Exit->XS->Option (se m.cn)
 |.normal,s=>rd m s fun v=>some (mu m.cn v)
 |_,_=>none
def Jl(s:XS)(c:Operand)(q:Bool):XS:=match c with
 |.tmp t=>pY s t q
 |_=>s
def aN(ts:List Ty)(f:ku ts R->ku ts R):Nat->ku ts R
 |0=>cuN ts
 |n+1=>f (aN ts f n)
where cuN (ts:List Ty):ku ts R:=k8 ts fun _=>none
theorem RM(ts:List Ty)(v:cr ts):jh ts (aN.cuN (R:=R) ts) v=none:=by show jh ts (k8 ts _) v=none;rw[fK]
structure YX where
 plain:Bool
 f:{R:Type}->[DecidableEq R]->List XV->XS->(Bool->XS->Option R)->Option R
def He:YX:=⟨true,fun _ _ _=>none⟩
def pO:YX:=⟨false,fun _ _ _=>none⟩
def CA(s:XS)(o:gg):Option (List XV):=match o.ro.op with
 |.callE f args=>match s.ev f with
  |.yld=>some (args.map s.ev)
  |_=>none
 |_=>none
def xM[DecidableEq R](T:List bx)(Y:YX):List gg->XS->(XS->Option R)->Option R
 |[],s,K=>K s
 |o::r,s,K=>match CA s o with
  |none=>qf T [o] s fun s'=>xM T Y r s' K
  |some args=>match o.ro.guard with
   |none=>Y.f args s fun c s'=>xM T Y r (s'.put o.ro.dst (.d .b c) [] []) K
   |some (t,want)=>match aV s.env t with
    |.d .b x=>match want with
     |true=>bk x (Y.f args s fun c s'=>xM T Y r (s'.put o.ro.dst (.d .b c) [] []) K) (xM T Y r (s.put o.ro.dst .un [] []) K)
     |false=>bk x (xM T Y r (s.put o.ro.dst .un [] []) K) (Y.f args s fun c s'=>xM T Y r (s'.put o.ro.dst (.d .b c) [] []) K)
    |.un=>xM T Y r (s.put o.ro.dst .un [] []) K
    |_=>none
mutual
def XV.nj:XV->Bool
 |.yld=>false
 |.agg cs=>XV.mf cs
 |.cr cs=>XV.mf cs
 |.clo _ cs=>XV.mf cs
 |_=>true
def XV.mf:List XV->Bool
 |[]=>true
 |v::r=>v.nj&&XV.mf r
end
def XB.nj:XB->Bool
 |.box cs=>XV.mf cs
 |_=>true
def Ds:List (Nat×XV)->Bool
 |[]=>true
 |(_,v)::r=>v.nj&&Ds r
def zf:List (Option XB)->Bool
 |[]=>true
 |none::r=>zf r
 |some b::r=>b.nj&&zf r
def XS.nj(s:XS):Bool:=Ds s.env&&zf s.bs&&zf s.own
def A8(n:Nat):List (Nat×XV)->List (Nat×XV)
 |[]=>[]
 |(k,v)::r=>(n+k,v)::A8 n r
def sj(n:Nat):List (Nat×XV)->List (Nat×XV)
 |[]=>[]
 |(k,v)::r=>match ade n k with
  |true=>(k-n,v)::sj n r
  |false=>sj n r
def nk(n:Nat):List (Nat×XV)->List (Nat×XV)
 |[]=>[]
 |(k,v)::r=>match ado k n with
  |true=>(k,v)::nk n r
  |false=>nk n r
def wv(n:Nat):List (Nat×XV)->List (Nat×XV)
 |[]=>[]
 |(k,v)::r=>match aae k n with
  |true=>wv n r
  |false=>(k,v)::wv n r
def AD:Nat->Nat->List XV->List (Nat×XV)
 |_,0,_=>[]
 |k,n+1,[]=>(k,.un)::AD (k+1) n []
 |k,n+1,v::vs=>(k,v)::AD (k+1) n vs
def Dm:List Nat->List XV->List (Nat×XV)->List (Nat×XV)
 |p::ps,x::xs,l=>Dm ps xs ((p,x)::l)
 |_,_,l=>l
def GU(N2:Nat)(caps:List XV)(s:XS):XS:={s with env:=AD 0 N2 (.yld::caps)++(N2,.gst .go)::A8 (N2+1) s.env}
def Cf(N0 N2:Nat)(s:XS):XS:={s with env:=wv N0 (sj (N2+1) s.env)}
def Kf(N0 N2:Nat)(ps:List Nat)(args:List XV)(s:XS):XS:={s with env:=nk N0 (Dm ps args (sj (N2+1) s.env))++A8 (N0+1) s.env}
def vZ(N0 N2:Nat)(c:GX)(s:XS):XS:={s with env:=(N2,.gst c)::sj (N0+1) s.env}
def bTi(f:XS->Option R):Exit->XS->Option R
 |.normal,s=>f s
 |_,_=>none
def Mo(N0 N2:Nat)(K:Bool->XS->Option R):Exit->XS->Option R
 |.normal,s=>K true (vZ N0 N2 .go s)
 |.exit id,s=>K false (vZ N0 N2 (.exit id) s)
 |.ret,s=>K false (vZ N0 N2 .ret s)
 |_,_=>none
def Fi(N0 N2:Nat)(K:Exit->XS->Option R)(s:XS):Option R:=match(Cf N0 N2 s).nj,aV s.env N2 with
 |true,.gst .go=>K .normal (Cf N0 N2 s)
 |true,.gst (.exit id)=>K (.exit id) (Cf N0 N2 s)
 |true,.gst .ret=>K .ret (Cf N0 N2 s)
 |_,_=>none
def kIt(N0 N2:Nat)(K:Exit->XS->Option R):Exit->XS->Option R
 |.normal,s=>Fi N0 N2 K s
 |.ret,s=>Fi N0 N2 K s
 |_,_=>none
def fT(N:Nat)(T:List bx):XC->YX->{R:Type}->[DecidableEq R]->XS->(Exit->XS->Option R)->Option R
 |.skip,_,_,_,s,K=>K .normal s
 |.reg _ os,_,_,_,s,K=>qf T os s (K .normal)
 |.regP os,_,_,_,s,K=>zb T false os s (K .normal) fun v s'=>K (.panic [{v:=v,recovered:=false}]) s'
 |.regDP os,_,_,_,s,K=>zb T true os s (K .normal) fun v s'=>K (.panic [{v:=v,recovered:=false}]) (Ey os s')
 |.regS lst os,_,_,_,s,K=>AO T (F0 (os.map gg.ro)) (zB s os) lst os s (K .normal)
 |.regN _,_,_,_,_,_=>none
 |.regM _ _,_,_,_,_,_=>none
 |.regY os,Y,_,_,s,K=>xM T Y os s (K .normal)
 |.rangeF N0 g ps _ _ f N2 a b it,Y,_,_,s,K=>match Y.plain,s.ev g with
  |true,.clo f' caps=>match aae f f',XV.mf caps,s.nj,ado caps.length N2 with
   | true,true,true,true=>fT N T it ⟨false,fun args s K=>match aae args.length ps.toList.length,aV s.env N2 with
     |true,.gst .go=>fT N T a pO (Kf N0 N2 ps.toList args s) (bTi fun s'=>fT N T b pO s' (Mo N0 N2 K))
     |_,_=>none⟩ (GU N2 caps s) (kIt N0 N2 K)
   |_,_,_,_=>none
  |_,_=>none
 |.seq a b,Y,_,_,s,K=>fT N T a Y s (Ak (fun s'=>fT N T b Y s' K) K)
 |.join true m a b,Y,_,_,s,K=>bj (fT N T a Y (R:=se m.cn) s (NQ m)) fun v=>fT N T b Y (m.fill (np m.cn v)) K
 |.join false m a b,Y,R,_,s,K=>sn (fT N T a Y (R:=R⊕se m.cn) s (Mr m K)) fun v=>fT N T b Y (m.fill (np m.cn v)) K
 |.cond c a b,Y,_,_,s,K=>w1 s c fun v=>match v with
  |.d .b x=>bk x (fT N T a Y (Jl s c true) K) (fT N T b Y (Jl s c false) K)
  |.ab=>EM (fT N T a Y s K) (fT N T b Y s K)
  |_=>none
 |.block id b,Y,_,_,s,K=>fT N T b Y s (H6 id K)
 |.loop m b,Y,_,_,s,K=>rd m s fun v=>jh m.cn (aN m.cn (fun rec=>k8 m.cn fun v=>fT N T b Y (m.fill v) (Ak (fun s'=>rd m s' (jh m.cn rec)) K)) N) v
 |.exit id,_,_,_,s,K=>K (.exit id) s
 |.scope b,Y,_,_,s,K=>fT N T b Y s (QX K)
 |.ret,_,_,_,s,K=>K .ret s
 |.bad _,_,_,_,_,_=>none
theorem Ko[YL]{c:Operand}{x:Bool}(h:s.ev c=.d .b x)(e:x=q):(Jl s c q).er=s.er:=by
 cases c with
 |tmp t=>exact kW h e
 |_=>rfl
mutual
theorem O2(x y:YL):∀{v:XV},v.nj=true->@XV.er x v=@XV.er y v
 |.agg cs,h=>congrArg AV.agg (DJ x y h)
 |.cr cs,h=>congrArg AV.cr (A9 x y h)
 |.clo f cs,h=>congrArg (AV.clo f) (A9 x y h)
 |.yld,h=>by cases h
 |.d _ _,_|.any,_|.un,_|.ab,_|.ptr _ _,_|.ept _ _ _ _,_|.apt _ _,_|.rpt _ _,_|.rpa _ _ _,_|.rsl _ _ _ _,_|.pa _ _ _,_|.epa _ _ _ _ _,_|.mref _,_|.itr _ _,_|.rop _ _ _,_|.fl _ _,_|.fln _,_|.nl _,_|.sl _ _ _ _,_|.asl _ _ _,_|.slw _ _ _,_|.sc,_|.c _,_|.gst _,_=>rfl
theorem bOl(x y:YL):∀{v:XV},v.nj=true->@XV.fc x v=@XV.fc y v
 |.agg cs,h=>DJ x y h
 |.cr cs,h=>congrArg (fun l=>[AV.cr l]) (A9 x y h)
 |.clo f cs,h=>congrArg (fun l=>[AV.clo f l]) (A9 x y h)
 |.yld,h=>by cases h
 |.d _ _,_|.any,_|.un,_|.ab,_|.ptr _ _,_|.ept _ _ _ _,_|.apt _ _,_|.rpt _ _,_|.rpa _ _ _,_|.rsl _ _ _ _,_|.pa _ _ _,_|.epa _ _ _ _ _,_|.mref _,_|.itr _ _,_|.rop _ _ _,_|.fl _ _,_|.fln _,_|.nl _,_|.sl _ _ _ _,_|.asl _ _ _,_|.slw _ _ _,_|.sc,_|.c _,_|.gst _,_=>rfl
theorem A9(x y:YL):∀{l:List XV},XV.mf l=true->@XV.de x l=@XV.de y l
 |[],_=>rfl
 |v::l,h=>by have h:(v.nj&&XV.mf l)=true:=h;rw[μ]at h;show@XV.er x v::@XV.de x l=@XV.er y v::@XV.de y l;rw[O2 x y h.1,A9 x y h.2]
theorem DJ(x y:YL):∀{l:List XV},XV.mf l=true->@XV.cf x l=@XV.cf y l
 |[],_=>rfl
 |v::l,h=>by have h:(v.nj&&XV.mf l)=true:=h;rw[μ]at h;show@XV.fc x v++@XV.cf x l=@XV.fc y v++@XV.cf y l;rw[bOl x y h.1,DJ x y h.2]
end
theorem N1(x y:YL)(i:Nat):∀{l:List (Nat×XV)},Ds l=true->@XV.er x (aV l i)=@XV.er y (aV l i)
 |[],_=>rfl
 |(k,v)::l,h=>by
  have h:(v.nj&&Ds l)=true:=h;rw[μ]at h;show@XV.er x (if aae i k=true then v else aV l i)=@XV.er y (if aae i k=true then v else aV l i);split
  ·exact O2 x y h.1
  ·exact N1 x y i h.2
theorem UX(x y:YL):∀{b:XB},b.nj=true->@XB.er x b=@XB.er y b
 |.box cs,h=>congrArg bp.box (DJ x y h)
 |.row _ _ _,_|.rb _ _ _,_|.arr _ _ _ _,_|.mp _ _ _ _ _ _,_|.it,_|.sb _ _ _,_=>rfl
theorem Em(x y:YL):∀{l:List (Option XB)} {i:Nat},zf l=true->(bP l i).map (@XB.er x)=(bP l i).map (@XB.er y)
 |[],_,_=>rfl
 |none::l,0,_=>rfl
 |some b::l,0,h=>by
  have h:(b.nj&&zf l)=true:=h;rw[μ]at h;show some (@XB.er x b)=some (@XB.er y b);rw[UX x y h.1]
 |none::l,i+1,h=>Em x y (l:=l) (i:=i) h
 |some b::l,i+1,h=>by have h:(b.nj&&zf l)=true:=h;rw[μ]at h;exact Em x y (l:=l) (i:=i) h.2
theorem Fx(x y:YL)(h:s.nj=true):@XS.er x s=@XS.er y s:=by
 unfold XS.nj at h;rw[μ,μ]at h;unfold XS.er;congr 1
 ·funext i;exact N1 x y i h.1.1
 ·funext i;exact Em x y h.1.2
 ·funext i;exact Em x y h.2
theorem S5[YL]{l:Nat}(h:v.er=.yld l):v=.yld:=by
 cases v with
 |yld=>rfl
 |d t x=>exfalso;cases t<;>cases h
 |_=>exfalso;cases h
theorem Yq[YL]{o:gg}{args:List XV}(h:CA s o=some args):zx s.er o.ro=some (YL.l,XV.de args):=by
 unfold CA at h;unfold zx;split at h
 ·rename_i f as e;rw[e];show(match s.er.ev f with|.yld l=>some (l,as.map s.er.ev)|_=>none)=_;split at h
  ·rename_i e2;cases h;have:s.er.ev f=.yld YL.l:=by rw[v8 s rfl,e2];rfl
   rw[this];show some (YL.l,as.map s.er.ev)=_;congr 2
   induction as with
   |nil=>rfl
   |cons a as ih=>
    show s.er.ev a::as.map s.er.ev=(s.ev a).er::XV.de (as.map s.ev);rw[v8 s rfl];congr 1;clear e ih this
    induction as with
    |nil=>rfl
    |cons b as ih=>
     show s.er.ev b::as.map s.er.ev=(s.ev b).er::XV.de (as.map s.ev);rw[v8 s rfl,ih]
  ·cases h
 ·cases h
theorem bPs[YL]{o:gg}(h:CA s o=none):zx s.er o.ro=none:=by
 unfold CA at h;unfold zx;split
 ·rename_i f as e;rw[e]at h;simp only at h;split
  ·rename_i l e2;rw[v8 s rfl]at e2;rw[S5 e2]at h;cases h
  ·rfl
 ·rfl
def j3[YL](Yx:YX)(Y:Yh):Prop:=(Yx.plain=true->Y.plain=true)/\∀{R:Type} [DecidableEq R] {r:R} {args:List XV} {s:XS} {K:Bool->XS->Option R},Yx.f args s K=some r->∀{KP:Bool->aq->Prop},(∀c s',K c s'=some r->KP c s'.er)->Y.f YL.l (XV.de args) s.er KP
theorem j3.no[YL]:j3 He Ai:=⟨fun h=>h,fun h=>by cases h⟩
theorem j3.body[YL]:j3 pO jN:=⟨fun h=>h,fun h=>by cases h⟩
theorem C1[YL]{P:Program}{T:List bx}(hT:lA P T){Yx:YX}{Y:Yh}(hY:j3 Yx Y)[DecidableEq R]{r:R}:∀{os:List gg} {s:XS} {K:XS->Option R},xM T Yx os s K=some r->∀{KP:aq->Prop},(∀s',K s'=some r->KP s'.er)->rT P Y (os.map gg.ro) s.er KP
 |[],s,K,h,KP,hK=>hK _ h
 |o::os,s,K,h,KP,hK=>by
  unfold xM at h;show rT P Y (o.ro::os.map gg.ro) s.er KP;unfold rT;split at h
  ·rename_i e;rw[bPs e];exact lW (os:=[o]) hT h fun s' h=>C1 hT hY h hK
  ·rename_i args e;rw[Yq e];have go:∀{h0:Unit},(Yx.f args s fun c s'=>xM T Yx os (s'.put o.ro.dst (.d .b c) [] []) K)=some r->Y.f YL.l (XV.de args) s.er fun c s'=>rT P Y (os.map gg.ro) (s'.put o.ro.dst (.D (.B c)) [] []) KP:=fun h=>hY.2 h fun c s' h=>by have:=C1 hT hY h hK;rw[eV]at this;exact this
   have un:∀{h0:Unit},xM T Yx os (s.put o.ro.dst .un [] []) K=some r->rT P Y (os.map gg.ro) (s.er.put o.ro.dst .un [] []) KP:=fun h=>by have:=C1 hT hY h hK;rw[eV]at this;exact this
   simp only;split at h
   ·rename_i hg;rw[hg];exact go (h0:=()) h
   ·rename_i t want hg;rw[hg];simp only;split at h
    ·rename_i x hx;have ht:s.er.env t=.D (.B x):=by show(aV s.env t).er=_;rw[hx];rfl
     rw[ht];split at h
     ·rcases vn h with⟨e,h⟩|⟨e,h⟩
      ·exact⟨fun _=>go (h0:=()) h,fun h=>absurd e h⟩
      ·exact⟨fun h=>aaS (e.symm.trans h),fun _=>un (h0:=()) h⟩
     ·rcases vn h with⟨e,h⟩|⟨e,h⟩
      ·exact⟨fun h=>aaS (e.symm.trans h),fun _=>un (h0:=()) h⟩
      ·exact⟨fun _=>go (h0:=()) h,fun h=>absurd e h⟩
    ·rename_i hx;have ht:s.er.env t=.D (.C (.tuple #[])):=by show(aV s.env t).er=_;rw[hx];rfl
     rw[ht];exact un (h0:=()) h
    ·cases h
theorem Fz(n t:Nat):∀l,aV (A8 n l) t=if n<=t then aV l (t-n)else .any
 |[]=>by show XV.any=if _ then XV.any else _;split<;>rfl
 |(k,v)::l=>by
  show(if aae t (n+k)=true then v else aV (A8 n l) t)=if n<=t then(if aae (t-n) k=true then v else aV l (t-n))else .any
  rw[Fz n t l];by_cases h:n<=t
  ·rw[if_pos h,if_pos h];have:aae t (n+k)=aae (t-n) k:=by rw[aa7,abA,abA];omega
   rw[this]
  ·rw[if_neg h,if_neg h,if_neg];rw[abA];omega
theorem CO(n t:Nat):∀l,aV (sj n l) t=aV l (n+t)
 |[]=>rfl
 |(k,v)::l=>by
  show aV (match ade n k with|true=>(k-n,v)::sj n l|false=>sj n l) t=if aae (n+t) k=true then v else aV l (n+t)
  cases h:ade n k with
  |true=>
   show(if aae t (k-n)=true then v else aV (sj n l) t)=_;have h:=abd h;have:aae t (k-n)=aae (n+t) k:=by rw[aa7,abA,abA];omega
   rw[this,CO n t l]
  |false=>
   show aV (sj n l) t=_;rw[CO n t l,if_neg];intro e;have:=θ e;have:ade n k=true:=Nat.ble_eq_true_of_le (by omega);rw[h]at this;cases this
theorem Ho(n t:Nat):∀l,aV (wv n l) t=if t=n then .any else aV l t
 |[]=>by show XV.any=if _ then _ else XV.any;split<;>rfl
 |(k,v)::l=>by
  show aV (match aae k n with|true=>wv n l|false=>(k,v)::wv n l) t=if t=n then .any else(if aae t k=true then v else aV l t)
  cases h:aae k n with
  |true=>
   have h:=θ h;show aV (wv n l) t=_;rw[Ho n t l];by_cases e:t=n
   ·rw[if_pos e,if_pos e]
   ·rw[if_neg e,if_neg e,if_neg (fun q=>e ((θ q).trans h))]
  |false=>
   show(if aae t k=true then v else aV (wv n l) t)=_;rw[Ho n t l];by_cases e:t=n
   ·rw[if_pos e,if_pos e,if_neg];intro q;have:=θ q;rw[<-this,e,acL]at h;cases h
   ·rw[if_neg e,if_neg e]
theorem IA(n t:Nat)(r:List (Nat×XV))(hr:t<=n->aV r t=.any):∀l,aV (nk n l++r) t=if t<n then aV l t else aV r t
 |[]=>by
  show aV r t=if t<n then XV.any else _
  split
  ·exact hr (by omega)
  ·rfl
 |(k,v)::l=>by
  show aV ((match ado k n with|true=>(k,v)::nk n l|false=>nk n l)++r) t=if t<n then(if aae t k=true then v else aV l t)else _
  cases h:ado k n with
  |true=>
   show(if aae t k=true then v else aV (nk n l++r) t)=_;rw[IA n t r hr l];have h:=abd h;by_cases e:t<n
   ·rw[if_pos e,if_pos e]
   ·rw[if_neg e,if_neg e,if_neg];intro q;have:=θ q;omega
  |false=>
   show aV (nk n l++r) t=_;rw[IA n t r hr l];by_cases e:t<n
   ·rw[if_pos e,if_pos e,if_neg];intro q;have:=θ q;have:ado k n=true:=Nat.ble_eq_true_of_le (by omega);rw[h]at this;cases this
   ·rw[if_neg e,if_neg e]
theorem G9(t:Nat)(r:List (Nat×XV)):∀(n k:Nat) (vs:List XV),aV (AD k n vs++r) t=if k<=t/\t<k+n then vs.getD (t-k) .un else aV r t
 |0,k,vs=>by
  show aV r t=_;rw[if_neg (by omega)]
 |n+1,k,[]=>by
  show(if aae t k=true then XV.un else aV (AD (k+1) n []++r) t)=_;rw[G9 t r n (k+1) []];by_cases e:t=k
  ·rw[if_pos (by rw[e,acL]),if_pos (by omega)];simp
  ·rw[if_neg (fun q=>e (θ q))];by_cases h:k+1<=t/\t<k+1+n
   ·rw[if_pos h,if_pos (by omega)];simp
   ·rw[if_neg h,if_neg (by omega)]
 |n+1,k,v::vs=>by
  show(if aae t k=true then v else aV (AD (k+1) n vs++r) t)=_;rw[G9 t r n (k+1) vs];by_cases e:t=k
  ·rw[if_pos (by rw[e,acL]),if_pos (by omega),e,Nat.sub_self];rfl
  ·rw[if_neg (fun q=>e (θ q))];by_cases h:k+1<=t/\t<k+1+n
   ·rw[if_pos h,if_pos (by omega)];have:t-k=(t-(k+1))+1:=by omega
    rw[this];rfl
   ·rw[if_neg h,if_neg (by omega)]
theorem Qz[YL]:∀(l:List XV) (i:Nat),(l.getD i .un).er=(XV.de l).getD i .un
 |[],i=>by simp only[XV.de,List.getD_nil];rfl
 |v::l,0=>rfl
 |v::l,i+1=>by have:=Qz l i;simpa[XV.de]using this
theorem Qq[YL](t:Nat):∀(ps:List Nat) (xs:List XV) (l:List (Nat×XV)),(aV (Dm ps xs l) t).er=xy ps (XV.de xs) (fun i=>(aV l i).er) t
 |[],xs,l=>by cases xs<;>rfl
 |p::ps,[],l=>rfl
 |p::ps,x::xs,l=>by
  show(aV (Dm ps xs ((p,x)::l)) t).er=xy ps (XV.de xs) (gu (fun i=>(aV l i).er) p x.er) t;rw[Qq t ps xs];congr 1;funext i;show(if aae i p=true then x else aV l i).er=if i=p then x.er else(aV l i).er
  by_cases e:i=p
  ·rw[if_pos e,if_pos (by rw[e,acL])]
  ·rw[if_neg e,if_neg (fun q=>e (θ q))]
theorem EV[YL]{env:List (Nat×XV)}{f:Nat->AV}(h:∀t,(aV env t).er=f t):({s with env:=env}:XS).er=s.er.withEnv f:=by unfold XS.er aq.withEnv;congr 1;funext t;exact h t
theorem bBl[YL](N2:Nat)(caps:List XV)(s:XS):(GU N2 caps s).er=BE N2 YL.l (XV.de caps) s.er:=EV fun t=>by
 rw[G9];show _=if t<N2 then _ else if t=N2 then _ else(aV s.env (t-N2-1)).er
 by_cases h:t<N2
 ·rw[if_pos (by omega),if_pos h,Nat.sub_zero,Qz];rfl
 ·rw[if_neg (by omega),if_neg h];show(if aae t N2=true then XV.gst .go else aV (A8 (N2+1) s.env) t).er=_;by_cases e:t=N2
  ·rw[if_pos e,if_pos (by rw[e,acL])];rfl
  ·rw[if_neg e,if_neg (fun q=>e (θ q)),Fz,if_pos (by omega),Nat.sub_add_eq]
theorem Z9[YL](N0 N2:Nat)(s:XS):(Cf N0 N2 s).er=Az N0 N2 s.er:=EV fun t=>by
 rw[Ho,CO];show _=if t=N0 then AV.any else(aV s.env (N2+1+t)).er
 split<;>rfl
theorem SZ[YL](N0 N2:Nat)(ps:List Nat)(args:List XV)(s:XS):(Kf N0 N2 ps args s).er=Jd N0 N2 ps (XV.de args) s.er:=EV fun t=>by
 rw[IA _ _ _ (fun h=>by rw[Fz,if_neg (by omega)])];show _=if t<N0 then _ else if t=N0 then AV.any else(aV s.env (t-N0-1)).er
 by_cases h:t<N0
 ·rw[if_pos h,if_pos h,Qq];congr 1;funext i;rw[CO];rfl
 ·rw[if_neg h,if_neg h,Fz];by_cases e:t=N0
  ·rw[if_pos e,if_neg (by omega)];rfl
  ·rw[if_neg e,if_pos (by omega),Nat.sub_add_eq]
theorem G5[YL](N0 N2:Nat)(c:GX)(s:XS):(vZ N0 N2 c s).er=Cr N0 N2 c.code s.er:=EV fun t=>by
 show(if aae t N2=true then XV.gst c else aV (sj (N0+1) s.env) t).er=if t=N2 then AV.gst c.code else(aV s.env (N0+1+t)).er
 by_cases e:t=N2
 ·rw[if_pos e,if_pos (by rw[e,acL])];rfl
 ·rw[if_neg e,if_neg (fun q=>e (θ q)),CO]
theorem FL[YL]:∀(l:List XV),(XV.de l).length=l.length
 |[]=>rfl
 |_::l=>congrArg (· +1) (FL l)
def Ci(P:Program)(N:Nat)(T:List bx)(c:XC):Prop:=∀(y:YL) (Yx:YX) (Y:Yh),j3 Yx Y->∀{R:Type} [DecidableEq R] {r:R} {s:XS} {K:Exit->XS->Option R},fT N T c Yx s K=some r->∀{Q:Exit->aq->Prop},(∀e s',K e s'=some r->Q e s'.er)->fY P Y c.rc Q s.er
theorem bCb{T:List bx}{N0:Nat}{g:Operand}{ps:Array Tmp}{ca cb:Code}{f N2:Nat}{a b it:XC}(hw:XC.Wf P (.rangeF N0 g ps ca cb f N2 a b it))(ha:Ci P N T a)(hb:Ci P N T b)(hi:Ci P N T it):Ci P N T (.rangeF N0 g ps ca cb f N2 a b it):=fun y Yx Y hY R _ r s K h Q hK=>by
 obtain⟨⟨fl,flB,fn,c2,q1,q2,q3,q4,q5,q6,q7,q8,q9,q10⟩,_⟩:=hw;subst q10;unfold fT at h;split at h
 case h_2=>cases h
 rename_i f' caps hp hg;split at h
 case h_2=>cases h
 rename_i hf hcc hcl hlt;have hf:=θ hf;subst hf;have hlt:caps.length+1<=fn.ntmps:=abd hlt;refine bE0 (f:=f) (fn:=fn) (caps:=XV.de caps) fl flB q1 q2 q3 q4 q5 q6 q7 q8 q9 (by rw[v8 s rfl,hg];rfl) (by rw[FL];exact hlt) (hY.1 hp) fun l=>?_;obtain⟨y2,hy2⟩:∃y2:YL,y2=⟨l⟩:=⟨_,rfl⟩;have hl:@YL.l y2=l:=by rw[hy2];rfl
 have e1:BE fn.ntmps l (@XV.de y caps) (@XS.er y s)=@XS.er y2 (GU fn.ntmps caps s):=by rw[@bBl y2,hl];exact congr (congrArg _ (A9 y y2 hcc)) (Fx y y2 hcl)
 rw[e1];refine hi y2 _ (GI P a.rc b.rc N0 fn.ntmps l ps.toList) ⟨(fun h=>aaS h),fun{R} _ {r args s K} h KP hK=>?_⟩ h fun e s' h=>?_
 ·simp only at h;split at h
  case h_2=>cases h
  rename_i h1 h2;refine⟨hl,by rw[FL];exact θ h1,by show(aV s.env fn.ntmps).er=_;rw[h2];rfl,?_⟩;rw[<-@SZ y2];refine ha y2 pO jN (@j3.body y2) h fun e s' h=>?_;cases e with
  |normal=>
   refine hb y2 pO jN (@j3.body y2) (show fT N T b pO s' (Mo N0 fn.ntmps K)=some r from h) fun e s' h=>?_;cases e with
   |normal=>
    have:=hK _ _ (show K true (vZ N0 fn.ntmps .go s')=some r from h);rw[@G5 y2]at this;exact this
   |exit id=>
    have:=hK _ _ (show K false (vZ N0 fn.ntmps (.exit id) s')=some r from h);rw[@G5 y2]at this;exact this
   |ret=>
    have:=hK _ _ (show K false (vZ N0 fn.ntmps .ret s')=some r from h);rw[@G5 y2]at this;exact this
   |_=>cases h
  |_=>cases h
 ·have key:∀{h0:Unit},Fi N0 fn.ntmps K s'=some r->Cz Q (Az N0 fn.ntmps (@XS.er y2 s')) ((@XS.er y2 s').env fn.ntmps):=fun h=>by
   unfold Fi at h;rw[<-@Z9 y2];show Cz Q _ (@XV.er y2 (aV s'.env fn.ntmps));split at h
   ·rename_i hc hq;rw[hq,<-Fx y y2 hc];exact hK _ _ h
   ·rename_i hc hq;rw[hq,<-Fx y y2 hc];exact hK _ _ h
   ·rename_i hc hq;rw[hq,<-Fx y y2 hc];exact hK _ _ h
   ·cases h
  cases e with
  |normal=>exact⟨.inl rfl,key (h0:=()) h⟩
  |ret=>exact⟨.inr rfl,key (h0:=()) h⟩
  |_=>cases h
theorem cR{P:Program}{N:Nat}{T:List bx}(hT:lA P T):∀{c:XC},c.Wf P->Ci P N T c
 |.skip,hw,y,Yx,Y,hY,R,_,r,s,K,h,Q,hK=>hK _ _ h
 |.reg _ os,hw,y,Yx,Y,hY,R,_,r,s,K,h,Q,hK=>lW hT h (KP:=Q .normal) fun s' h=>hK _ _ h
 |.regP os,hw,y,Yx,Y,hY,R,_,r,s,K,h,Q,hK=>yV hT h (KP:=Q .normal) (fun s' h=>hK _ _ h) fun v s' h=>hK _ _ h
 | .regDP os,hw,y,Yx,Y,hY,R,_,r,s,K,h,Q,hK=>yV hT h (KP:=Q .normal) (fun s' h=>hK _ _ h) fun v s' h=>by
   have:=hK _ _ h;rw[Mz]at this;exact this
 |.regN os,hw,y,Yx,Y,hY,R,_,r,s,K,h,Q,hK=>by cases h
 |.regM os x,hw,y,Yx,Y,hY,R,_,r,s,K,h,Q,hK=>by cases h
 |.regS _ os,hw,y,Yx,Y,hY,R,_,r,s,K,h,Q,hK=>⟨zB s os,Fm hT h (KP:=Q .normal) fun s' h=>hK _ _ h⟩
 |.regY os,hw,y,Yx,Y,hY,R,_,r,s,K,h,Q,hK=>C1 hT hY h (KP:=Q .normal) fun s' h=>hK _ _ h
 |.rangeF ..,hw,y,Yx,Y,hY,R,_,r,s,K,h,Q,hK=>bCb hw (cR hT hw.2.1) (cR hT hw.2.2.1) (cR hT hw.2.2.2) y Yx Y hY h hK
 |.seq a b,hw,y,Yx,Y,hY,R,_,r,s,K,h,Q,hK=>by
  refine cR hT (c:=a) hw.1 y Yx Y hY h (Q:=yG (fY P Y (.wkr b.rc) Q) Q) fun e s' h=>?_;cases e with
  |normal=>exact⟨s'.er,Wk.refl _,cR hT (c:=b) hw.2 y Yx Y hY h hK⟩
  |_=>exact hK _ _ h
 |.join true m a b,hw,y,Yx,Y,hY,R,_,r,s,K,h,Q,hK=>by
  obtain⟨x,h1,h2⟩:=Hl (show bj (fT N T a Yx (R:=se m.cn) s (NQ m)) (fun v=>fT N T b Yx (m.fill (np m.cn v)) K)=some r from h);refine cR hT (c:=a) hw.1 y Yx Y hY h1 (Q:=yG (fY P Y (.wkr b.rc) Q) Q) fun e s' h=>?_;cases e with
  |normal=>
   obtain⟨v,hv,hw'⟩:=CF (show rd m s' _=some x from h);cases hv;rw[wS]at h2;exact⟨_,hw',cR hT (c:=b) hw.2 y Yx Y hY h2 hK⟩
  |_=>cases h
 |.join false m a b,hw,y,Yx,Y,hY,R,_,r,s,K,h,Q,hK=>by
  rcases Xt (show sn (fT N T a Yx (R:=R⊕se m.cn) s (Mr m K)) (fun v=>fT N T b Yx (m.fill (np m.cn v)) K)=some r from h)with h1|⟨x,h1,h2⟩
  ·refine cR hT (c:=a) hw.1 y Yx Y hY h1 (Q:=yG (fY P Y (.wkr b.rc) Q) Q) fun e s' h=>?_;cases e with
   |normal=>
    obtain⟨v,hv,_⟩:=CF (show rd m s' _=_ from h);cases hv
   |_=>
    obtain⟨y,hy,e⟩:=OH (show zJ _=_ from h);cases e;exact hK _ _ hy
  ·refine cR hT (c:=a) hw.1 y Yx Y hY h1 (Q:=yG (fY P Y (.wkr b.rc) Q) Q) fun e s' h=>?_;cases e with
   |normal=>
    obtain⟨v,hv,hw'⟩:=CF (show rd m s' _=_ from h);cases hv;rw[wS]at h2;exact⟨_,hw',cR hT (c:=b) hw.2 y Yx Y hY h2 hK⟩
   |_=>
    obtain⟨y,hy,e⟩:=OH (show zJ _=_ from h);cases e
 |.cond c a b,hw,y,Yx,Y,hY,R,_,r,s,K,h,Q,hK=>by
  obtain⟨h,e1⟩:=aP (show w1 s c _=some r from h);show DL (fY P Y a.rc Q s.er) (fY P Y b.rc Q s.er) (s.er.ev c);rw[e1];split at h
  ·rename_i x hx;rw[hx];rcases vn h with⟨e,h⟩|⟨e,h⟩
   ·have:=cR hT (c:=a) hw.1 y Yx Y hY h hK;rw[Ko hx e]at this;exact⟨fun _=>this,fun h=>aaS (e.symm.trans h)⟩
   ·have:=cR hT (c:=b) hw.2 y Yx Y hY h hK;rw[Ko hx e]at this;exact⟨fun h=>aaS (e.symm.trans h),fun _=>this⟩
  ·rename_i hx;rw[hx];obtain⟨h1,h2⟩:=Ua h;exact⟨cR hT (c:=a) hw.1 y Yx Y hY h1 hK,cR hT (c:=b) hw.2 y Yx Y hY h2 hK⟩
  ·cases h
 |.block id b,hw,y,Yx,Y,hY,R,_,r,s,K,h,Q,hK=>by
  refine cR hT (c:=b) hw y Yx Y hY (show fT N T b Yx s (H6 id K)=some r from h) (Q:=HD id Q) fun e s' h=>?_;cases e with
  |exit i=>
   unfold H6 at h;simp only at h;show if i=id then Q .normal s'.er else Q (.exit i) s'.er
   split at h
   ·rename_i hb;rw[if_pos (θ hb)];exact hK _ _ h
   ·rename_i hb;rw[if_neg (fun e=>by rw[e]at hb;simp at hb)];exact hK _ _ h
  |_=>exact hK _ _ h
 |.loop m b,hw,y,Yx,Y,hY,R,_,r,s,K,h,Q,hK=>by
  obtain⟨v0,h,hw'⟩:=CF (show rd m s _=some r from h);refine .inl ⟨fun n s1=>∃v,jh m.cn (aN m.cn (fun rec=>k8 m.cn fun v=>fT N T b Yx (m.fill v) (Ak (fun s'=>rd m s' (jh m.cn rec)) K)) n) v=some r/\s1=(m.fill v).er,N,_,hw',⟨v0,h,rfl⟩,?_⟩;rintro n s1 ⟨v,hv,rfl⟩;cases n with
  |zero=>rw[show aN m.cn _ 0=aN.cuN m.cn from rfl,RM]at hv;cases hv
  |succ n=>
   rw[show aN m.cn _ (n+1)=k8 m.cn _ from rfl,fK]at hv;refine cR hT (c:=b) hw y Yx Y hY hv (Q:=yG _ Q) fun e s' h=>?_;cases e with
   |normal=>
    obtain⟨v',h,hw'⟩:=CF (show rd m s' _=some r from h);exact⟨n,_,Nat.lt_succ_self n,hw',v',h,rfl⟩
   |_=>exact hK _ _ h
 |.exit id,hw,y,Yx,Y,hY,R,_,r,s,K,h,Q,hK=>hK _ _ h
 |.scope b,hw,y,Yx,Y,hY,R,_,r,s,K,h,Q,hK=>by
  refine cR hT (c:=b) hw y Yx Y hY (show fT N T b Yx s (QX K)=some r from h) (Q:=LB Q) fun e s' h=>?_;cases e with
  |goto _=>cases h
  |_=>exact hK _ _ h
 |.ret,hw,y,Yx,Y,hY,R,_,r,s,K,h,Q,hK=>hK _ _ h
 |.bad _,hw,y,Yx,Y,hY,R,_,r,s,K,h,Q,hK=>by cases h
def yB:List RO->List (Option Ty)->List gg
 |[],_=>[]
 |ro::r,[]=>⟨ro,none⟩::yB r []
 |ro::r,t::ts=>⟨ro,t⟩::yB r ts
theorem pD:∀(r:List RO) (ts:List (Option Ty)),(yB r ts).map gg.ro=r
 |[],_=>rfl
 |ro::r,[]=>congrArg (ro::·) (pD r [])
 |ro::r,_::ts=>congrArg (ro::·) (pD r ts)
def JL:List Ty->Ty
 |[]=>.u
 |[t]=>t
 |t::r=>.p t (JL r)
def Oy(f:TypeId->Option Ty):List TypeId->Option (List Ty)
 |[]=>some []
 |t::r=>match f t,Oy f r with
  |some a,some l=>some (a::l)
  |_,_=>none
def wy(P:Program):Nat->TypeId->Option Ty
 |0,_=>none
 |n+1,t=>match P.underlying t with
  |some (.int k)=>some (.i k)
  |some .bool=>some .b
  |some .string=>some .s
  |some (.slice e)=>(wy P n e).map .sl
  |some (.array len e)=>match wy P n e with
   |some (.i k)=>some (.ar len k)
   |some (.ar m k)=>some (.ar (len*m) k)
   |some t=>some (.w (JL (aag len t)))
   |none=>none
  |some (.struct fs)=>(Oy (wy P n) (fs.toList.map (·.type))).map fun l=>.w (JL l)
  |_=>none
def yH(P:Program)(o:Oper):Option Ty:=match o.op with
 |.alloc T=>wy P 20 T
 |.box T _=>wy P 20 T
 |.makeMap T _=>match P.underlying T with
  |some (.map k e)=>match wy P 20 k,wy P 20 e with
   |some k,some (.sl t)=>some (.p k (.o t))
   |some k,some t=>some (.p k t)
   |_,_=>none
  |_=>none
 |_=>wy P 20 o.type
structure ko where
 at_:Nat
 pure:Bool
 m:XS
def Bu:List ko->Nat->Option ko
 |[],_=>none
 |a::r,n=>match aae a.at_ n with
  |true=>some a
  |false=>Bu r n
def XC.ni:XC->Nat
 |.seq a b=>a.ni+b.ni+1
 |.join _ _ a b=>a.ni+b.ni+1
 |.cond _ a b=>a.ni+b.ni
 |.block _ b=>b.ni
 |.loop _ b=>b.ni+1
 |.scope b=>b.ni
 |.bad _=>1
 |_=>0
def Tu:XS:=⟨[],[],[]⟩
def Jz(P:Program)(d:Nat):List Oper->Option Ty
 |[]=>none
 |o::r=>match o.dst with
  |some d'=>match aae d' d with
   |true=>yH P o
   |false=>Jz P d r
  |none=>Jz P d r
def Km(P:Program)(ops:List Oper):List RO->List (Option Ty)
 |[]=>[]
 |ro::r=>(match ro.dst with
  |some d=>Jz P d ops
  |none=>none)::Km P ops r
def nD(P:Program):Code->bq->XC
 |.skip,.skip=>.skip
 |.region _ ops _,.reg dr ros=>.reg dr (yB ros (ops.toList.map (yH P)))
 |.region _ ops _,.regP ros=>.regP (yB ros (ops.toList.map (yH P)))
 |.region _ ops _,.regDP ros=>.regDP (yB ros (Km P ops.toList ros))
 |.region _ ops _,.regS lst ros=>.regS lst (yB ros (ops.toList.map (yH P)))
 |.region _ ops _,.regN ros=>.regN (yB ros (ops.toList.map (yH P)))
 |.region _ ops _,.regY ros=>.regY (yB ros (ops.toList.map (yH P)))
 |.region _ ops _,.regM ros x=>.regM (yB ros (ops.toList.map (yH P))) x
 |.seq a b,.seq x (.wkr y)=>.seq (nD P a x) (nD P b y)
 |.cond _ a b,.cond c x y=>.cond c (nD P a x) (nD P b y)
 |.block _ b,.block id x=>.block id (nD P b x)
 |.loop b,.loop x=>.loop Tu (nD P b x)
 |.exit _,.exit id=>.exit id
 |.scope b,.scope x=>.scope (nD P b x)
 |.ret,.ret=>.ret
 |_,.skip=>.skip
 |_,rc=>.bad rc
theorem DB(P:Program):∀(c:Code) (rc:bq),(nD P c rc).rc=rc:=by
 intro c
 induction c with
 |seq a b ih1 ih2=>
  intro rc;unfold nD;split<;>first
   |rfl
   |(rename_i e;cases e;show bq.seq (nD P _ _).rc (.wkr (nD P _ _).rc)=_;rw[ih1,ih2];done)
   |(rename_i e;cases e;done)
   |(rename_i e _;cases e;done)
 |cond c0 a b ih1 ih2=>
  intro rc;unfold nD;split<;>first
   |rfl
   |(rename_i e;cases e;show bq.cond _ (nD P _ _).rc (nD P _ _).rc=_;rw[ih1,ih2];done)
   |(rename_i e;cases e;done)
   |(rename_i e _;cases e;done)
 |block id b ih=>
  intro rc;unfold nD;split<;>first
   |rfl
   |(rename_i e;cases e;show bq.block _ (nD P _ _).rc=_;rw[ih];done)
   |(rename_i e;cases e;done)
   |(rename_i e _;cases e;done)
 |loop b ih=>
  intro rc;unfold nD;split<;>first
   |rfl
   |(rename_i e;cases e;show bq.loop (nD P _ _).rc=_;rw[ih];done)
   |(rename_i e;cases e;done)
   |(rename_i e _;cases e;done)
 |scope b ih=>
  intro rc;unfold nD;split<;>first
   |rfl
   |(rename_i e;cases e;show bq.scope (nD P _ _).rc=_;rw[ih];done)
   |(rename_i e;cases e;done)
   |(rename_i e _;cases e;done)
 |region id ops dr=>
  intro rc;cases rc<;>first|rfl|(show bq.reg _ ((yB _ _).map gg.ro)=_;rw[pD];done)|(show bq.regP ((yB _ _).map gg.ro)=_;rw[pD];done)|(show bq.regDP ((yB _ _).map gg.ro)=_;rw[pD];done)|(show bq.regS _ ((yB _ _).map gg.ro)=_;rw[pD];done)|(show bq.regN ((yB _ _).map gg.ro)=_;rw[pD];done)|(show bq.regY ((yB _ _).map gg.ro)=_;rw[pD];done)|(show bq.regM ((yB _ _).map gg.ro) _=_;rw[pD];done)
 |_=>intro rc;cases rc<;>rfl
def nK(A:List ko):Nat->XC->XC
 |n,.seq a b=>match Bu A n with
  |some x=>.join x.pure x.m (nK A (n+1) a) (nK A (n+1+a.ni) b)
  |none=>.seq (nK A (n+1) a) (nK A (n+1+a.ni) b)
 |n,.cond c a b=>.cond c (nK A n a) (nK A (n+a.ni) b)
 |n,.block id b=>.block id (nK A n b)
 |n,.loop m b=>match Bu A n with
  |some x=>.loop x.m (nK A (n+1) b)
  |none=>.loop m (nK A (n+1) b)
 |n,.scope b=>.scope (nK A n b)
 |_,c=>c
theorem kV(A:List ko):∀(c:XC) (n:Nat),(nK A n c).rc=c.rc
 |.seq a b,n=>by
  unfold nK;split
  ·show bq.seq (nK A _ a).rc (.wkr (nK A _ b).rc)=_;rw[kV A a,kV A b];rfl
  ·show bq.seq (nK A _ a).rc (.wkr (nK A _ b).rc)=_;rw[kV A a,kV A b];rfl
 |.cond c a b,n=>by show bq.cond c (nK A _ a).rc (nK A _ b).rc=_;rw[kV A a,kV A b];rfl
 |.block id b,n=>by show bq.block id (nK A _ b).rc=_;rw[kV A b];rfl
 |.loop m b,n=>by
  unfold nK;split
  ·show bq.loop (nK A _ b).rc=_;rw[kV A b];rfl
  ·show bq.loop (nK A _ b).rc=_;rw[kV A b];rfl
 |.scope b,n=>by show bq.scope (nK A _ b).rc=_;rw[kV A b];rfl
 |.join _ _ _ _,_=>rfl
 |.skip,_=>rfl
 |.reg _ _,_=>rfl
 |.regS _ _,_=>rfl
 |.regP _,_=>rfl
 |.regDP _,_=>rfl
 |.regN _,_=>rfl
 |.regY _,_=>rfl
 |.regM _ _,_=>rfl
 |.rangeF ..,_=>rfl
 |.exit _,_=>rfl
 |.ret,_=>rfl
 |.bad _,_=>rfl
theorem CU(P:Program):∀(c:Code) (rc:bq),(nD P c rc).Wf P:=by
 intro c
 induction c with
 |seq a b ih1 ih2=>
  intro rc;unfold nD;split<;>first
   |trivial
   |(rename_i e;cases e;exact⟨ih1 _,ih2 _⟩)
   |(rename_i e;cases e;done)
   |(rename_i e _;cases e;done)
 |cond c0 a b ih1 ih2=>
  intro rc;unfold nD;split<;>first
   |trivial
   |(rename_i e;cases e;exact⟨ih1 _,ih2 _⟩)
   |(rename_i e;cases e;done)
   |(rename_i e _;cases e;done)
 |block id b ih=>
  intro rc;unfold nD;split<;>first
   |trivial
   |(rename_i e;cases e;exact ih _)
   |(rename_i e;cases e;done)
   |(rename_i e _;cases e;done)
 |loop b ih=>
  intro rc;unfold nD;split<;>first
   |trivial
   |(rename_i e;cases e;exact ih _)
   |(rename_i e;cases e;done)
   |(rename_i e _;cases e;done)
 |scope b ih=>
  intro rc;unfold nD;split<;>first
   |trivial
   |(rename_i e;cases e;exact ih _)
   |(rename_i e;cases e;done)
   |(rename_i e _;cases e;done)
 |_=>intro rc;cases rc<;>trivial
theorem kX(P:Program)(A:List ko):∀(c:XC) (n:Nat),c.Wf P->(nK A n c).Wf P
 |.seq a b,n,h=>by
  unfold nK;split
  ·exact⟨kX P A a _ h.1,kX P A b _ h.2⟩
  ·exact⟨kX P A a _ h.1,kX P A b _ h.2⟩
 |.cond c a b,n,h=>⟨kX P A a _ h.1,kX P A b _ h.2⟩
 |.block id b,n,h=>kX P A b n h
 |.loop m b,n,h=>by
  unfold nK;split
  ·exact kX P A b (n+1) h
  ·exact kX P A b (n+1) h
 |.scope b,n,h=>kX P A b n h
 |.join _ _ _ _,_,h=>h
 |.skip,_,h=>h
 |.reg _ _,_,h=>h
 |.regS _ _,_,h=>h
 |.regP _,_,h=>h
 |.regDP _,_,h=>h
 |.regN _,_,h=>h
 |.regY _,_,h=>h
 |.regM _ _,_,h=>h
 |.rangeF ..,_,h=>h
 |.exit _,_,h=>h
 |.ret,_,h=>h
 |.bad _,_,h=>h
def QS:List (Nat×Nat×List Nat)->Nat->Option (Nat×List Nat)
 |[],_=>none
 |(p,f)::r,n=>match aae p n with
  |true=>some f
  |false=>QS r n
def PG(P:Program)(fn:Func)(g:Operand)(N0:Nat):Bool:= !(fn.name== "runtime.NumGoroutine")&&P.follows .mixedOrders&&aae fn.results.size 0&&g.m9 N0
def ML(P:Program)(fl:List Nat)(A:List ko)(n N0:Nat)(g:Operand)(ps:Array Tmp)(ca cb:Code)(f:Nat)(fl2:List Nat)(rc:bq):XC:=match P.funcs[f]?with
 |some fn=>match fn.body with
  |some c2=>match aH P fl2 fn.ntmps c2,aH P fl N0 ca,aH P fl N0 cb,PG P fn g N0 with
   |some it,some a,some b,true=>.rangeF N0 g ps ca cb f fn.ntmps (nK A (100000*(n+1)+30000) (nD P ca a)) (nK A (100000*(n+1)+60000) (nD P cb b)) (nK A (100000*(n+1)) (nD P c2 it))
   |_,_,_,_=>.bad rc
  |none=>.bad rc
 |none=>.bad rc
def D4(P:Program)(fl:List Nat)(A:List ko)(n:Nat)(q:Option (Nat×List Nat))(rc:bq):XC:=match rc,q with
 |.xe N0 (.rangeFunc g ps ca cb),some (f,fl2)=>ML P fl A n N0 g ps ca cb f fl2 rc
 |rc,_=>.bad rc
theorem RP(P:Program)(fl:List Nat)(A:List ko)(n:Nat)(q:Option (Nat×List Nat))(rc:bq):(D4 P fl A n q rc).rc=rc/\(D4 P fl A n q rc).Wf P:=by
 unfold D4;split
 case h_2=>exact⟨rfl,trivial⟩
 unfold ML;split
 case h_2=>exact⟨rfl,trivial⟩
 rename_i fn hf;split
 case h_2=>exact⟨rfl,trivial⟩
 rename_i c2 hc;split
 case h_2=>exact⟨rfl,trivial⟩
 rename_i it a b h1 h2 h3 h4;refine⟨rfl,⟨_,fl,fn,c2,hf,hc,?_,?_,by rw[kV,DB];exact h1,by rw[kV,DB];exact h2,by rw[kV,DB];exact h3,?_,?_,rfl⟩,kX P A _ _ (CU P _ _),kX P A _ _ (CU P _ _),kX P A _ _ (CU P _ _)⟩<;>unfold PG at h4<;>simp only[μ,aaZ]at h4
 ·exact h4.1.1.1
 ·exact h4.1.1.2
 ·exact Array.eq_empty_of_size_eq_zero (θ h4.1.2)
 ·exact h4.2
def pj(P:Program)(fl:List Nat)(F:List (Nat×Nat×List Nat))(A:List ko):Nat->XC->XC
 |n,.seq a b=>match Bu A n with
  |some x=>.join x.pure x.m (pj P fl F A (n+1) a) (pj P fl F A (n+1+a.ni) b)
  |none=>.seq (pj P fl F A (n+1) a) (pj P fl F A (n+1+a.ni) b)
 |n,.cond c a b=>.cond c (pj P fl F A n a) (pj P fl F A (n+a.ni) b)
 |n,.block id b=>.block id (pj P fl F A n b)
 |n,.loop m b=>match Bu A n with
  |some x=>.loop x.m (pj P fl F A (n+1) b)
  |none=>.loop m (pj P fl F A (n+1) b)
 |n,.scope b=>.scope (pj P fl F A n b)
 |n,.bad rc=>D4 P fl A n (QS F n) rc
 |_,c=>c
theorem qT(P:Program)(fl:List Nat)(F:List (Nat×Nat×List Nat))(A:List ko):∀(c:XC) (n:Nat),c.Wf P->(pj P fl F A n c).rc=c.rc/\(pj P fl F A n c).Wf P
 |.seq a b,n,h=>by
  have h1:=qT P fl F A a (n+1) h.1;have h2:=qT P fl F A b (n+1+a.ni) h.2;unfold pj;split
  ·exact⟨by show bq.seq _ (.wkr _)=_;rw[h1.1,h2.1];rfl,h1.2,h2.2⟩
  ·exact⟨by show bq.seq _ (.wkr _)=_;rw[h1.1,h2.1];rfl,h1.2,h2.2⟩
 |.cond c a b,n,h=>by
  have h1:=qT P fl F A a n h.1;have h2:=qT P fl F A b (n+a.ni) h.2;exact⟨by show bq.cond c _ _=_;rw[h1.1,h2.1];rfl,h1.2,h2.2⟩
 |.block id b,n,h=>by
  have h1:=qT P fl F A b n h;exact⟨by show bq.block id _=_;rw[h1.1];rfl,h1.2⟩
 |.loop m b,n,h=>by
  have h1:=qT P fl F A b (n+1) h;unfold pj;split
  ·exact⟨by show bq.loop _=_;rw[h1.1];rfl,h1.2⟩
  ·exact⟨by show bq.loop _=_;rw[h1.1];rfl,h1.2⟩
 |.scope b,n,h=>by
  have h1:=qT P fl F A b n h;exact⟨by show bq.scope _=_;rw[h1.1];rfl,h1.2⟩
 |.bad rc,n,_=>RP P fl A n _ rc
 |.join _ _ _ _,_,h=>⟨rfl,h⟩
 |.skip,_,h=>⟨rfl,h⟩
 |.reg _ _,_,h=>⟨rfl,h⟩
 |.regS _ _,_,h=>⟨rfl,h⟩
 |.regP _,_,h=>⟨rfl,h⟩
 |.regDP _,_,h=>⟨rfl,h⟩
 |.regN _,_,h=>⟨rfl,h⟩
 |.regY _,_,h=>⟨rfl,h⟩
 |.regM _ _,_,h=>⟨rfl,h⟩
 |.rangeF ..,_,h=>⟨rfl,h⟩
 |.exit _,_,h=>⟨rfl,h⟩
 |.ret,_,h=>⟨rfl,h⟩
def sq(P:Program)(fl:List Nat)(F:List (Nat×Nat×List Nat))(A:List ko)(c:Code)(rc:bq):XC:=pj P fl F A 0 (nD P c rc)
theorem Ad(P:Program)(fl:List Nat)(F:List (Nat×Nat×List Nat))(A:List ko)(c:Code)(rc:bq):(sq P fl F A c rc).rc=rc:=by unfold sq;rw[(qT P fl F A _ 0 (CU P c rc)).1,DB]
theorem AR(P:Program)(fl:List Nat)(F:List (Nat×Nat×List Nat))(A:List ko)(c:Code)(rc:bq):(sq P fl F A c rc).Wf P:=(qT P fl F A _ 0 (CU P c rc)).2
end
section
variable{R:Type}
theorem Wk.any{s s':aq}(hb:∀i,s'.bs i=s.bs i)(ho:∀i,s'.own i=s.own i)(hn:s'.nx=s.nx)(he:∀t,s'.env t=s.env t\/s'.env t=.any):Wk s s':=fun E a w ⟨G,m,h⟩=>by
 have hlk:s'.lk=s.lk:=by funext x;cases x with|B i=>exact hb i|O i=>exact ho i
 refine⟨G,m,hlk▸h.e7,fun t=>?_,h.size,h.defers,?_,fun i hi=>h.fresh i (hn▸hi),h.frame,h.base,h.own,h.r7,fun i hi=>(ho i).trans (h.jc i (hn▸hi))⟩
 ·rcases he t with e|e
  ·rw[e];exact h.env t
  ·rw[e];unfold AV.au;trivial
 ·rcases he E.N with e|e
  ·rw[e];exact h.k6
  ·rw[e];exact E.ta _ _ h.k6
def pf:Nat->List XV->List (Nat×XV)
 |_,[]=>[]
 |n,v::vs=>(n,v)::pf (n+1) vs
theorem yK:∀(vs:List XV) (n t:Nat),aV (pf n vs) t=if n<=t then uW vs (t-n)else .any
 |[],n,t=>by
  show XV.any=_;split
  ·cases t-n<;>rfl
  ·rfl
 |v::vs,n,t=>by
  show(if aae t n=true then v else aV (pf (n+1) vs) t)=_;rw[yK vs (n+1) t];by_cases h:t=n
  ·rw[if_pos (by rw[abA];exact h),if_pos (by omega),show t-n=0 by omega];rfl
  ·rw[if_neg (by rw[abA];exact h)];by_cases h2:n+1<=t
   ·rw[if_pos h2,if_pos (by omega),show t-n=(t-(n+1))+1 by omega];rfl
   ·rw[if_neg h2,if_neg (by omega)]
def pg:Nat->Nat->List Nat
 |_,0=>[]
 |n,k+1=>n::pg (n+1) k
theorem Py:∀(k n i:Nat),(pg n k)[i]?=if i<k then some (n+i)else none
 |0,n,i=>by simp[pg]
 |k+1,n,0=>by simp[pg]
 |k+1,n,i+1=>by
  show(pg (n+1) k)[i]?=_;rw[Py k (n+1) i];by_cases h:i<k
  ·rw[if_pos h,if_pos (by omega),show n+1+i=n+(i+1) by omega]
  ·rw[if_neg h,if_neg (by omega)]
theorem EY{j:Nat}:j∈pg n k↔n<=j/\j<n+k:=by
 induction k generalizing n with
 |zero=>simp[pg]
 |succ k ih=>
  show j∈n::pg (n+1) k↔_;rw[υ,ih];omega
theorem Og:∀(k n:Nat),(pg n k).Nodup
 |0,_=>List.nodup_nil
 |k+1,n=>abh.2 ⟨fun h=>by have:=(EY.1 h).1;omega,Og k (n+1)⟩
theorem NW:∀(k n:Nat),(pg n k).length=k
 |0,_=>rfl
 |k+1,n=>congrArg (· +1) (NW k (n+1))
def AH(ψ:Hd->Hd):List XV->List XV
 |[]=>[]
 |v::vs=>v.cm ψ::AH ψ vs
def uj(ψ:Hd->Hd):List (Option XB)->List (Option XB)
 |[]=>[]
 |none::r=>none::uj ψ r
 |some b::r=>some (b.cm ψ)::uj ψ r
theorem Fv[YL](ψ:Hd->Hd):∀(l:List (Option XB)) (i:Nat),(bP (uj ψ l) i).map XB.er=((bP l i).map XB.er).map (bp.cm ψ)
 |[],_=>rfl
 |none::_,0=>rfl
 |some b::_,0=>congrArg some (GC ψ b)
 |none::r,i+1=>Fv ψ r i
 |some _::r,i+1=>Fv ψ r i
def zg:Nat->List (Option XB)->List (Option XB)
 |_,[]=>[]
 |0,_::r=>none::zg 0 r
 |d+1,b::r=>b::zg d r
def wa:Nat->List (Option XB)->List (Option XB)
 |0,l=>l
 |_+1,[]=>[]
 |d+1,_::r=>wa d r
theorem Jj:∀(d:Nat) (l:List (Option XB)) (i:Nat),bP (zg d l) i=if i<d then bP l i else none
 |0,[],_=>rfl
 |d+1,[],i=>by show none=if i<d+1 then none else none;split<;>rfl
 |0,_::r,0=>rfl
 |0,_::r,i+1=>by
  show bP (zg 0 r) i=_;rw[Jj 0 r i];simp
 |d+1,b::r,0=>rfl
 |d+1,b::r,i+1=>by
  show bP (zg d r) i=_;rw[Jj d r i];by_cases h:i<d
  ·rw[if_pos h,if_pos (by omega)];rfl
  ·rw[if_neg h,if_neg (by omega)]
theorem QZ:∀(d:Nat) (l:List (Option XB)) (i:Nat),bP (wa d l) i=bP l (d+i)
 |0,l,i=>by rw[aal];rfl
 |d+1,[],i=>by
  show none=bP [] _;cases d+1+i<;>rfl
 |d+1,b::r,i=>by show bP (wa d r) i=_;rw[QZ d r i,show d+1+i=(d+i)+1 by omega];rfl
theorem M4:∀(d:Nat) (l:List (Option XB)),(wa d l).length=l.length-d
 |0,l=>rfl
 |d+1,[]=>by simp[wa]
 |d+1,b::r=>by show(wa d r).length=_;rw[M4 d r];simp
def Gg(d:Nat)(s:XS):XS:=
 let ψ:=vQ (pg d (s.bs.length-d))
 {env:=pf 0 (AH ψ (wZ s.env)),bs:=uj ψ (zg d s.bs),own:=uj ψ (wa d s.bs)}
theorem LG[YL](ψ:Hd->Hd):∀(vs:List XV) (i:Nat),i<vs.length->(uW (AH ψ vs) i).er=AV.cm ψ (uW vs i).er
 |[],_,h=>by simp at h
 |v::_,0,_=>D3 ψ v
 |_::vs,i+1,h=>LG ψ vs i (by simpa using h)
theorem Ll(ψ:Hd->Hd):∀vs:List XV,(AH ψ vs).length=vs.length
 |[]=>rfl
 |_::vs=>congrArg (· +1) (Ll ψ vs)
theorem N4:∀(vs:List XV) (i:Nat),vs.length<=i->uW vs i=.any
 |[],i,_=>by cases i<;>rfl
 |_::_,0,h=>by simp at h
 |_::vs,i+1,h=>N4 vs i (by simpa using h)
theorem Nf{α:Type}(f:XV->α):∀l:List (Nat×XV),(wZ l).map f=l.map fun p=>f p.2
 |[]=>rfl
 |p::l=>congrArg (f p.2::·) (Nf f l)
theorem Jv(ψ:Hd->Hd):∀l:List (Option XB),(uj ψ l).length=l.length
 |[]=>rfl
 |none::l=>congrArg (· +1) (Jv ψ l)
 |some _::l=>congrArg (· +1) (Jv ψ l)
theorem Lb[YL](d:Nat)(s:XS):Wk (entry (s.env.map fun p=>p.2.er) (dw s.bs)) (Gg d s).er:=by
 have h1:=Vx (s.env.map fun p=>p.2.er) (dw s.bs) (pg d (s.bs.length-d)) (Og _ _);refine h1.trans (Wk.any (fun i=>?_) (fun i=>?_) ?_ fun t=>?_)
 ·show(bP (uj _ (zg d s.bs)) i).map XB.er=if i∈pg d (s.bs.length-d)then none else(((dw s.bs)[i]?).join).map _
  rw[Fv,Jj,pC];by_cases hd:i<d
  ·rw[if_pos hd,if_neg (fun h=>by have:=(EY.1 h).1;omega)]
  ·rw[if_neg hd];by_cases h2:i<s.bs.length
   ·rw[if_pos (EY.2 ⟨by omega,by omega⟩)];rfl
   ·rw[if_neg (fun h=>by have:=(EY.1 h).2;omega),Fq _ _ (by omega)]
 ·show(bP (uj _ (wa d s.bs)) i).map XB.er=((pg d (s.bs.length-d))[i]?).bind fun j=>(((dw s.bs)[j]?).join).map _;rw[Fv,QZ,Py];by_cases h:i<s.bs.length-d
  ·rw[if_pos h];show _=(((dw s.bs)[d+i]?).join).map _;rw[pC]
  ·rw[if_neg h,Fq _ _ (by omega)];rfl
 ·show(uj _ (wa d s.bs)).length=(pg d (s.bs.length-d)).length;rw[Jv,M4,NW]
 ·show(aV (pf 0 (AH _ (wZ s.env))) t).er=(AV.dj _ (s.env.map fun p=>p.2.er)).getD t .un\/(aV (pf 0 (AH _ (wZ s.env))) t).er=.any;rw[yK,if_pos (aa2 _),Nat.sub_zero];by_cases h:t<(wZ s.env).length
  ·left;rw[LG _ _ _ h,CZ,<-Nf XV.er];congr 1;have:∀(l:List XV) (i:Nat),i<l.length->(uW l i).er=(l.map XV.er).getD i .un:=fun l=>by
    induction l with
    |nil=>intro i h;simp at h
    |cons v l ih=>
     intro i h;cases i with
     |zero=>rfl
     |succ i=>
      have:=ih i (by simpa using h);show(uW l i).er=(v.er::l.map XV.er).getD (i+1) .un;rw[this,adm]
   exact this _ _ h
  ·right;rw[N4 _ _ (by rw[Ll];omega)];rfl
def Jf(s:XS):eg->Option XV
 |.tmp t=>some (aV s.env t)
 |.cell ag t=>match aV s.env t with
  |.ptr h off=>match s.lk h with
   |some (.box cs)=>zu ag cs off some
   |_=>none
  |.apt h 0=>match s.lk h,ag with
   |some (.arr _ n k x),some m=>match aae m n with
    |true=>some (.d (.ar n k) x)
    |false=>none
   |_,_=>none
  |.rpt h off=>match s.lk h,ag with
   |some (.rb _ t x),some m=>zu (some m) (ji t x) off some
   |_,_=>none
  |_=>none
def vE(s:XS):List eg->Option (List XV)
 |[]=>some []
 |r::rs=>match Jf s r,vE s rs with
  |some v,some vs=>some (v::vs)
  |_,_=>none
theorem aX0[YL]{r:eg}(h:Jf s r=some v):sS s.er r=some v.er:=by
 unfold Jf at h;split at h
 ·cases h;rfl
 ·rename_i ag t;split at h
  ·rename_i hd off ht;split at h
   ·rename_i cs hl;obtain⟨v',h1,h2⟩:=BK h;cases h1;have e1:s.er.env t=.ptr hd off:=by show(aV s.env t).er=_;rw[ht];rfl
    have e2:s.er.lk hd=some (.box (XV.cf cs)):=by rw[aU,hl];rfl
    simp only[sS,e1,e2];cases ag with
    |none=>exact h2
    |some n=>
     obtain⟨h3,h4⟩:=h2;simp only;rw[if_pos h3,h4]
   ·cases h
  ·rename_i hd ht;split at h
   ·rename_i mt n k x m hl;split at h
    ·rename_i hb;obtain rfl:=θ hb;cases h;have e1:s.er.env t=.eptr hd 1 0 0:=by show(aV s.env t).er=_;rw[ht];rfl
     have e2:s.er.lk hd=some (.row mt 1 (x.l.map (iq k))):=by rw[aU,hl];rfl
     simp only[sS,e1,e2];have hx:=x.len;rw[if_pos ⟨trivial,trivial,trivial,by rw[κ];omega⟩,List.drop_zero,aaw (by rw[κ];omega),C9];rfl
    ·cases h
   ·cases h
  ·rename_i hd off ht;split at h
   ·rename_i mt t2 x m hl;obtain⟨v',h1,h2,h3⟩:=BK h;cases h1;have e1:s.er.env t=.eptr hd 1 off 0:=by show(aV s.env t).er=_;rw[ht];rfl
    have e2:s.er.lk hd=some (.row mt 1 (ja (t2.ds x))):=by rw[aU,hl];rfl
    rw[eR]at h2 h3;rw[κ]at h2;simp only[sS,e1,e2];rw[if_pos ⟨trivial,trivial,trivial,by rw[AF];exact h2⟩,I1,Jt,h3,aaA,aaI]
   ·cases h
  ·cases h
theorem Oq[YL]{s:XS}:∀{rs:List eg} {vs:List XV},vE s rs=some vs->nU s.er rs=some (XV.de vs)
 |[],vs,h=>by cases h;rfl
 |r::rs,vs,h=>by
  unfold vE at h;split at h
  ·rename_i v vs' h1 h2;cases h;show(match sS s.er r,nU s.er rs with|some a,some as=>some (a::as)|_,_=>none)=_;rw[aX0 h1,Oq h2];rfl
  ·cases h
def uh:List (Nat×XV)->List eg->XS->XS
 |(_,m)::ms,r::rs,s=>match m,r with
  |.slw _ t _,.tmp n=>match aV s.env n with
   |.fln _=>uh ms rs (s.put (some n) (.slw (.O s.own.length) t 0) [.row true t []] [])
   |.sl h t 0 len=>uh ms rs (Eu s n h t len)
   |_=>uh ms rs s
  |_,_=>uh ms rs s
 |_,_,s=>s
theorem Cs[YL]:∀(ms:List (Nat×XV)) (rs:List eg) (s:XS),Wk s.er (uh ms rs s).er
 |[],_,s=>by unfold uh;exact Wk.refl _
 |_::_,[],s=>by unfold uh;exact Wk.refl _
 |(_,m)::ms,r::rs,s=>by
  unfold uh;split
  ·split
   ·rename_i h;refine Wk.trans ?_ (Cs ms rs _);rw[eV];exact aq.py s.er _ _ (by show(aV s.env _).er=_;rw[h];rfl)
   ·rename_i h;exact(LU h).trans (Cs ms rs _)
   ·exact Cs ms rs s
  ·exact Cs ms rs s
def EW(rs:List eg)(s:XS)(n:Nat):XV:=match vE s rs with
 |some vs=>uW vs n
 |none=>.any
def Md(rs:List eg)(m:XS)(n:Nat)(s:XS):Bool:=match vE s rs with
 |some vs=>ym 0 m.env vs&&aae s.bs.length n
 |none=>false
def OJ(rs:List eg)(m s:XS):NZ:=⟨s,CV tj (EW rs s) m.env (BH m.own)⟩
def AI(rs:List eg)(m s:XS):NZ:=Ew tj 0 m.own (Dh tj 0 m.bs (OJ rs m (uh m.env rs s)))
def BC(rs:List eg)(m:XS)(n:Nat)(K:cr m.cn->Option R)(st:NZ):Option R:=match Md rs m n st.s with
 |true=>C2 m (EW rs) st K
 |false=>none
def Bm:Hd->Hd->Bool
 |.B i,.B j=>aae i j
 |.O _,.O _=>true
 |_,_=>false
def OM:List XV->List XV->Bool
 |[],_=>true
 |_::_,[]=>false
 |m::ms,v::vs=>(match m,v with
  |.ptr h _,.ptr h' _=>Bm h h'
  |.apt h _,.apt h' _=>Bm h h'
  |.rpt h _,.rpt h' _=>Bm h h'
  |_,_=>true)&&OM ms vs
def Rz(rs:List eg)(m s:XS):Bool:=match vE s rs with
 |some vs=>BY (wZ m.env) vs&&OM (wZ m.env) vs
 |none=>false
def qe(rs:List eg)(n:Nat):(l:List XS)->XS->(RT l->Option R)->Option R
 |[],_,_=>none
 |[m],s,K=>BC rs m n (fun v=>K (mu m.cn v)) (AI rs m s)
 |m::m2::l,s,K=>match Rz rs m s with
  |true=>BC rs m n (fun v=>K (.inl (mu m.cn v))) (AI rs m s)
  |false=>qe rs n (m2::l) s fun r=>K (.inr r)
def CC:Value->Value->Bool
 |.iface t (.agg a),.iface t' (.agg c)=>aae t t'&&(a.isEmpty&&c.isEmpty)
 |_,_=>false
theorem HU{v:Value}(h:CC v w=true):v=w:=by
 unfold CC at h;split at h
 ·rename_i t a t' c;rw[μ,μ]at h;obtain⟨h1,h2,h3⟩:=h;rw[θ h1,Array.isEmpty_iff.1 h2,Array.isEmpty_iff.1 h3]
 ·cases h
def Bb(pv:Value):(l:List XS)->(RT l->Option R)->Option R
 |[],_=>none
 |[m],K=>match m.pv,m.own,xc m.cn []with
  |some w,[],some v=>match CC w pv with
   |true=>K (mu m.cn v)
   |false=>none
  |_,_,_=>none
 |m::m2::l,K=>match m.pv,m.own,xc m.cn []with
  |some w,[],some v=>match CC w pv with
   |true=>K (.inl (mu m.cn v))
   |false=>Bb pv (m2::l) fun r=>K (.inr r)
  |_,_,_=>Bb pv (m2::l) fun r=>K (.inr r)
def QF(rs:List eg)(n:Nat)(out:List XS):Exit->XS->Option (RT out)
 |.normal,s=>qe rs n out s some
 |.ret,s=>qe rs n out s some
 |_,_=>none
def Ic(rs:List eg)(out:List XS):Exit->XS->Option (RT out)
 |.normal,s=>qe rs 0 out s some
 |.ret,s=>qe rs 0 out s some
 |.panic [⟨v,false,false⟩],_=>Bb v out some
 |_,_=>none
def zd:List XS->Bool
 |[]=>false
 |o::l=>o.pv.isSome||zd l
def Ue[YL]:List XV->AV
 |[v]=>v.er
 |vs=>.cr (XV.de vs)
theorem YG[YL](h:nU s.er rs=some (XV.de vs)):BS s.er rs=some (Ue vs):=by
 unfold BS;rw[h]
 match vs with
 |[]=>rfl
 |[_]=>rfl
 |_::_::_=>rfl
theorem UK(h:ym 0 m.env vs=true)(v:cr m.cn):(m.fill v).pv=none:=by
 unfold XS.pv;split
 ·rename_i k u he;have he:(qh _ m.env _).1=[(k,.c u)]:=he;generalize m.env=l at h he;cases l with
  |nil=>cases he
  |cons p l=>
   obtain⟨k0,v0⟩:=p;cases vs with
   |nil=>cases h
   |cons a vs=>
    have h:(aae k0 0&&ym 1 l vs)=true:=h;rw[μ]at h;have h1:=θ h.1;have h2:=congrArg (fun l=>l.map Prod.fst) he;have h2:k0::_=[k]:=h2;have:k0=k:=(List.cons.inj h2).1;rw[<-this,h1]
 ·rfl
theorem LS[YL]{K:cr m.cn->Option R}{r:R}(h:BC rs m n K (AI rs m s)=some r):∃v,K v=some r/\(m.fill v).pv=none/\∀(e:Exit),(e=.normal\/e=.ret)->∀nbs:List bp,nbs.map some=dw (m.fill v).own->
  tT n rs (XV.val (m.fill v).env).er (dw (m.fill v).bs) nbs e s.er:=by
 unfold BC at h;split at h
 case h_2=>cases h
 rename_i hok;obtain⟨v,sl,h,hr⟩:=KW h;have hw:Wk s.er (AI rs m s).s.er:=(Cs m.env rs s).trans ((II tj m.bs 0 (OJ rs m (uh m.env rs s))).trans (HQ tj _ _ _));generalize(AI rs m s)=st at hok hr hw;unfold Md at hok;split at hok
 case h_2=>cases hok
 rename_i vs hvs;rw[μ]at hok;obtain⟨hk,hb⟩:=hok;refine⟨v,h,UK hk v,fun e he nbs hn=>⟨st.s.er,hw,he,sl,?_⟩⟩;have hb:=θ hb;have hres:EW rs st.s=uW vs:=by funext i;unfold EW;rw[hvs]
 have henv:(m.fill v).env.map (fun p=>p.2.er)=vs.map fun v=>AV.conv st.s.er.lk (j5 sl) v.er:=by have:=congrArg (fun l=>l.map (fun p:Nat×AV=>p.2)) hr.env;simp only[abF]at this;rw[hres]at this;rw[<-I9 (f:=fun v=>AV.conv st.s.er.lk (j5 sl) v.er) hk (ev:=uW vs) fun i _=>by rw[aal]];exact this
 refine⟨_,hr.nd,YG (Oq hvs),?_,?_,?_⟩
 ·generalize hf:(m.fill v).env=fe at henv;have hl:∀l:List (Nat×XV),XV.de (l.map (·.2))=l.map fun p=>p.2.er:=fun l=>by
   induction l with
   |nil=>rfl
   |cons p l ih=>show p.2.er::XV.de (l.map (·.2))=_;rw[ih];rfl
  cases vs with
  |nil=>cases fe with
   |nil=>rfl
   |cons p fe=>cases henv
  |cons a vs=>cases fe with
   |nil=>cases henv
   |cons p fe=>cases vs with
    |nil=>cases fe with
     |nil=>exact(List.head_eq_of_cons_eq henv).symm
     |cons p2 fe=>exact absurd (congrArg List.length henv) (by simp)
    |cons a2 vs=>cases fe with
     |nil=>exact absurd (congrArg List.length henv) (by simp)
     |cons p2 fe=>
      show AV.cr (AV.bu _ _ (XV.de (a::a2::vs)))=AV.cr (XV.de ((p::p2::fe).map (·.2)));rw[JD,<-henv,hl]
 ·rw[hr.bs];apply abO;intro i;rw[aaf,aaf];by_cases hi:i<n
  ·rw[List.getElem?_range hi];have h2:=pC st.s.bs i;have hl:i<(dw st.s.bs).length:=by show i<(List.map _ _).length;rw[κ];omega
   rw[ξ hl]at h2|-;have h2:(dw st.s.bs)[i]=(bP st.s.bs i).map XB.er:=h2;rw[h2];rfl
  ·rw[aay (by rw[List.length_range];omega),aay (by show(List.map _ _).length<=i;rw[κ];omega)];rfl
 ·rw[hn,hr.own];have:∀l:List Nat,(dw (sG st.s l)).map (fun b=>b.map (bp.conv st.s.er.lk (j5 sl)))=l.map fun j=>(st.s.er.own j).map (bp.conv st.s.er.lk (j5 sl)):=fun l=>by
   induction l with
   |nil=>rfl
   |cons j l ih=>show _::List.map _ (dw (sG st.s l))=_::_;rw[ih];rfl
  exact(this sl).symm
theorem qR[YL]{rs:List eg}{n:Nat}:∀{l:List XS} {s:XS} {K:RT l->Option R} {r:R},qe rs n l s K=some r->∃x,K x=some r/\(fS l x).pv=none/\∀(e:Exit),(e=.normal\/e=.ret)->∀nbs:List bp,nbs.map some=dw (fS l x).own->
  tT n rs (XV.val (fS l x).env).er (dw (fS l x).bs) nbs e s.er
 |[],_,_,_,h=>by cases h
 |[m],s,K,r,h=>by
  obtain⟨v,h,hp,hv⟩:=LS (show BC rs m n (fun v=>K (mu m.cn v)) (AI rs m s)=some r from h);refine⟨mu m.cn v,h,?_⟩;have e:fS [m] (mu m.cn v)=m.fill v:=by show m.fill (np m.cn (mu m.cn v))=_;rw[wS]
  rw[e];exact⟨hp,hv⟩
 |m::m2::l,s,K,r,h=>by
  unfold qe at h;split at h
  ·obtain⟨v,h,hp,hv⟩:=LS h;refine⟨.inl (mu m.cn v),h,?_⟩;have e:fS (m::m2::l) (.inl (mu m.cn v))=m.fill v:=by show m.fill (np m.cn (mu m.cn v))=_;rw[wS]
   rw[e];exact⟨hp,hv⟩
  ·obtain⟨x,h,hx⟩:=qR (l:=m2::l) h;exact⟨.inr x,h,hx⟩
def DF(N:Nat)(P:Program)(T:List bx)(fl:List Nat)(F:List (Nat×Nat×List Nat))(A:List ko)(d:Nat)(fn:Func)(c:Code)(ent:XS)(out:List XS):ku ent.cn (RT out):=
 match aH P fl fn.ntmps c,fE P fn.ntmps fn.results.toList with
 |some rc,some rs=>match zd out,ent.bs with
  |false,_=>k8 ent.cn fun v=>fT N T (sq P fl F A c rc) He (Gg d (ent.fill v)) (QF rs ent.bs.length out)
  |true,[]=>k8 ent.cn fun v=>fT N T (sq P fl F A c rc) pO (Gg d (ent.fill v)) (Ic rs out)
  |_,_=>k8 ent.cn fun _=>none
 |_,_=>k8 ent.cn fun _=>none
theorem Ee(len:Hd->Nat):∀(l:List (Nat×XV)) (q:List DS),(qh len l q).1.length=l.length
 |[],_=>rfl
 |(_,_)::l,q=>congrArg (· +1) (Ee len l _)
theorem uU(len:Hd->Nat):∀(l:List (Option XB)) (q:List DS),(rK len l q).1.length=l.length
 |[],_=>rfl
 |none::l,q=>congrArg (· +1) (uU len l _)
 |some _::l,q=>congrArg (· +1) (uU len l _)
theorem Li(h:m.pv=some w)(v:cr m.cn):(m.fill v).pv=some w:=by
 unfold XS.pv at h;split at h
 ·rename_i k u he;split at h
  ·rename_i hk;cases h;have:(m.fill v).env=[(k,.c w)]:=by show(qh _ m.env _).1=_;rw[he];rfl
   unfold XS.pv;rw[this];show(match aae k 1000000 with|true=>some w|false=>none)=some w;rw[hk]
  ·cases h
 ·cases h
theorem EJ(h:m.own=[])(v:cr m.cn):(m.fill v).own=[]:=by show(rK _ m.own _).1=[];rw[h];rfl
theorem GD{pv:Value}:∀{l:List XS} {K:RT l->Option R} {r:R},Bb pv l K=some r->∃x,K x=some r/\(fS l x).pv=some pv/\(fS l x).own=[]
 |[],_,_,h=>by cases h
 |[m],K,r,h=>by
  unfold Bb at h;split at h
  case h_2=>cases h
  rename_i w v hw ho ht;split at h
  case h_2=>cases h
  rename_i he;refine⟨_,h,?_⟩;have e:fS [m] (mu m.cn v)=m.fill v:=by show m.fill (np m.cn (mu m.cn v))=_;rw[wS]
  rw[e,<-HU he];exact⟨Li hw v,EJ ho v⟩
 |m::m2::l,K,r,h=>by
  unfold Bb at h;split at h
  ·rename_i w v hw ho ht;split at h
   ·rename_i he;refine⟨_,h,?_⟩;have e:fS (m::m2::l) (.inl (mu m.cn v))=m.fill v:=by show m.fill (np m.cn (mu m.cn v))=_;rw[wS]
    rw[e,<-HU he];exact⟨Li hw v,EJ ho v⟩
   ·obtain⟨x,h,hx⟩:=GD (l:=m2::l) h;exact⟨.inr x,h,hx⟩
  ·obtain⟨x,h,hx⟩:=GD (l:=m2::l) h;exact⟨.inr x,h,hx⟩
abbrev px(v:Value):Exit:=.panic [{v:=v,recovered:=false}]
theorem XG{len:Hd->Nat}{u:Value}:∀{v:XV} {l:List DS},(XV.l9 len v l).1=.c u->v=.c u:=by
 intro v l h;cases v with
 |d t x=>
  cases l with
  |nil=>cases h
  |cons p l=>
   obtain⟨t',x'⟩:=p;have h:ud t' x'=.c u:=h;unfold ud at h;split at h<;>cases h
 |c w=>exact h
 |sl hd t o n=>match l,h with
  |[],h=>cases h
  |[_],h=>cases h
  |_::_::_,h=>cases h
 |_=>cases h
theorem LH{v:cr m.cn}(h:(m.fill v).pv=some w):m.pv=some w:=by
 unfold XS.pv at h;split at h
 case h_2=>cases h
 rename_i k u he;have he:(qh _ m.env _).1=[(k,.c u)]:=he;revert he;cases hm:m.env with
 |nil=>intro he;cases he
 |cons p l=>
  obtain⟨k0,v0⟩:=p;cases l with
  |nil=>
   intro he;have he:[(k0,_)]=[(k,XV.c u)]:=he;have h1:=(Prod.mk.inj (List.cons.inj he).1);have h2:=XG h1.2;have h3:=h1.1;subst h2 h3;unfold XS.pv;rw[hm];exact h
  |cons q l=>
   obtain⟨k1,v1⟩:=q;intro he;exact absurd (congrArg List.length he) (by simp[qh])
theorem GB:∀{l:List XS} {r:RT l},zd l=false->(fS l r).pv=none
 |[],_,_=>rfl
 |[m],r,h=>by
  have h:(m.pv.isSome||false)=false:=h;rw[Bool.or_false]at h;show(m.fill _).pv=none;cases hp:(m.fill (np m.cn r)).pv with
  |none=>rfl
  |some w=>rw[LH hp]at h;cases h
 |m::m2::l,.inl r,h=>by
  have h:(m.pv.isSome||zd (m2::l))=false:=h;rw[Bool.or_eq_false_iff]at h;show(m.fill _).pv=none;cases hp:(m.fill (np m.cn r)).pv with
  |none=>rfl
  |some w=>rw[LH hp]at h;cases h.1
 |m::m2::l,.inr r,h=>by have h:(m.pv.isSome||zd (m2::l))=false:=h;rw[Bool.or_eq_false_iff]at h;exact GB (l:=m2::l) h.2
def um[YL](rs:List eg)(o:XS)(nbs:List bp):Exit->aq->Prop:=fun e s=>match o.pv with
 |some pv=>e=px pv
 |none=>tT 0 rs (XV.val o.env).er (dw o.bs) nbs e s
theorem bHa[YL]{r:RT out}{e:Exit}(h:Ic rs out e s=some r)(hnbs:nbs.map some=dw (fS out r).own):um rs (fS out r) nbs e s.er:=by
 unfold Ic at h;split at h
 ·obtain⟨x,hx,hp,hq⟩:=qR h;cases hx;unfold um;rw[hp];exact hq _ (.inl rfl) nbs hnbs
 ·obtain⟨x,hx,hp,hq⟩:=qR h;cases hx;unfold um;rw[hp];exact hq _ (.inr rfl) nbs hnbs
 ·obtain⟨x,hx,hp,_⟩:=GD h;cases hx;unfold um;rw[hp]
 ·cases h
theorem zi.j2(fl:List Nat){rc:bq}{args:List AV}{pv:Value}{o:Option (AV×List bp)}{bs':List (Option bp)}(s0:aq)
  (hf:P.funcs[f]?=some fn) (hb:fn.body=some c) (hname:(fn.name== "runtime.NumGoroutine")=false) (hm:P.follows .mixedOrders=true) (hrc:aH P fl fn.ntmps c=some rc) (hrs:fE P fn.ntmps fn.results.toList=some rs)
  (hn:args.length<=fn.ntmps) (hw0:Wk (entry args []) s0) (h:fY P jN rc (fun e s=>match o with
   |some p=>tT 0 rs p.1 bs' p.2 e s
   |none=>e=px pv) s0):match o with
   |some p=>df P f args [] p.1 bs' p.2
   |none=>yc P f args pv:=by
 have hrs0:=Di hrs;cases o with
 |some p=>
  refine fun w G m vs hS hO hA=>.inl ⟨⟨fn,hf,by rw[hb];rfl,hname⟩,DW (r:=none) (n:=0) (callsIn_of_wp hf hb (oL none f) ?_)⟩;have hent:=zG true hn hS hO hA;have hsim0:=hw0 _ _ _ ⟨G,m,hent⟩;refine wpIn_mono (aZ hm hrc none jN _ _ _ _ _ nz.body rfl h hsim0) fun e a' w' ⟨s00,⟨s,hw,hq⟩,hA0⟩=>?_;obtain⟨G1,m1,hA'⟩:=hw _ _ _ hA0;obtain⟨v,hv,hp⟩:=Bc (bs:=[]) hrs0 rfl rfl rfl rfl hS hA' hq;have hd:a'.defers=[]:=(dC.1 hA'.defers).2.2 rfl;rcases hq.1 with rfl|rfl<;>exact⟨hd,v,hv,v,rfl,hp⟩
 |none=>
  refine fun w G m vs hS hO hA=>⟨⟨fn,hf,by rw[hb];rfl,hname⟩,DW (r:=none) (n:=0) (callsIn_of_wp hf hb (oL none f) ?_)⟩;have hent:=zG true hn hS hO hA;have hsim0:=hw0 _ _ _ ⟨G,m,hent⟩;refine wpIn_mono (aZ hm hrc none jN _ _ _ _ _ nz.body rfl h hsim0) fun e a' w' ⟨s,hq,G1,m1,hA'⟩=>?_;have hq:e=.panic [{v:=pv,recovered:=false}]:=hq;subst hq;have hd:a'.defers=[]:=(dC.1 hA'.defers).2.2 rfl;exact⟨hd,rfl,bI7 (P:=P) rfl rfl rfl rfl hS hA' rfl rfl⟩
theorem Ld(N:Nat){T:List bx}(hT:lA P T)(fl:List Nat)(A:List ko)(d:Nat)(RF:List (Nat×Nat×List Nat)){F:ku ent.cn (RT out)}(hf:P.funcs[f]?=some fn)(hb:fn.body=some c)(hname:(fn.name== "runtime.NumGoroutine")=false)(hm:P.follows .mixedOrders=true)
  (hn:ent.env.length<=fn.ntmps) (hF:∀a,jh ent.cn F a=jh ent.cn (DF N P T fl RF A d fn c ent out) a):aF P ⟨f,ent,out,F⟩:=by
 intro _ v r h nbs hnbs;have h:jh ent.cn F v=some r:=h;rw[hF]at h;unfold DF at h;split at h
 case h_2=>rw[fK]at h;cases h
 rename_i rc rs hrc hrs;have hlen:(dw (ent.fill v).bs).length=ent.bs.length:=by show(List.map _ (rK _ ent.bs _).1).length=_;rw[κ,uU]
 have hargs:((ent.fill v).env.map fun p=>p.2.er).length<=fn.ntmps:=by show(List.map _ (qh _ ent.env _).1).length<=_;rw[κ,Ee];exact hn
 show wb P f _ _ (fS out r) nbs;split at h
 ·rw[fK]at h;rename_i hany;have hpv:(fS out r).pv=none:=GB hany;unfold wb;rw[hpv];refine df.j2 fl _ hf hb hname hm hrc hrs hargs (Lb d (ent.fill v)) ?_;have:=cR hT (AR P fl RF A c rc) _ He Ai j3.no h (Q:=tT ent.bs.length rs (XV.val (fS out r).env).er (dw (fS out r).bs) nbs) fun e s' h=>by
   cases e with
   |normal=>
    obtain⟨x,hx,_,hq⟩:=qR (show qe rs ent.bs.length out s' some=some r from h);cases hx;exact hq _ (.inl rfl) nbs hnbs
   |ret=>
    obtain⟨x,hx,_,hq⟩:=qR (show qe rs ent.bs.length out s' some=some r from h);cases hx;exact hq _ (.inr rfl) nbs hnbs
   |_=>cases h
  rw[Ad]at this;rw[hlen];exact this
 ·rename_i hbs;rw[fK]at h;have hb0:dw (ent.fill v).bs=[]:=by rw[HT hbs];rfl
  have hrun:=cR hT (AR P fl RF A c rc) _ pO jN j3.body h (Q:=um rs (fS out r) nbs) fun e s' h=>bHa h hnbs;rw[Ad]at hrun;rw[hb0];have hwk:=Lb d (ent.fill v);rw[hb0]at hwk;unfold wb;cases hp:(fS out r).pv with
  |none=>
   refine zi.j2 fl (pv:=.nilIface) (o:=some ((XV.val (fS out r).env).er,nbs)) _ hf hb hname hm hrc hrs hargs hwk ?_;have e:um rs (fS out r) nbs=tT 0 rs (XV.val (fS out r).env).er (dw (fS out r).bs) nbs:=by funext e s;unfold um;rw[hp]
   rw[e]at hrun;exact hrun
  |some pv=>
   intro _;refine zi.j2 fl (pv:=pv) (o:=none) (bs':=[]) _ hf hb hname hm hrc hrs hargs hwk ?_;have e:um rs (fS out r) nbs=fun e _=>e=px pv:=by funext e s;unfold um;rw[hp]
   rw[e]at hrun;exact hrun
 ·rw[fK]at h;cases h
theorem T0(N:Nat){T:List bx}(hT:lA P T)(fl:List Nat)(A:List ko)(d:Nat){F:ku ent.cn (RT out)}(hf:P.funcs[f]?=some fn)(hb:fn.body=some c)(hname:(fn.name== "runtime.NumGoroutine")=false)(hm:P.follows .mixedOrders=true)
  (hn:ent.env.length<=fn.ntmps) (hF:∀a,jh ent.cn F a=jh ent.cn (DF N P T fl [] A d fn c ent out) a):aF P ⟨f,ent,out,F⟩:=Ld N hT fl A d [] hf hb hname hm hn hF
theorem tc{a:bx}{T:List bx}(h:aF P a)(t:lA P T):lA P (a::T):=⟨h,t⟩
theorem tn:lA P []:=trivial
theorem xf(N:Nat){T:List bx}(hT:lA P T)(fl:List Nat)(A:List ko)(d:Nat){F:ku ent.cn (RT out)}(hf:P.funcs[f]?=some fn)(hb:fn.body=some c)(hk:(!(fn.name== "runtime.NumGoroutine")&&(P.follows .mixedOrders&&ade ent.env.length fn.ntmps))=true)(hF:∀a,jh ent.cn F a=jh ent.cn (DF N P T fl [] A d fn c ent out) a):aF P ⟨f,ent,out,F⟩:=by simp only[μ,aaZ]at hk;exact T0 N hT fl A d hf hb hk.1 hk.2.1 (abd hk.2.2) hF
def dd(t:Ty):XV:=.d t t.z
end
section
variable{R:Type}
def yD(P:Program)(u u1:FrameMode)(g:bx):Prop:=∀[YL] (v:cr g.ent.cn) (r:RT g.out),jh g.ent.cn g.F v=some r->(fS g.out r).own=[]->
 rf P g.fn ((g.ent.fill v).env.map fun p=>p.2.er) (dw (g.ent.fill v).bs) u u1 (dw (fS g.out r).bs)
def LM(t:Nat)(pv:Value)(s:XS):XS:={env:=(t,.c pv)::pf 0 (wZ s.env),bs:=s.bs,own:=[]}
def MZ(s:XS):XS:={env:=pf 0 (wZ s.env),bs:=s.bs,own:=[]}
theorem Pu[YL](l:List (Nat×XV))(t:Nat):(aV (pf 0 (wZ l)) t).er=(l.map fun p=>p.2.er).getD t .un\/(aV (pf 0 (wZ l)) t).er=.any:=by
 rw[yK,if_pos (aa2 _),Nat.sub_zero];have:∀(l:List (Nat×XV)) (i:Nat),(uW (wZ l) i).er=(l.map fun p=>p.2.er).getD i .un\/(uW (wZ l) i).er=.any:=fun l=>by
  induction l with
  |nil=>intro i;exact .inr rfl
  |cons v l ih=>
   intro i;cases i with
   |zero=>exact .inl rfl
   |succ i=>
    rcases ih i with h|h
    ·left;show(uW (wZ l) i).er=(v.2.er::l.map fun p=>p.2.er).getD (i+1) .un;rw[h,adm]
    ·exact .inr h
 exact this l t
theorem RH[YL](s:XS):Wk (entry (s.env.map fun p=>p.2.er) (dw s.bs)) (MZ s).er:=by refine Wk.any (fun i=>?_) (fun i=>rfl) rfl fun t=>Pu s.env t;show(bP s.bs i).map XB.er=((dw s.bs)[i]?).join;rw[pC]
theorem X9[YL](t:Nat)(pv:Value)(s:XS):Wk (BB (s.env.map fun p=>p.2.er) (dw s.bs) t pv) (LM t pv s).er:=by
 have e:BB (s.env.map fun p=>p.2.er) (dw s.bs) t pv={env:=fun i=>if i=t then .D (.C pv)else(s.env.map fun p=>p.2.er).getD i .un,bs:=fun i=>((dw s.bs)[i]?).join,own:=fun _=>none,nx:=0}:=by
  refine aq.ext' (fun i=>?_) (fun i=>?_) (fun i=>?_) rfl
  ·show gu _ t _ i=_;unfold gu;rfl
  ·rfl
  ·rfl
 rw[e];refine Wk.any (fun i=>?_) (fun i=>rfl) rfl fun i=>?_
 ·show(bP s.bs i).map XB.er=((dw s.bs)[i]?).join;rw[pC]
 ·show(if aae i t then XV.c pv else aV (pf 0 (wZ s.env)) i).er=_\/_;show(if aae i t then XV.c pv else aV (pf 0 (wZ s.env)) i).er=(if i=t then AV.D (DV.C pv)else(List.map (fun p=>p.snd.er) s.env).getD i AV.un)\/(if aae i t then XV.c pv else aV (pf 0 (wZ s.env)) i).er=.any;by_cases h:i=t
  ·left;rw[if_pos (by rw[abA];exact h),if_pos h];rfl
  ·rw[if_neg (by rw[abA];exact h),if_neg h];exact Pu s.env i
def bT6:Code->Option (Nat×Code)
 |.seq (.region _ ops false) rest=>match ops.toList with
  |[o]=>match o.dst with
   |some t=>some (t,rest)
   |none=>none
  |_=>none
 |_=>none
def Lj(N:Nat)(P:Program)(T:List bx)(fl:List Nat)(A:List ko)(pv:Value)(t:Nat)(fn:Func)(rest:Code)(ent:XS)(out:List XS):ku ent.cn (RT out):=
 match aH P fl fn.ntmps rest,fE P fn.ntmps fn.results.toList with
 |some rc,some rs=>k8 ent.cn fun v=>fT N T (sq P fl [] A rest rc) pO (LM t pv (ent.fill v)) (QF rs ent.bs.length out)
 |_,_=>k8 ent.cn fun _=>none
theorem Ms(N:Nat){T:List bx}(hT:lA P T)(fl:List Nat)(A:List ko){id t:Nat}{o:Oper}{cl:Call}{rest:Code}{pv:Value}{F:ku ent.cn (RT out)}
  (hf:P.funcs[f]?=some fn) (hb:fn.body=some (.seq (.region id #[o] false) rest)) (hname:(fn.name== "runtime.NumGoroutine")=false)
  (ho:o.op=.call cl) (hcl:cl.callee=.builtin .recover) (hca:cl.args=#[]) (hog:o.guard=none) (hot:o.dst=some t) (ht:t<fn.ntmps) (hm:P.follows .mixedOrders=true) (hrec:ED u u1 pv)
  (hn:ent.env.length<=fn.ntmps) (hF:∀a,jh ent.cn F a=jh ent.cn (Lj N P T fl A pv t fn rest ent out) a):yD P u u1 ⟨f,ent,out,F⟩:=by
 intro _ v r h hown;have h:jh ent.cn F v=some r:=h;rw[hF]at h;unfold Lj at h;split at h
 case h_2=>rw[fK]at h;cases h
 rename_i rc rs hrc hrs;rw[fK]at h;have hlen:(dw (ent.fill v).bs).length=ent.bs.length:=by show(List.map _ (rK _ ent.bs _).1).length=_;rw[κ,uU]
 have hargs:((ent.fill v).env.map fun p=>p.2.er).length<=fn.ntmps:=by show(List.map _ (qh _ ent.env _).1).length<=_;rw[κ,Ee];exact hn
 have hown:(fS out r).own=[]:=hown;refine rf.uy fl (r:=(XV.val (fS out r).env).er) hf hb hname ho hcl hca hog hot ht hm hrc hrs hargs hrec (X9 t pv (ent.fill v)) ?_;rw[hlen];have:=cR hT (AR P fl [] A rest rc) _ pO jN j3.body h (Q:=tT ent.bs.length rs (XV.val (fS out r).env).er (dw (fS out r).bs) []) fun e s' h=>by
  cases e with
  |normal=>
   obtain⟨x,hx,_,hq⟩:=qR (show qe rs ent.bs.length out s' some=some r from h);cases hx;exact hq _ (.inl rfl) [] (by rw[hown];rfl)
  |ret=>
   obtain⟨x,hx,_,hq⟩:=qR (show qe rs ent.bs.length out s' some=some r from h);cases hx;exact hq _ (.inr rfl) [] (by rw[hown];rfl)
  |_=>cases h
 rw[Ad]at this;exact this
def Rv(N:Nat)(vs:List XV)(s:XS):XS:={s with env:=nk N s.env++pf (N+1) vs}
theorem Gm(N:Nat)(l2:List (Nat×XV))(h2:∀i,i<N->aV l2 i=.any):∀(l:List (Nat×XV)) (i:Nat),i<N->aV (nk N l++l2) i=aV l i
 |[],i,h=>h2 i h
 |(k,v)::l,i,h=>by
  unfold nk;split
  ·show(if aae i k then v else aV (nk N l++l2) i)=if aae i k then v else aV l i
   rw[Gm N l2 h2 l i h]
  ·rename_i hk;have hk:¬k<N:=fun h=>by rw[show ado k N=true by rw[Nat.blt_eq];exact h]at hk;cases hk
   show aV (nk N l++l2) i=if aae i k then v else aV l i
   rw[Gm N l2 h2 l i h,if_neg (by rw[abA];omega)]
theorem J4(N:Nat)(l2:List (Nat×XV)):∀(l:List (Nat×XV)) (i:Nat),N<=i->aV (nk N l++l2) i=aV l2 i
 |[],i,h=>rfl
 |(k,v)::l,i,h=>by
  unfold nk;split
  ·rename_i hk;have hk:k<N:=by rwa[Nat.blt_eq]at hk
   show(if aae i k then v else aV (nk N l++l2) i)=_;rw[if_neg (by rw[abA];omega),J4 N l2 l i h]
  ·exact J4 N l2 l i h
theorem Kz[YL]:∀(vs:List XV) (i:Nat),(uW vs i).er=(XV.de vs).getD i .any
 |[],i=>by cases i<;>rfl
 |v::vs,0=>rfl
 |v::vs,i+1=>by show(uW vs i).er=(v.er::XV.de vs).getD (i+1) .any;rw[Kz vs i,adm]
theorem Yg[YL](N:Nat)(vs:List XV)(s:XS):(Rv N vs s).er=BN N (XV.de vs) s.er:=by
 refine aq.ext' (fun i=>?_) (fun i=>rfl) (fun i=>rfl) rfl;show(aV (nk N s.env++pf (N+1) vs) i).er=if i<N then(aV s.env i).er else if i=N then .any else(XV.de vs).getD (i-N-1) .any
 by_cases h:i<N
 ·rw[if_pos h,Gm N _ (fun j hj=>by rw[yK,if_neg (by omega)]) _ i h]
 ·rw[if_neg h,J4 N _ _ i (by omega),yK];by_cases h2:i=N
  ·rw[if_pos h2,if_neg (by omega)];rfl
  ·rw[if_neg h2,if_pos (by omega),Kz];rw[Nat.sub_sub]
def BR(N:Nat)(s:XS):Nat->List XV
 |0=>[]
 |n+1=>BR N s n++[aV s.env (N+1+n)]
theorem Iv[YL](N:Nat)(s:XS):∀n,XV.de (BR N s n)=sd N s.er n
 |0=>rfl
 |n+1=>by show XV.de (BR N s n++[_])=sd N s.er n++[_];rw[rB,Iv N s n];rfl
def BP:List XS->Bool
 |[]=>true
 |m::l=>(match m.own with
  |[]=>true
  |_=>false)&&BP l
theorem Rk:∀{l:List XS} (r:RT l),BP l=true->(fS l r).own=[]
 |[],_,_=>rfl
 |[m],r,h=>by
  have h:((match m.own with|[]=>true|_=>false)&&true)=true:=h;rw[abY]at h;split at h
  ·rename_i ho;exact EJ ho _
  ·cases h
 |m::m2::l,.inl r,h=>by
  have h:((match m.own with|[]=>true|_=>false)&&BP (m2::l))=true:=h;rw[μ]at h;obtain⟨h,_⟩:=h;split at h
  ·rename_i ho;exact EJ ho _
  ·cases h
 |m::m2::l,.inr r,h=>by have h:((match m.own with|[]=>true|_=>false)&&BP (m2::l))=true:=h;rw[μ]at h;exact Rk (l:=m2::l) r h.2
def Mn(g:bx)(N k:Nat)(s:XS)(K:XS->Option R):Option R:=match BP g.out,J3 (IS FF s 0 g.ent.bs (CV FF (uW (BR N s k)) g.ent.env (BH g.ent.bs)))with
 |true,some hs=>Dx s g (BR N s k) none K hs
 |_,_=>none
def Cn(g:bx)(N k:Nat)(rs:List eg)(n:Nat)(out:List XS)(s:XS):Option (RT out):=Mn g N k s fun s'=>qe rs n out s' some
def MS(gr gp:bx)(pv:Value)(N k:Nat)(rs:List eg)(n:Nat)(out:List XS):Exit->XS->Option (RT out)
 |.normal,s=>Cn gr N k rs n out s
 |.ret,s=>Cn gr N k rs n out s
 |.panic [⟨v,false,false⟩],s=>match CC v pv with
  |true=>Cn gp N k rs n out s
  |false=>none
 |_,_=>none
def BU(N:Nat)(T:List bx){R:Type}[DecidableEq R](K2:Exit->XS->Option R):List XC->XS->(XS->Option R)->Option R
 |[],s,K=>K s
 |c::cs,s,K=>fT N T c pO s (Ak (fun s'=>BU N T K2 cs s' K) K2)
def Vs(rs:List eg)(n:Nat)(out:List XS):Exit->XS->Option (RT out)
 |.ret,s=>qe rs n out s some
 |_,_=>none
def Gv:Code->List Code
 |.seq a b=>a::Gv b
 |c=>[c]
def Kh:Nat->Code->Code
 |0,c=>c
 |n+1,.seq _ b=>Kh n b
 |_,c=>c
def AA(P:Program)(fl:List Nat):List (List ko)->List Code->List bq->List XC
 |AP,c::cs,rc::rcs=>sq P fl [] (AP.headD []) c rc::AA P fl AP.tail cs rcs
 |AP,[],rc::rcs=>sq P fl [] [] .skip rc::AA P fl AP.tail [] rcs
 |_,_,[]=>[]
def QN:List Code->Nat->List Oper
 |[],_=>[]
 |c::_,0=>match c with
  |.region _ ops _=>ops.toList
  |_=>[]
 |_::cs,n+1=>QN cs n
def FY(N:Nat)(P:Program)(T:List bx)(fl:List Nat)(A:List ko)(AP:List (List ko))(gr gp:bx)(pv:Value)(fn:Func)(c:Code)(ent:XS)(out:List XS):ku ent.cn (RT out):=
 match fC P fl fn.ntmps c,fE P fn.ntmps fn.results.toList with
 |some (rcs,ros,g,xs,rc),some rs=>match aae g gr.fn&&aae g gp.fn with
  | true=>k8 ent.cn fun v=>BU N T (Vs rs ent.bs.length out) (AA P fl AP (Gv c) rcs) (MZ (ent.fill v)) fun s=>qf T (yB ros ((QN (Gv c) rcs.length).map (yH P))) s fun s=>wL s xs fun vs =>
    fT N T (sq P fl [] A (Kh (rcs.length+1) c) rc) pO (Rv fn.ntmps vs s) (MS gr gp pv fn.ntmps xs.length rs ent.bs.length out)
  |false=>k8 ent.cn fun _=>none
 |_,_=>k8 ent.cn fun _=>none
theorem G7[YL]{P:Program}{N:Nat}{T:List bx}(hT:lA P T){fl:List Nat}[DecidableEq R]{r:R}{KP:aq->Prop}{Q:Exit->aq->Prop}{K:XS->Option R}{K2:Exit->XS->Option R}(hK:∀s,K s=some r->KP s.er)(hQ:∀e s,K2 e s=some r->Q e s.er):∀{AP:List (List ko)} {cs:List Code} {rcs:List bq} {s:XS},BU N T K2 (AA P fl AP cs rcs) s K=some r->ze P rcs KP Q s.er
 |_,[],[],s,h=>hK s h
 |_,_::_,[],s,h=>hK s h
 |AP,[],rc::rcs,s,h=>by
  have h:fT N T (sq P fl [] [] .skip rc) pO s (Ak (fun s'=>BU N T K2 (AA P fl AP.tail [] rcs) s' K) K2)=some r:=h;have:=cR hT (AR P fl [] [] .skip rc) _ pO jN j3.body h (Q:=yG (ze P rcs KP Q) Q) fun e s' h=>by
   cases e with
   |normal=>exact G7 hT hK hQ h
   |_=>exact hQ _ _ h
  rw[Ad]at this;exact this
 |AP,c::cs,rc::rcs,s,h=>by
  have h:fT N T (sq P fl [] (AP.headD []) c rc) pO s (Ak (fun s'=>BU N T K2 (AA P fl AP.tail cs rcs) s' K) K2)=some r:=h;have:=cR hT (AR P fl [] (AP.headD []) c rc) _ pO jN j3.body h (Q:=yG (ze P rcs KP Q) Q) fun e s' h=>by
   cases e with
   |normal=>exact G7 hT hK hQ h
   |_=>exact hQ _ _ h
  rw[Ad]at this;exact this
theorem GY[YL]{g:bx}(hg:yD P u u1 g){r:RT out}(h:Cn g N k rs n out s=some r)(hnbs:nbs.map some=dw (fS out r).own):
  ∃hs nc,hs.Nodup/\tq s.er.nx hs=true/\(∀h∈hs,(s.er.lk h).any bp.qv=false)/\nc.length=hs.length/\
   rf P g.fn (AV.bu s.er.lk (oq hs) (sd N s.er k)) (uN s.er.lk hs) u u1 nc/\tT n rs (XV.val (fS out r).env).er (dw (fS out r).bs) nbs .ret (gV s.er hs (sd N s.er k) none .any nc []):=by
 unfold Cn Mn at h;split at h
 case h_2=>cases h
 rename_i hds hno _;obtain⟨v,rr,bl,hr,hbl,hpv,hargs,hh,c1,c2,c3,c4,c5,hk,he⟩:=MM h;have hown:=Rk rr hno;have hrec:=hg v rr hr hown;rw[hargs,<-hh,Iv]at hrec;obtain⟨x,hx,_,hq⟩:=qR hk;cases hx;have hend:=hq .ret (.inr rfl) nbs hnbs;rw[he,Iv]at hend;have hbl0:bl=[]:=by rw[hown]at hbl;exact abR.1 (abR.1 hbl)
 subst hbl0;exact⟨hds,_,c1,c2,c4,c5,hrec,hend⟩
theorem U9(N:Nat){T:List bx}(hT:lA P T)(fl:List Nat)(A:List ko)(AP:List (List ko)){gr gp:bx}{pv:Value}(hgr:yD P .returning .returning gr)(hgp:yD P (.panicking [{v:=pv,recovered:=false}]) (.panicking [{v:=pv,recovered:=true}]) gp){F:ku ent.cn (RT out)}(hf:P.funcs[f]?=some fn)(hb:fn.body=some c)(hname:(fn.name== "runtime.NumGoroutine")=false)(hm:P.follows .mixedOrders=true)
  (hno:zd out=false) (hn:ent.env.length<=fn.ntmps) (hF:∀a,jh ent.cn F a=jh ent.cn (FY N P T fl A AP gr gp pv fn c ent out) a):aF P ⟨f,ent,out,F⟩:=by
 intro _ v r h nbs hnbs;have h:jh ent.cn F v=some r:=h;rw[hF]at h;unfold FY at h;split at h
 case h_2=>rw[fK]at h;cases h
 rename_i rcs ros g xs rc rs hrc hrs;split at h
 case h_2=>rw[fK]at h;cases h
 rename_i hg;rw[fK]at h;rw[μ]at hg;have hg1:=θ hg.1;have hg2:=θ hg.2;have hlen:(dw (ent.fill v).bs).length=ent.bs.length:=by show(List.map _ (rK _ ent.bs _).1).length=_;rw[κ,uU]
 have hargs:((ent.fill v).env.map fun p=>p.2.er).length<=fn.ntmps:=by show(List.map _ (qh _ ent.env _).1).length<=_;rw[κ,Ee];exact hn
 show wb P f _ _ (fS out r) nbs;unfold wb;rw[GB hno];refine df.re fl hf hb hname hm hrc hrs hargs (RH (ent.fill v)) ?_;rw[hlen];refine G7 hT (fun s h=>?_) (fun e s h=>?_) h
 case refine_2=>
  cases e with
  |ret=>
   obtain⟨x,hx,_,hq⟩:=qR (show qe rs ent.bs.length out s some=some r from h);cases hx;exact hq _ (.inr rfl) nbs hnbs
  |_=>cases h
 have:=lW hT h (KP:=fun s'=>fY P jN rc (Dy P fn.ntmps ent.bs.length g xs.length rs (XV.val (fS out r).env).er (dw (fS out r).bs) nbs) (BN fn.ntmps (xs.map s'.ev) s')) fun s' h=>by
  obtain⟨vs,h,e⟩:=zq h;rw[e,<-Yg];have:=cR hT (AR P fl [] A _ rc) _ pO jN j3.body h (Q:=Dy P fn.ntmps ent.bs.length g xs.length rs (XV.val (fS out r).env).er (dw (fS out r).bs) nbs) fun e s2 h=>by
   unfold MS at h;split at h
   ·obtain⟨hs,nc,q⟩:=GY hgr h hnbs;rw[<-hg1]at q;exact⟨_,_,.inl ⟨.inl rfl,rfl,rfl⟩,hs,nc,q⟩
   ·obtain⟨hs,nc,q⟩:=GY hgr h hnbs;rw[<-hg1]at q;exact⟨_,_,.inl ⟨.inr rfl,rfl,rfl⟩,hs,nc,q⟩
   ·split at h
    ·rename_i w _ he;obtain rfl:=HU he;obtain⟨hs,nc,q⟩:=GY hgp (by assumption) hnbs;rw[<-hg2]at q;exact⟨_,_,.inr ⟨_,rfl,rfl,rfl⟩,hs,nc,q⟩
    ·cases h
   ·cases h
  rw[Ad]at this;exact this
 rw[pD]at this;exact this
theorem LF(N:Nat){T:List bx}(hT:lA P T)(fl:List Nat)(A:List ko){gr gp:bx}{pv:Value}(hgr:yD P .returning .returning gr)(hgp:yD P (.panicking [{v:=pv,recovered:=false}]) (.panicking [{v:=pv,recovered:=true}]) gp){F:ku ent.cn (RT out)}(hf:P.funcs[f]?=some fn)(hb:fn.body=some c)(hname:(fn.name== "runtime.NumGoroutine")=false)(hm:P.follows .mixedOrders=true)
  (hno:zd out=false) (hn:ent.env.length<=fn.ntmps) (hF:∀a,jh ent.cn F a=jh ent.cn (FY N P T fl A [] gr gp pv fn c ent out) a):aF P ⟨f,ent,out,F⟩:=U9 N hT fl A [] hgr hgp hf hb hname hm hno hn hF
end
end Go.Eng
namespace Go.Eng
open Go.RowKit Go.ChangeShapes Go.WideShapes Go.ChangeAt
variable{P:Program}{t e:TypeId}{G:Gh}{m:HM}{W w:World}{v:Value}{α H:Type}{k base:Nat}{cs:List Value}{ds:List DV}{f:Nat->Option Value}{vs:Array Value}{d:TypeDesc}
def qg(w:World):Gh:=fun b o=>w.cell? ⟨b,o,none⟩
def gf(G:Gh)(ds:List DV)(cs:List Value):Prop:=ds.length=cs.length/\DV.cells G (fun j=>cs[j]?) 0 ds
theorem gf.nil:gf G [] []:=⟨rfl,by simp[DV.cells]⟩
theorem gf.app{d1 d2:List DV}(n:Nat)(h1:gf G d1 (cs.take n))(h2:gf G d2 (cs.drop n)):gf G (d1++d2) cs:=by
 obtain⟨l1,c1⟩:=h1;obtain⟨l2,c2⟩:=h2;rw[aaq]at l1;rw[aaz]at l2;refine⟨by rw[ε];omega,DV.gn (DV.ez (fun i hi=>?_) c1) (DV.ez (o:=0) (fun i hi=>?_) c2)⟩
 ·simp only[aal];rw[aaH (by omega)]
 ·simp only[aal];rw[abe];rcases aaY n cs.length with h|h
  ·rw[show d1.length=n by omega]
  ·exfalso;omega
theorem gf.one{d:DV}(h:DV.au G d v):gf G [d] [v]:=⟨rfl,by simp[DV.cells];exact h⟩
structure Cv (P:Program) (t:TypeId) {α:Type} (row:α->List DV) (k:Nat) (ok:α->Prop):Prop where
 len:∀x,(row x).length=k
 cells:P.cellsOf t=k
 get:∀{H:Type} (enc:TypeId×Value->H) (w:World) (spare:Nat->Bool) (held:Bool) (fuel:Nat) (cs:List Value) (r:DataW H×List MemPlace),DataW.trod enc P w 0 spare held fuel t cs=some r->∃x,ok x/\gf (qg w) (row x) cs
theorem Cv.int{P:Program}{t:TypeId}{k:IntKind}(ht:P.underlying t=some (.int k))(hc:P.cellsOf t=1):Cv P t (Ty.i k).ds 1 fun n=>k.min<=n/\n<=k.max:=
 ⟨fun _=>rfl,hc,fun enc w spare held fuel cs r h=>by
  obtain⟨n,rfl,_,hw⟩:=DataW.trod_int ht h;simp only[Lit.wf,μ,decide_eq_true_eq]at hw;exact⟨n,hw,gf.one (by unfold DV.au;rfl)⟩⟩
theorem Cv.bool{P:Program}{t:TypeId}(ht:P.underlying t=some .bool)(hc:P.cellsOf t=1):Cv P t Ty.b.ds 1 fun _=>True:=
 ⟨fun _=>rfl,hc,fun enc w spare held fuel cs r h=>by
  obtain⟨b,rfl,_⟩:=DataW.trod_bool ht h;exact⟨b,trivial,gf.one (by unfold DV.au;rfl)⟩⟩
theorem Cv.string{P:Program}{t:TypeId}(ht:P.underlying t=some .string)(hc:P.cellsOf t=1):Cv P t Ty.s.ds 1 fun s=>s.length<=9223372036854775807:=
 ⟨fun _=>rfl,hc,fun enc w spare held fuel cs r h=>by
  obtain⟨s,rfl,_,hs⟩:=DataW.trod_string ht h;exact⟨s.data.toList,by simpa[maxLen]using hs,gf.one (by unfold DV.au;rfl)⟩⟩
theorem HB{α:Type}{Q:Nat->α->Prop}:∀(n:Nat),(∀i,i<n->∃x,Q i x)->∃xs:List α,xs.length=n/\∀i x,xs[i]?=some x->Q i x
 |0,_=>⟨[],rfl,fun i x h=>by simp at h⟩
 |n+1,h=>by
  obtain⟨xs,h1,h2⟩:=HB n (fun i hi=>h i (by omega));obtain⟨x,hx⟩:=h n (by omega);refine⟨xs++[x],by simp[h1],fun i y hy=>?_⟩;rcases aaY i xs.length with hi|hi
  ·rw[aak hi]at hy;exact h2 i y hy
  ·rw[aam hi]at hy;have:i-xs.length=0:=by
    rcases Nat.eq_zero_or_pos (i-xs.length)with e|e
    ·exact e
    ·rw[aay (by simp;omega)]at hy;cases hy
   rw[this]at hy;simp at hy;subst hy;rw[show i=n by omega];exact hx
theorem LO{α:Type}{G:Gh}{row:α->List DV}{k:Nat}{f:Nat->Option Value}(hk:∀x,(row x).length=k):∀(xs:List α) (o:Nat),(∀i x,xs[i]?=some x->DV.cells G f (o+i*k) (row x))->DV.rows G f k o (xs.map row)
 |[],_,_=>by simp[DV.rows]
 |x::xs,o,h=>by simp only[aaN];unfold DV.rows;refine⟨hk x,by simpa using h 0 x rfl,LO hk xs (o+k) (fun i y hy=>?_)⟩;have:=h (i+1) y (by simpa using hy);rwa[Nat.add_mul,Nat.one_mul,Nat.add_comm (i*k) k,<-abJ]at this
theorem Cv.slice{P:Program}{t e:TypeId}{α:Type}{row:α->List DV}{k:Nat}{ok:α->Prop}(hE:Cv P e row k ok)(hk:0<k)(ht:P.underlying t=some (.slice e))(hc:P.cellsOf t=1):
  Cv P t (fun xs:List α=>[DV.L (xs.map row)]) 1 fun xs=>xs.length<=9223372036854775807/\∀x∈xs,ok x:=
 ⟨fun _=>rfl,hc,fun enc w spare held fuel cs r h=>by
  rcases Go.Deep.open_slice ht h with⟨rfl,_⟩|⟨a,len,cap,m,n,D,Pl,rfl,_,hl,hm,hmm,_,hi⟩
  ·refine⟨[],⟨by simp,by simp⟩,gf.one ?_⟩;unfold DV.au;exact⟨none,0,rfl,me _,fun _=>rfl,fun h=>absurd rfl h⟩
  ·have hlm:len<=m:=by rw[hmm];split<;>omega
   obtain⟨xs,h1,h2⟩:=HB (Q:=fun i x=>ok x/\∃cs',w.cells? 0 (a.add (i*P.cellsOf e)) (P.cellsOf e)=some cs'/\gf (qg w) (row x) cs') len (fun i hil=>by
    obtain⟨cs',hc',htr⟩:=hi i (by omega);obtain⟨x,hx,hr⟩:=hE.get enc w spare held n cs' _ htr;exact⟨x,hx,cs',hc',hr⟩)
   refine⟨xs,⟨by rw[h1];simp[maxLen]at hm;omega,fun x hx=>?_⟩,gf.one ?_⟩
   ·obtain⟨i,hi⟩:=aaK hx;exact(h2 i x hi).1
   ·unfold DV.au;refine⟨some a,cap,by rw[κ,h1],by rw[κ,h1];exact hl,(fun e=>by cases e),fun hne=>?_⟩;have hx0:∃x,xs[0]?=some x:=by
     cases xs with
     |nil=>simp at hne
     |cons x _=>exact⟨x,rfl⟩
    obtain⟨x0,hx0⟩:=hx0;obtain⟨_,cs0,hc0,hl0,_⟩:=h2 0 x0 hx0;obtain⟨_,hcl0,hat0⟩:=World.cells?_some hc0;rw[hE.cells]at hcl0 hat0;have hspot:a=⟨a.block,a.off,none⟩:=by
     have h3:=hat0 0 hk;have h4:(cs0[0]?).isSome=true:=by rw[ξ (by omega)];rfl
     rw[<-h3]at h4;obtain⟨b,o,sp⟩:=a;cases sp with
     |none=>rfl
     |some _=>exfalso;simp[World.cell?,Addr.add]at h4;split at h4<;>cases h4
    refine⟨a.block,a.off,k,by rw[<-hspot],LO hE.len xs a.off (fun i x hx=>?_)⟩;obtain⟨_,cs',hc',hl',hcr⟩:=h2 i x hx;obtain⟨_,hcl,hat⟩:=World.cells?_some hc';rw[hE.cells]at hcl hat;refine DV.ez (o:=0) (fun j hj=>?_) hcr;have hj':j<k:=by rw[hE.len]at hj;exact hj
    have:=hat j hj';rw[hspot,Addr.add_lit,Addr.add_lit]at this;rw[aal,<-this];rfl⟩
theorem Cv.struct{P:Program}{t:TypeId}{fs:Array Field}{α:Type}{row:α->List DV}{k:Nat}{ok:α->Prop}(ht:P.underlying t=some (.struct fs))(hc:P.cellsOf t=k)(hlen:∀x,(row x).length=k)
  (h:∀(G:Gh) (cs:List Value),cs.length=k->(∀(i:Nat) (f:Field),fs[i]?=some f->∀{α:Type} {row:α->List DV} {k':Nat} {ok:α->Prop},Cv P f.type row k' ok->∃x,ok x/\gf G (row x) ((cs.drop f.offset).take k'))->∃x,ok x/\gf G (row x) cs):Cv P t row k ok:=
 ⟨hlen,hc,fun enc w spare held fuel cs r hr=>by
  obtain⟨xs,n,_,_,hcl,hxl,hf⟩:=DataW.trod_struct ht hr;refine h (qg w) cs (by rw[hcl,hc]) (fun i f hi α' row' k' ok' hcv=>?_);have h1:=hf i f hi;have hlt:=(Array.getElem?_eq_some_iff.1 hi).1;rw[ξ (by omega)]at h1;obtain⟨x,hx,hxr⟩:=hcv.get enc w spare held n _ _ h1;rw[hcv.cells]at hxr;exact⟨x,hx,hxr⟩⟩
theorem gf.cons{rest:List DV}{o:Nat}(h1:gf G ds ((cs.drop o).take k))(h2:gf G rest (cs.drop (o+k))):gf G (ds++rest) (cs.drop o):=
 gf.app k h1 (by rwa[abc])
theorem Qf(h:gf G ds cs):AV.bg G m (ds.map .D) cs:=
 AV.kf h.2 (fun j hj=>by rw[aal]) h.1.symm
theorem EO{d:DV}(h:gf G [d] v.cells.toList)(hv:v.oneCell'=true):AV.au G m (.D d) v:=by have:=Qf (m:=m) h;rw[QR hv]at this;simp only[aaN,List.map_nil]at this;unfold AV.bg at this;obtain⟨u,us,e,h2,_⟩:=this;cases e;exact h2
theorem Qo{cs:Array Value}(h:gf G ds cs.toList):AV.au G m (.agg (ds.map .D)) (.agg cs):=by unfold AV.au;exact⟨cs,rfl,Qf h⟩
theorem Zt(w:World)(hg:pr (qg w)):cj (qg w) (fun _=>none) (gD [] []) w:=⟨(fun _ _ _ h=>by cases h),(fun _ h=>by cases h),(fun _ _ _ _ _ h=>by cases h),(fun _ _ _ h=>h),(fun _ h=>by cases h),hg,(fun _ _ _ _ h=>by cases h)⟩
theorem db.calls{f:FuncId}{R:Value->World->Prop}(hfn:y9 P f)(h:db P f vs w R):Calls P f vs w fun e w'=>∃v,e=.returned v/\R v w':=by
 rcases h with⟨_,h⟩|⟨v,w',h1,_⟩
 ·exact h
 ·exfalso;obtain⟨fd,q1,q2,q3⟩:=hfn;have hnone:fd.body.isNone=false:=by rw[Option.isNone_eq_false_iff];exact q2
  simp only[callFunc,Sem.run_bind,run_program,Result.andThen_ok,q1,q3,hnone,Bool.false_eq_true,if_false]at h1;simp at h1
theorem bBp{f:FuncId}{args:List AV}(hfn:y9 P f)(hg:pr (qg w))(hc:df P f args [] (.D (.B true)) [] [])(hr:AV.bg (qg w) (fun _=>none) args vs.toList):
  Calls P f vs w fun e w'=>e=.returned (.bool true)/\Below w.heap.size w w':=
 (db.calls hfn (hc w (qg w) _ vs (Zt w hg) (fun _=>rfl) hr)).mono fun e w' ⟨v,he,G',m',_,hv,hF,_⟩=>by have:=vg hv;subst this;exact⟨he,hF.os,hF.tape.1,hF.output,hF.size,fun b hb=>hF.heap b hb (Own.no b)⟩
theorem Pb{H:Type}{enc:TypeId×Value->H}{P:Program}(hl:laidOutB P=true){W W':World}(hb:Below W.heap.size W W')(sp:Nat->Bool):∀{ts:List TypeId} {vs:List Value} {ds:List (DataW H)} {ps:List MemPlace},
  (∀t∈ts,P.readableRec t=true/\t<P.types.size)->DataW.TrodAll enc P W 0 (fun _=>true) true ts vs ds ps->(∀p∈ps,p.block<W.heap.size)->(∀p∈ps,sp p.block=true)->DataW.TrodAll enc P W' 0 sp true ts vs ds ps
 |[],[],[],_,_,h,_,_=>h
 |t::ts,v::vs,d::ds,ps,ht,h,hlt,hsp=>by
  obtain⟨p,q,h1,h2,rfl⟩:=h;exact⟨p,q,WideElems.Trod_stays hl (ht t (by simp)).1 (ht t (by simp)).2 h1 (fun x hx=>hb.same (hlt x (by simp[hx]))) (fun x hx=>hsp x (by simp[hx])),
   Pb hl hb sp (fun t' h'=>ht t' (by simp[h'])) h2 (fun x hx=>hlt x (by simp[hx])) (fun x hx=>hsp x (by simp[hx])),rfl⟩
 |[],[],_::_,_,_,h,_,_=>h.elim
 |[],_::_,ds,_,_,h,_,_=>by cases ds<;>exact h.elim
 |_::_,[],ds,_,_,h,_,_=>by cases ds<;>exact h.elim
 |_::_,_::_,[],_,_,h,_,_=>h.elim
theorem bHd{f:Func}{s:ChangeSpec}{enc:TypeId×Value->H}{W':World}{args:Array Value}{ds:List (DataW H)}{before:List MemPlace}{tb:TypeId}(hl:laidOutB P=true)
  (hW:DataW.Whole enc P f.params.toList s.vars false W args.toList ds [] before) (hvars:s.vars=[]) (hs:s.fn H (ds++[])={results:=[.lit (.bool true)],args:=ds}) (hr:f.resultTypes=#[tb]) (htb:P.underlying tb=some .bool)
  (hp:∀t∈f.params.toList,P.readableRec t=true/\t<P.types.size) (hb:Below W.heap.size W W'):s.post enc P f false true false false W args (.bool true) W':=by
 have hlt:∀p∈before,p.block<W.heap.size:=fun p hp=>hW.lt p hp;have hW0:=hW;obtain⟨p,q,hA,hV,hpq,hz,hn⟩:=hW0;have hV0:=hV;rw[hvars]at hV0;have hq:q=[]:=by simpa[DataW.TrodVars]using hV0
 subst hq;rw[aac]at hpq;subst hpq;have hstay:∀sp:Nat->Bool,(∀x∈before,sp x.block=true)->DataW.TrodAll enc P W' 0 sp true f.params.toList args.toList ds before:=fun sp hsp=>Pb hl hb sp hp hA hlt hsp;have hres:∀(b:Nat) (sp:Nat->Bool) (hd:Bool),DataW.TrodAll enc P W' b sp hd f.resultTypes.toList ((Value.bool true).resultList f.resultTypes.size) [.lit (.bool true)] []:=fun b sp hd=>by rw[hr];exact trodAll_mk1 ⟨1,by simp[DataW.trod,Value.cells,htb]⟩
 have hvt:∀sp:Nat->Bool,DataW.TrodVars enc P W' sp s.vars (s.fn H (ds++[])).vars []:=fun sp=>by rw[hvars,hs];exact rfl
 refine⟨ds,[],before,[],before,[],hW,by rw[hs];exact hres _ _ _,by rw[hs];exact hstay _ (fun p hp=>by simpa using hlt p hp),hvt _,World.keptBut_mono (fun p hp=>⟨hp,.inr (.inl hp)⟩) (hb.frame (· ∈before)),fun h=>by cases h⟩
theorem DV.lz{G:Gh}{f:Nat->Option Value}:∀{ds:List DV} {o:Nat},(∀i d,ds[i]?=some d->∃v,f (o+i)=some v/\DV.au G d v)->DV.cells G f o ds
 |[],o,_=>by unfold DV.cells;trivial
 |d::ds,o,h=>by
  unfold DV.cells;obtain⟨v,h1,h2⟩:=h 0 d rfl;exact⟨⟨v,h1,h2⟩,DV.lz fun i e hi=>by
   obtain⟨u,h3,h4⟩:=h (i+1) e (by simpa using hi);exact⟨u,by rw[<-h3];congr 1;omega,h4⟩⟩
theorem Cv.array{P:Program}{t e:TypeId}{n:Nat}{k:IntKind}(he:P.underlying e=some (.int k))(hce:P.cellsOf e=1)(ht:P.underlying t=some (.array n e))(hc:P.cellsOf t=n):
  Cv P t (Ty.ar n k).ds n fun x=>∀y∈x.l,k.min<=y/\y<=k.max:=⟨fun x=>Ty.fo (.ar n k) x,hc,fun enc w spare held fuel cs r h=>by
  obtain⟨xs,m,_,_,hcl,hxl,hf⟩:=DataW.trod_array ht h;rw[hc]at hcl;simp only[hce,aaL]at hf;obtain⟨zs,hl,hz⟩:=HB (Q:=fun i z=>(k.min<=z/\z<=k.max)/\cs[i]?=some (.int k z)) n fun i hi=>by have h1:=hf i hi;rw[ξ (by omega)]at h1;obtain⟨z,hz,_,hw⟩:=DataW.trod_int he h1;simp only[Lit.wf,μ,decide_eq_true_eq]at hw;refine⟨z,hw,?_⟩;have h2:=congrArg (·[0]?) hz;simpa[List.getElem?_take,abe]using h2
  refine⟨⟨zs,hl⟩,fun y hy=>?_,?_⟩
  ·obtain⟨i,hi⟩:=aaK hy;exact(hz i y hi).1
  ·refine⟨by rw[Ty.fo];show n=_;omega,DV.lz fun i d hd=>?_⟩;have hd:(zs.map (DV.I k))[i]?=some d:=hd;rw[aaf,ι]at hd;obtain⟨z,hz1,rfl⟩:=hd;exact⟨_,by rw[aal];exact(hz i z hz1).2,by unfold DV.au;rfl⟩⟩
theorem VW{name:String}{g:Nat}{k:IntKind}{zs:List Int}(hT:Lib.TabIs P W name k zs)(hg:P.globalNamed name=some g):DV.cells (qg W) (qg W g) 0 (zs.map (DV.I k)):=by refine DV.lz fun i d hd=>?_;rw[aaf,ι]at hd;obtain⟨z,hz,rfl⟩:=hd;have hi:i<zs.length:=(χ.1 hz).1;refine⟨.int k z,?_,by unfold DV.au;rfl⟩;have h1:=hT.cell hg i hi;rw[List.getD,hz]at h1;rw[aal];exact h1
def Ty.ok:(t:Ty)->t.T->Prop
 |.i k,n=>k.min<=n/\n<=k.max
 |.s,x=>x.length<=9223372036854775807
 |.sl t,xs=>xs.length<=9223372036854775807/\∀x∈xs,t.ok x
 |.ar _ k,x=>∀y∈x.l,k.min<=y/\y<=k.max
 |.p a c,v=>a.ok v.1/\c.ok v.2
 |.w a,v=>a.ok v
 |_,_=>True
def sf:TypeDesc->TypeDesc->Bool
 |.bool,.bool=>true
 |.string,.string=>true
 |.int k,.int k'=>decide (k=k')
 |_,_=>false
theorem bQh:∀{a b:TypeDesc},sf a b=true->a=b:=by intro a b h;unfold sf at h;split at h<;>first|rfl|(rw[of_decide_eq_true h];done)|cases h
def Fe(P:Program)(t:TypeId)(d:TypeDesc):Bool:=match P.underlying t with
 |some d'=>sf d' d
 |none=>false
theorem Rw(h:Fe P t d=true):P.underlying t=some d:=by
 unfold Fe at h;split at h
 ·rename_i d' hd;rw[hd,bQh h]
 ·cases h
def yU(P:Program)(t:TypeId)(d:TypeDesc):Bool:=Fe P t d&&aae (P.cellsOf t) 1
def yd(g:TypeId->Bool)(fs:List Field)(o:Nat):Bool:=match fs with
 |[f]=>aae f.offset o&&g f.type
 |_=>false
def AE(P:Program)(n:Nat)(g:TypeId->Bool)(t:TypeId):Bool:=match P.underlying t with
 |some (.slice e)=>g e&&aae (P.cellsOf t) 1&&ado 0 n
 |_=>false
def Ap(P:Program)(n:Nat)(k:IntKind)(t:TypeId):Bool:=match P.underlying t with
 |some (.array m e)=>aae m n&&Fe P e (.int k)&&aae (P.cellsOf e) 1&&aae (P.cellsOf t) n
 |_=>false
def A5(P:Program)(n:Nat)(g:List Field->Nat->Bool)(t:TypeId):Bool:=match P.underlying t with
 |some (.struct fs)=>g fs.toList 0&&aae (P.cellsOf t) n
 |_=>false
def J6(n:Nat)(g:TypeId->Bool)(h:List Field->Nat->Bool)(fs:List Field)(o:Nat):Bool:=match fs with
 |f::fs=>aae f.offset o&&g f.type&&h fs (o+n)
 |[]=>false
def Sc:List Field->Nat->Bool
 |[],_=>true
 |_,_=>false
def lf(P:Program):Ty->(TypeId->Bool)×(List Field->Nat->Bool)
 |.u=>(fun _=>false,Sc)
 |.b=>(fun t=>yU P t .bool,yd fun t=>yU P t .bool)
 |.i k=>(fun t=>yU P t (.int k),yd fun t=>yU P t (.int k))
 |.s=>(fun t=>yU P t .string,yd fun t=>yU P t .string)
 |.ar n k=>(Ap P n k,yd (Ap P n k))
 |.sl t=>(AE P t.n (lf P t).1,yd (AE P t.n (lf P t).1))
 |.w x=>(A5 P x.n (lf P x).2,yd (A5 P x.n (lf P x).2))
 |.p a c=>(fun _=>false,J6 a.n (lf P a).1 (lf P c).2)
 |.o _=>(fun _=>false,fun _ _=>false)
def YT(P:Program)(G:Gh)(cs:List Value)(f:Field):Prop:=∀{α:Type} {row:α->List DV} {k':Nat} {ok:α->Prop},Cv P f.type row k' ok->∃x,ok x/\gf G (row x) ((cs.drop f.offset).take k')
def PF(P:Program)(t:Ty)(fs:List Field)(o:Nat):Prop:=∀(G:Gh) (cs:List Value),cs.length=o+t.n->(∀f∈fs,YT P G cs f)->∃x:t.T,t.ok x/\gf G (t.ds x) (cs.drop o)
theorem uS{g:TypeId->Bool}{t:Ty}(hg:∀i,g i=true->Cv P i t.ds t.n t.ok){fs:List Field}{o:Nat}(h:yd g fs o=true):PF P t fs o:=by
 unfold yd at h;split at h
 ·rename_i f;simp only[μ]at h;have ho:=θ h.1;intro G cs hl hf;obtain⟨x,hx,hr⟩:=hf f (List.mem_singleton.2 rfl) (hg _ h.2);refine⟨x,hx,?_⟩;rw[ho,aaw (by rw[aaz];omega)]at hr;exact hr
 ·cases h
theorem nH(h:yU P t d=true):P.underlying t=some d/\P.cellsOf t=1:=by simp only[yU,μ]at h;exact⟨Rw h.1,θ h.2⟩
theorem Cx(P:Program):∀T:Ty,(∀i,(lf P T).1 i=true->Cv P i T.ds T.n T.ok)/\∀fs o,(lf P T).2 fs o=true->PF P T fs o
 |.u=>by
  refine⟨fun _ h=>(by cases h),fun fs o h=>?_⟩;cases fs with
  |nil=>exact fun G cs hl _=>⟨(),trivial,by rw[List.drop_of_length_le (by simp[hl,Ty.n])];exact gf.nil⟩
  |cons _ _=>cases h
 |.b=>by
  have h1:∀i,yU P i .bool=true->Cv P i Ty.b.ds 1 Ty.b.ok:=fun i h=>Cv.bool (nH h).1 (nH h).2;exact⟨h1,fun fs o h=>uS (t:=.b) h1 h⟩
 |.i k=>by
  have h1:∀i,yU P i (.int k)=true->Cv P i (Ty.i k).ds 1 (Ty.i k).ok:=fun i h=>Cv.int (nH h).1 (nH h).2;exact⟨h1,fun fs o h=>uS (t:=.i k) h1 h⟩
 |.s=>by
  have h1:∀i,yU P i .string=true->Cv P i Ty.s.ds 1 Ty.s.ok:=fun i h=>Cv.string (nH h).1 (nH h).2;exact⟨h1,fun fs o h=>uS (t:=.s) h1 h⟩
 |.ar n k=>by
  have h1:∀i,Ap P n k i=true->Cv P i (Ty.ar n k).ds n (Ty.ar n k).ok:=fun i h=>by
   unfold Ap at h;split at h
   ·rename_i m e hu;simp only[μ,decide_eq_true_eq]at h;obtain⟨⟨⟨h1,h2⟩,h3⟩,h4⟩:=h;obtain rfl:=θ h1;exact Cv.array (Rw h2) (θ h3) hu (θ h4)
   ·cases h
  exact⟨h1,fun fs o h=>uS (t:=.ar n k) h1 h⟩
 |.sl t=>by
  have h1:∀i,AE P t.n (lf P t).1 i=true->Cv P i (Ty.sl t).ds 1 (Ty.sl t).ok:=fun i h=>by
   unfold AE at h;split at h
   ·rename_i e hu;simp only[μ]at h;exact Cv.slice ((Cx P t).1 _ h.1.1) (aa0 Nat.zero_lt_one (abd h.2)) hu (θ h.1.2)
   ·cases h
  exact⟨h1,fun fs o h=>uS (t:=.sl t) h1 h⟩
 |.w x=>by
  have h1:∀i,A5 P x.n (lf P x).2 i=true->Cv P i (Ty.w x).ds x.n (Ty.w x).ok:=fun i h=>by
   unfold A5 at h;split at h
   ·rename_i fs hu;simp only[μ]at h;refine Cv.struct hu (θ h.2) (fun y=>Ty.fo x y) fun G cs hl hf=>?_;obtain⟨y,hy,hr⟩:=(Cx P x).2 _ _ h.1 G cs (by rw[hl,aal]) fun f hm=>by obtain⟨i,hi⟩:=aaK hm;rw[Array.getElem?_toList]at hi;exact fun{α} {row} {k'} {ok} hcv=>hf i f hi hcv
    exact⟨y,hy,hr⟩
   ·cases h
  exact⟨h1,fun fs o h=>uS (t:=.w x) h1 h⟩
 | .p a c=>by
   refine⟨fun _ h=>(by cases h),fun fs o h=>?_⟩;have h:J6 a.n (lf P a).1 (lf P c).2 fs o=true:=h;cases fs with
   |nil=>cases h
   |cons f fs=>
    simp only[J6,μ]at h;intro G cs hl hf;have hl:cs.length=o+(a.n+c.n):=hl;obtain⟨x,hx,hr⟩:=hf f (aao ..) ((Cx P a).1 _ h.1.2);rw[θ h.1.1]at hr;obtain⟨y,hy,hq⟩:=(Cx P c).2 _ _ h.2 G cs (by omega) fun g hg=>fun{α} {row} {k'} {ok} hcv=>hf g (aaa _ hg) hcv;exact⟨(x,y),⟨hx,hy⟩,gf.cons hr hq⟩
 |.o _=>⟨fun _ h=>(by cases h),fun _ _ h=>(by cases h)⟩
def Jx(P:Program):List Ty->List TypeId->Bool
 |[],[]=>true
 |T::Ts,t::ts=>(lf P T).1 t&&Jx P Ts ts
 |_,_=>false
def Ct:(Ts:List Ty)->cr Ts->Prop
 |[],_=>True
 |T::Ts,x=>T.ok x.1/\Ct Ts x.2
def Aq:(Ts:List Ty)->cr Ts->List AV
 |[],_=>[]
 |T::Ts,x=>dH T x.1::Aq Ts x.2
theorem WW{r:Reach}{n:Nat}(ht:P.underlying t=some (.array n e))(h:Value.okWide P w r base t v):∃cs,v=.agg cs:=by unfold Value.okWide at h;rw[ht]at h;obtain⟨cs,h,_⟩:=h;exact⟨cs,h⟩
theorem Up{T:Ty}{x:T.T}(hc:(lf P T).1 t=true)(hw:Value.okWide P W .any base t v)(hr:gf (qg W) (T.ds x) v.cells.toList):AV.au (qg W) m (dH T x) v:=by
 cases T with
 |u=>cases hc
 |b=>obtain⟨b,rfl⟩:=okWide_bool (nH hc).1 hw;exact EO hr rfl
 |i k=>obtain⟨n,rfl⟩:=okWide_int (k:=k) (nH hc).1 hw;exact EO hr rfl
 |s=>obtain⟨n,rfl⟩:=okWide_string (nH hc).1 hw;exact EO hr rfl
 |p a c=>cases hc
 |w y=>
  have hc:A5 P y.n (lf P y).2 t=true:=hc;unfold A5 at hc;split at hc
  ·rename_i fs hu;obtain⟨cs,rfl,_⟩:=okWide_struct hu hw;exact Qo hr
  ·cases hc
 |ar n k=>
  have hc:Ap P n k t=true:=hc;unfold Ap at hc;split at hc
  ·rename_i m' e hu;obtain⟨cs,rfl⟩:=WW hu hw;exact Qo hr
  ·cases hc
 |sl y=>
  have hc:AE P y.n (lf P y).1 t=true:=hc;unfold AE at hc;split at hc
  ·rename_i e hu;obtain⟨a,l,c,rfl⟩:=okWide_slice hu hw;exact EO hr rfl
  ·cases hc
 |o y=>cases hc
theorem QC{P:Program}{W:World}{base:Nat}{H:Type}{enc:TypeId×Value->H}{spare:Nat->Bool}{held:Bool}{m:HM}:∀{Ts:List Ty} {ts:List TypeId} {vs:List Value} {ds:List (DataW H)} {ps:List MemPlace},Jx P Ts ts=true->DataW.TrodAll enc P W 0 spare held ts vs ds ps->(∀(j:Nat) t v,ts[j]?=some t->vs[j]?=some v->Value.okWide P W .any base t v)->∃x:cr Ts,Ct Ts x/\AV.bg (qg W) m (Aq Ts x) vs
 |[],[],vs,ds,ps,_,hA,_=>by
  obtain⟨rfl,_,_⟩:=trodAll_nil hA;exact⟨(),trivial,rfl⟩
 |T::Ts,t::ts,vs,ds,ps,hc,hA,hw=>by
  simp only[Jx,μ]at hc;obtain⟨v,vs1,d,ds1,p0,p1,rfl,rfl,rfl,t0,hA1⟩:=trodAll_cons hA;obtain⟨f0,t0⟩:=t0;obtain⟨x,hx,hr⟩:=((Cx P T).1 t hc.1).get enc W _ _ f0 _ _ t0;obtain⟨y,hy,hq⟩:=QC (m:=m) hc.2 hA1 fun j t v h1 h2=>hw (j+1) t v (by simpa using h1) (by simpa using h2);exact⟨(x,y),⟨hx,hy⟩,_,_,rfl,Up hc.1 (hw 0 t v rfl rfl) hr,hq⟩
 |[],_::_,_,_,_,h,_,_=>by cases h
 |_::_,[],_,_,_,h,_,_=>by cases h
end Go.Eng
namespace Go.Eng
open Go.RowKit
variable{α β:Type}
@[simp] theorem mU{a b:Option α}:bk true a b=a:=rfl
@[simp] theorem dB{a b:Option α}:bk false a b=b:=rfl
@[simp] theorem aC{x:α}{f:α->Option β}:bj (some x) f=f x:=rfl
@[simp] theorem aG{xs:List α}{a:Option β}:bf xs.length xs a=a:=if_pos rfl
theorem kE{n:Nat}{xs:List α}{a:Option β}(h:n=xs.length):bf n xs a=a:=if_pos h
@[simp] theorem qm{α:Type}[DecidableEq α]{x:α}{a:Option β}:bb (x=x) a=a:=if_pos rfl
theorem aB{p:Prop}[Decidable p]{a:Option α}(h:p):bb p a=a:=if_pos h
@[simp] theorem bTv{x:α}{f:α->Option β}:sn (some (Sum.inr x)) f=f x:=rfl
theorem Dz{n:Int}(h:-9223372036854775808<=n)(h':n<=9223372036854775807):IntKind.wrap .i64 n=n:=by rw[IntKind.wrap_i64];omega
theorem aI{n:Int}{a:Option α}(h:-9223372036854775808<=n)(h':n<=9223372036854775807):ck .i64 n a=a:=by unfold ck;rw[if_pos (Dz h h')]
theorem cQ{xs:List α}{i:Nat}{x:α}{f:α->Option β}(h:xs[i]?=some x):bB xs (i:Int) f=f x:=by unfold bB;rw[if_pos (Int.natCast_nonneg i),π,h]
theorem lM{xs:List α}{j:Int}{x:α}{f:α->Option β}(h0:0<=j)(h:xs[j.toNat]?=some x):bB xs j f=f x:=by unfold bB;rw[if_pos h0,h]
theorem fO{xs:List α}{i:Nat}{x:α}{f:α->Option β}(h:xs[i]?=some x):cw xs i f=f x:=by unfold cw;rw[h]
theorem I0{c:Bool}{a b:Option α}:bk c a b=if c=true then a else b:=by cases c<;>rfl
end Go.Eng
