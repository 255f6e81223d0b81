/- Texts of this claim. -/
import Derived.Test.YtoklpgfaedjjpaaGreatDoorYA
import Derived.ProofKit
import Derived.Deep.Slices
import Derived.OpenShut
import Derived.Lib.LaidTab
open Bool renaming and_assoc->acE,and_eq_true->μ,and_true->abY,eq_iff_iff->aa9,noConfusion->aaU,not_eq_true'->aaY,or_eq_true->abx
open Int renaming toNat_natCast->χ
open List renaming append_assoc->π,append_nil->aag,drop_append_of_le_length->abq,drop_drop->abe,drop_eq_nil_of_le->abv,ext_getElem?->abN,getD_cons_succ->adm,getElem?_append_left->aak,getElem?_append_right->aal,getElem?_drop->abg,getElem?_eq_getElem->ν,getElem?_eq_none->aay,getElem?_eq_some_iff->υ,getElem?_map->aac,getElem?_of_mem->aaK,getElem?_take_of_lt->aaH,length_append->ε,length_drop->aat,length_map->κ,length_take->aao,map_append->aaw,map_cons->aaM,map_drop->aaI,map_eq_nil_iff->abQ,map_map->abI,map_replicate->abW,map_set->acb,map_take->aaz,mem_cons->ω,mem_cons_of_mem->aab,mem_cons_self->aap,nil_append->aa8,nodup_cons->abk,replicate->aae,take_append_of_le_length->ab0,take_of_length_le->aav
open Nat renaming add_assoc->ab6,beq->aaa,beq_eq->abn,beq_refl->acL,ble->ac0,blt->adp,eq_of_beq_eq_true->θ,le_add_right->abJ,le_of_ble_eq_true->abf,le_refl->me,lt_of_lt_of_le->aa6,lt_or_ge->aaV,mul_one->aaN,succ_lt_succ->acK,succ_pos->adq,zero_add->aan,zero_le->aba
open Option renaming ite_none_right_eq_some->ζ,map_eq_some_iff->ι
set_option linter.all false
namespace Go.Eng
open Go.RowKit
variable{s m ent s':XS}{P:Program}{v a vy y vf vz:XV}{k off n sz N bytes i:Nat}{KP:an->Prop}{t V K:Ty}{j:Int}{vs l xs ys cs:List XV}{out:List XS}{h hd:Hd}{α:Type}{dst ag:Option Nat}{f:FuncId}{fn:Func}{ty:Option Ty}{rs:List ee}{c:Code}{q wr:Bool}{yo xo zo:Operand}{hs:List Hd}{zs:List AV}{w:Value}{ds:List DV}{b:Option XB}{nbs:List bn}{u u1:FrameMode}
section
variable{R:Type}
theorem Ms[YL]{K:List t.T->Option R}{r:R}(h:pP s (.sl t) v K=some r):
  ∃xs:List t.T,K xs=some r/\AV.content s.er.lk v.er=some (xs.map t.ds)/\AV.si v.er=false:=by
 unfold pP at h;split at h
 ·rename_i t' x;split at h
  ·rename_i y hy;obtain⟨e,rfl⟩:=Ty.cq hy;subst e;exact⟨x,h,rfl,rfl⟩
  ·cases h
 ·rename_i t' xs;split at h
  ·rename_i y hy;obtain⟨e,rfl⟩:=Ty.cq hy;cases e;exact⟨xs,h,rfl,rfl⟩
  ·cases h
 ·have h:K []=some r:=h;exact⟨[],h,rfl,rfl⟩
 ·have h:K []=some r:=h;exact⟨[],h,rfl,rfl⟩
 ·rename_i hd t' len;split at h
  ·rename_i mt t2 xs hl;split at h
   ·rename_i hb;obtain rfl:=Ty.fg hb;split at h
    ·rename_i y hy;obtain⟨e,rfl⟩:=Ty.cq hy;cases e
     replace h:=zh h
     obtain⟨rfl,h⟩:=h;refine⟨xs,h,?_,rfl⟩;show(match s.er.lk hd with|some (.row _ k' es)=>if k'=t.n/\0+xs.length<=es.length then some ((es.drop 0).take xs.length)else none|_=>none)=_;rw[aU,hl];show(if t.n=t.n/\0+xs.length<=(xs.map t.ds).length then some (((xs.map t.ds).drop 0).take xs.length)else none)=_;rw[if_pos ⟨rfl,by rw[κ];omega⟩,List.drop_zero,aav (by rw[κ];exact me _)]
    ·cases h
   ·cases h
  ·cases h
 ·rename_i hd t' off len;split at h
  ·rename_i mt t2 xs hl;split at h
   ·rename_i hb;obtain rfl:=Ty.fg hb;split at h
    ·rename_i y hy;obtain⟨e,rfl⟩:=Ty.cq hy;cases e;obtain⟨h1,h⟩:=bB h;refine⟨_,h,?_,rfl⟩;show(match s.er.lk hd with|some (.row _ k' es)=>if k'=t.n/\off+len<=es.length then some ((es.drop off).take len)else none|_=>none)=_;rw[aU,hl];show(if t.n=t.n/\off+len<=(xs.map t.ds).length then some (((xs.map t.ds).drop off).take len)else none)=_;rw[if_pos ⟨rfl,by rw[κ];exact h1⟩,aaz,aaI]
    ·cases h
   ·cases h
  ·cases h
 ·rename_i hd off len;split at h
  ·rename_i mt n k x hl;split at h
   ·rename_i y hy;obtain⟨e,rfl⟩:=Ty.cq hy;cases e;obtain⟨h1,h⟩:=bB h;refine⟨_,h,?_,rfl⟩;show(match s.er.lk hd with|some (.row _ k' es)=>if k'=1/\off+len<=es.length then some ((es.drop off).take len)else none|_=>none)=_;rw[aU,hl];show(if 1=1/\off+len<=(x.l.map (ib k)).length then some (((x.l.map (ib k)).drop off).take len)else none)=some ((qb x.l off len n).map (ib k));rw[Co x.len,if_pos ⟨rfl,by rw[κ,x.len];exact h1⟩,aaz,aaI]
   ·cases h
  ·cases h
 ·rename_i hd off l len;split at h
  ·rename_i mt t2 x hl;split at h
   ·rename_i a ha;split at h
    ·rename_i y hy;obtain⟨e,rfl⟩:=Ty.cq hy;cases e;obtain⟨h1,h⟩:=bB h;obtain⟨c1,c2⟩:=EP ha h1;refine⟨_,h,?_,rfl⟩;show(match s.er.lk hd with|some (.row _ k' es)=>if k'=1/\off+l+len<=es.length then some ((es.drop (off+l)).take len)else none|_=>none)=_;rw[aU,hl];show(if 1=1/\off+l+len<=(iq (t2.ds x)).length then some (((iq (t2.ds x)).drop (off+l)).take len)else none)=_;rw[if_pos ⟨rfl,c1⟩,c2]
    ·cases h
   ·cases h
  ·cases h
 ·cases h
mutual
def XV.hr:XV->List Hd
 |.sl h _ _ _=>[h]
 |.slw h _ _=>[h]
 |.asl h _ _=>[h]
 |.rsl h _ _ _=>[h]
 |.agg cs=>XV.p7 cs
 |.cn vs=>XV.p7 vs
 |.clo _ vs=>XV.p7 vs
 |_=>[]
def XV.p7:List XV->List Hd
 |[]=>[]
 |v::vs=>v.hr++XV.p7 vs
end
theorem KH:∀(a c:List AV),AV.cm (a++c)=AV.cm a++AV.cm c
 |[],c=>rfl
 |x::a,c=>by show AV.rows x++AV.cm (a++c)=AV.rows x++AV.cm a++AV.cm c;rw[KH a c,π]
theorem GU:∀l:List DV,AV.cm (l.map .D)=[]
 |[]=>rfl
 |x::l=>GU l
theorem YT(x:t.T):AV.rows (dA t x)=[]:=by
 cases hl:nF t with
 |true=>cases t<;>first|rfl|(cases hl;done)
 |false=>rw[nL x hl];exact GU _
mutual
theorem vu[YL]:∀v:XV,AV.rows v.er=v.hr
 |.d t x=>YT x
 |.agg cs=>ES cs
 |.cn vs=>xj vs
 |.clo _ vs=>xj vs
 |.any=>rfl
 |.un=>rfl
 |.ab=>rfl
 |.sc=>rfl
 |.ptr _ _=>rfl
 |.ept _ _ _ _=>rfl
 |.apt _ _=>rfl
 |.pa _ _ _=>rfl
 |.epa _ _ _ _ _=>rfl
 |.rop _ _ _=>rfl
 |.fl _ _=>rfl
 |.fln _=>rfl
 |.nl _=>rfl
 |.sl _ _ _ _=>rfl
 |.slw _ _ _=>rfl
 |.asl _ _ _=>rfl
 |.rpt _ _=>rfl
 |.rpa _ _ _=>rfl
 |.rsl _ _ _ _=>rfl
 |.mref _=>rfl
 |.itr _ _=>rfl
 |.c _=>rfl
 |.yld=>rfl
 |.gst _=>rfl
theorem xj[YL]:∀vs:List XV,AV.cm (XV.cz vs)=XV.p7 vs
 |[]=>rfl
 |v::vs=>by show AV.rows v.er++AV.cm (XV.cz vs)=_;rw[vu v,xj vs];rfl
theorem ZU[YL]:∀v:XV,AV.cm v.fc=v.hr
 |.d t x=>GU _
 |.agg cs=>ES cs
 |.cn vs=>by show AV.cm (XV.cz vs)++[]=_;rw[xj vs,aag];rfl
 |.clo _ vs=>by show AV.cm (XV.cz vs)++[]=_;rw[xj vs,aag];rfl
 |.any=>rfl
 |.un=>rfl
 |.ab=>rfl
 |.sc=>rfl
 |.ptr _ _=>rfl
 |.ept _ _ _ _=>rfl
 |.apt _ _=>rfl
 |.pa _ _ _=>rfl
 |.epa _ _ _ _ _=>rfl
 |.rop _ _ _=>rfl
 |.fl _ _=>rfl
 |.fln _=>rfl
 |.nl _=>rfl
 |.sl _ _ _ _=>rfl
 |.slw _ _ _=>rfl
 |.asl _ _ _=>rfl
 |.rpt _ _=>rfl
 |.rpa _ _ _=>rfl
 |.rsl _ _ _ _=>rfl
 |.mref _=>rfl
 |.itr _ _=>rfl
 |.c _=>rfl
 |.yld=>rfl
 |.gst _=>rfl
theorem ES[YL]:∀vs:List XV,AV.cm (XV.bz vs)=XV.p7 vs
 |[]=>rfl
 |v::vs=>by show AV.cm (v.fc++XV.bz vs)=_;rw[KH,ZU v,ES vs];rfl
end
def nf(s:XS):List Hd->List Hd
 |[]=>[]
 |h::l=>match s.lk h with
  |some _=>h::nf s l
  |none=>nf s l
theorem sD[YL](s:XS):∀l:List Hd,ja s.er.lk l=nf s l
 |[]=>rfl
 |h::l=>by
  show(h::l).filter _=_;rw[List.filter_cons,aU];unfold nf;cases s.lk h with
  |none=>exact sD s l
  |some b=>exact congrArg (h::·) (sD s l)
def rk:Ty->Bool
 |.sl _=>false
 |.o _=>false
 |.p a c=>rk a&&rk c
 |.w a=>rk a
 |_=>true
theorem Jb:∀(a c:List AV),AV.dj (a++c)=(AV.dj a&&AV.dj c)
 |[],c=>rfl
 |x::a,c=>by show(AV.flat x&&AV.dj (a++c))=(AV.flat x&&AV.dj a&&AV.dj c);rw[Jb a c,acE]
theorem rH:∀(t:Ty) (x:t.T),AV.dj ((t.ds x).map .D)=rk t
 |.u,_=>rfl
 |.b,_=>rfl
 |.i _,_=>rfl
 |.s,_=>rfl
 |.p a c,v=>by
  show AV.dj ((a.ds v.1++c.ds v.2).map .D)=(rk a&&rk c);rw[aaw,Jb,rH a,rH c]
 |.w a,v=>rH a v
 |.ar n k,v=>by
  show AV.dj ((v.l.map (DV.I k)).map .D)=true;generalize v.l=l
  induction l with
  |nil=>rfl
  |cons x l ih=>exact ih
 |.sl t,v=>rfl
 |.o _,_=>rfl
theorem Mv(x:t.T):AV.flat (dA t x)=rk t:=by
 cases hl:nF t with
 |true=>cases t<;>first|rfl|(cases hl;done)
 |false=>rw[nL x hl];exact rH t x
mutual
def wh:XV->Bool
 |.d t _=>rk t
 |.any=>true
 |.un=>true
 |.ab=>true
 |.sc=>true
 |.c _=>true
 |.gst _=>true
 |.yld=>true
 |.agg cs=>v8 cs
 |.cn cs=>v8 cs
 |_=>false
def v8:List XV->Bool
 |[]=>true
 |v::vs=>wh v&&v8 vs
end
mutual
theorem Hg[YL]:∀v:XV,AV.flat v.er=wh v
 |.d t x=>Mv x
 |.agg cs=>I5 cs
 |.cn cs=>Hm cs
 |.clo _ _=>rfl
 |.any=>rfl
 |.un=>rfl
 |.ab=>rfl
 |.sc=>rfl
 |.ptr _ _=>rfl
 |.ept _ _ _ _=>rfl
 |.apt _ _=>rfl
 |.pa _ _ _=>rfl
 |.epa _ _ _ _ _=>rfl
 |.rop _ _ _=>rfl
 |.fl _ _=>rfl
 |.fln _=>rfl
 |.nl _=>rfl
 |.sl _ _ _ _=>rfl
 |.slw _ _ _=>rfl
 |.asl _ _ _=>rfl
 |.rpt _ _=>rfl
 |.rpa _ _ _=>rfl
 |.rsl _ _ _ _=>rfl
 |.mref _=>rfl
 |.itr _ _=>rfl
 |.c _=>rfl
 |.yld=>rfl
 |.gst _=>rfl
theorem Hm[YL]:∀vs:List XV,AV.dj (XV.cz vs)=v8 vs
 |[]=>rfl
 |v::vs=>by show(AV.flat v.er&&AV.dj (XV.cz vs))=(wh v&&v8 vs);rw[Hg v,Hm vs]
theorem QQ[YL]:∀v:XV,AV.dj v.fc=wh v
 |.d t x=>rH t x
 |.agg cs=>I5 cs
 |.cn cs=>by show(AV.dj (XV.cz cs)&&true)=v8 cs;rw[abY,Hm]
 |.clo _ _=>rfl
 |.any=>rfl
 |.un=>rfl
 |.ab=>rfl
 |.sc=>rfl
 |.ptr _ _=>rfl
 |.ept _ _ _ _=>rfl
 |.apt _ _=>rfl
 |.pa _ _ _=>rfl
 |.epa _ _ _ _ _=>rfl
 |.rop _ _ _=>rfl
 |.fl _ _=>rfl
 |.fln _=>rfl
 |.nl _=>rfl
 |.sl _ _ _ _=>rfl
 |.slw _ _ _=>rfl
 |.asl _ _ _=>rfl
 |.rpt _ _=>rfl
 |.rpa _ _ _=>rfl
 |.rsl _ _ _ _=>rfl
 |.mref _=>rfl
 |.itr _ _=>rfl
 |.c _=>rfl
 |.yld=>rfl
 |.gst _=>rfl
theorem I5[YL]:∀vs:List XV,AV.dj (XV.bz vs)=v8 vs
 |[]=>rfl
 |v::vs=>by show AV.dj (v.fc++XV.bz vs)=(wh v&&v8 vs);rw[Jb,QQ v,I5 vs]
end
@[reducible] def RT:List XS->Type
 |[]=>Unit
 |[m]=>qo m.cj
 |m::m2::l=>qo m.cj⊕RT (m2::l)
structure br where
 fn:Nat
 ent:XS
 out:List XS
 F:ke ent.cj (RT out)
def fS:(l:List XS)->RT l->XS
 |[],_=>⟨[],[],[]⟩
 |[m],v=>m.fill (nc m.cj v)
 |m::_::_,.inl v=>m.fill (nc m.cj v)
 |_::m2::l,.inr v=>fS (m2::l) v
def XV.val:List (Nat×XV)->XV
 |[(_,v)]=>v
 |l=>.cn (l.map (·.2))
def XS.pv(o:XS):Option Value:=match o.env with
 |[(k,.c v)]=>match aaa k 1000000 with
  |true=>some v
  |false=>none
 |_=>none
def tj[YL](P:Program)(fn:Nat)(args:List AV)(bs:List (Option bn))(o:XS)(nbs:List bn):Prop:=match o.pv with
 |some pv=>bs=[]->wj P fn args pv
 |none=>de P fn args bs (XV.val o.env).er (du o.bs) nbs
def aF(P:Program)(g:br):Prop:=∀[YL] (v:cn g.ent.cj) (r:RT g.out),iz g.ent.cj g.F v=some r->∀nbs:List bn,nbs.map some=du (fS g.out r).own->
 tj P g.fn ((g.ent.fill v).env.map fun p=>p.2.er) (du (g.ent.fill v).bs) (fS g.out r) nbs
def kU(P:Program):List br->Prop
 |[]=>True
 |g::l=>aF P g/\kU P l
mutual
def R7:XV->XV->Bool
 |.clo f ms,v=>match v with
  |.clo g vs=>aaa f g&&BH ms vs
  |_=>false
 |.ptr _ _,v=>match v with
  |.ptr _ _=>true
  |_=>false
 |.apt _ _,v=>match v with
  |.apt _ _=>true
  |_=>false
 |.rpt _ _,v=>match v with
  |.rpt _ _=>true
  |_=>false
 |.mref _,v=>match v with
  |.mref _=>true
  |_=>false
 |.slw _ _ _,v=>match v with
  |.slw _ _ _=>true
  |.fln _=>true
  |_=>false
 |.nl _,v=>match v with
  |.fln _=>true
  |.nl _=>true
  |_=>false
 |.fln _,v=>match v with
  |.fln _=>true
  |_=>false
 |.c x,v=>match v with
  |.c y=>AT x y
  |_=>false
 |.agg ms,v=>match v with
  |.agg vs=>BH ms vs
  |_=>false
 |.sc,_=>true
 |.d _ _,v=>match v with
  |.ptr _ _=>false
  |.apt _ _=>false
  |.rpt _ _=>false
  |.mref _=>false
  |.clo _ _=>false
  |.c _=>false
  |.sc=>false
  |_=>true
 |_,_=>false
def BH:List XV->List XV->Bool
 |[],[]=>true
 |m::ms,v::vs=>R7 m v&&BH ms vs
 |_,_=>false
end
def vY:List (Nat×XV)->List XV
 |[]=>[]
 |p::r=>p.2::vY r
def yf:List br->Nat->List XV->Option br
 |[],_,_=>none
 |g::l,f,vs=>match aaa g.fn f&&BH (vY g.ent.env) vs with
  |true=>some g
  |false=>yf l f vs
theorem Eb{P:Program}{vs:List XV}:∀{l:List br} {f:Nat} {g:br},kU P l->yf l f vs=some g->aF P g/\g.fn=f
 |[],_,_,_,h=>by cases h
 |g0::l,f,g,ht,h=>by
  unfold yf at h;split at h
  ·rename_i hb;cases h;rw[μ]at hb;exact⟨ht.1,θ hb.1⟩
  ·exact Eb ht.2 h
def nh{α β γ:Type}(v:α⊕β)(f:α->Option γ)(g:β->Option γ):Option γ:=match v with
 |.inl a=>f a
 |.inr y=>g y
def Cg:(l:List XS)->RT l->(XS->Option R)->Option R
 |[],_,_=>none
 |[m],v,K=>K (m.fill (nc m.cj v))
 |m::m2::l,v,K=>nh v (fun a=>K (m.fill (nc m.cj a))) fun y=>Cg (m2::l) y K
theorem Gm:∀{l:List XS} {v:RT l} {K:XS->Option R} {r:R},Cg l v K=some r->K (fS l v)=some r
 |[],_,_,_,h=>by cases h
 |[_],_,_,_,h=>h
 |_::_::_,.inl _,_,_,h=>h
 |_::m2::l,.inr _,_,_,h=>Gm (l:=m2::l) h
def BL:List (Option XB)->Option (List XB)
 |[]=>some []
 |some b::r=>match BL r with
  |some l=>some (b::l)
  |none=>none
 |none::_=>none
theorem Ik[YL]:∀{l:List (Option XB)} {bl:List XB},BL l=some bl->(bl.map XB.er).map some=du l
 |[],_,h=>by cases h;rfl
 |some b::r,bl,h=>by
  unfold BL at h;split at h
  ·rename_i l hl;cases h;show some b.er::(l.map XB.er).map some=some b.er::du r;rw[Ik hl]
  ·cases h
 |none::_,_,h=>by cases h
def vC:List XV->Nat->XV
 |[],_=>.any
 |v::_,0=>v
 |_::r,i+1=>vC r i
def xw:Nat->List (Nat×XV)->List XV->Bool
 |_,[],[]=>true
 |n,(k,_)::r,_::vs=>aaa k n&&xw (n+1) r vs
 |_,_,_=>false
theorem FW{f:XV->AV}:∀{l:List (Nat×XV)} {vs:List XV} {n:Nat} {ev:Nat->XV},xw n l vs=true->(∀i,i<vs.length->ev (n+i)=vC vs i)->l.map (fun p=>f (ev p.1))=vs.map f
 |[],[],_,_,_,_=>rfl
 |(k,_)::r,v::vs,n,ev,h,he=>by
  have h:(aaa k n&&xw (n+1) r vs)=true:=h;rw[μ]at h;have e0:ev k=v:=by rw[θ h.1];exact he 0 (adq _)
  show f (ev k)::r.map (fun p=>f (ev p.1))=f v::vs.map f;rw[e0,FW h.2 fun i hi=>by rw[show n+1+i=n+(i+1) by omega,he (i+1) (acK hi)];rfl]
 |[],_::_,_,_,h,_=>by cases h
 |_::_,[],_,_,h,_=>by cases h
theorem Fi[YL](lk:bJ)(φ:Hd->Option Hd):∀vs:List XV,AV.bq lk φ (XV.cz vs)=vs.map fun v=>AV.conv lk φ v.er
 |[]=>rfl
 |v::vs=>by show AV.conv _ _ v.er::AV.bq _ _ (XV.cz vs)=_;rw[Fi lk φ vs];rfl
theorem qF[YL]:∀a c:List XV,XV.cz (a++c)=XV.cz a++XV.cz c
 |[],_=>rfl
 |x::a,c=>by show x.er::XV.cz (a++c)=_;rw[qF a c];rfl
mutual
def zu:XV->Bool
 |.d t _=>rk t
 |.any=>true
 |.un=>true
 |.ab=>true
 |.sc=>true
 |.c _=>true
 |.slw _ _ _=>true
 |.sl _ _ _ _=>true
 |.agg cs=>xz cs
 |.cn cs=>xz cs
 |_=>false
def xz:List XV->Bool
 |[]=>true
 |v::vs=>zu v&&xz vs
end
theorem PR:∀(a c:List AV),AV.dq (a++c)=(AV.dq a&&AV.dq c)
 |[],_=>rfl
 |x::a,c=>by show(AV.dm x&&AV.dq (a++c))=(AV.dm x&&AV.dq a&&AV.dq c);rw[PR a c,acE]
theorem xS:∀l:List DV,AV.dq (l.map .D)=AV.dj (l.map .D)
 |[]=>rfl
 |x::l=>by show(DV.flat x&&AV.dq (l.map .D))=(DV.flat x&&AV.dj (l.map .D));rw[xS l]
theorem aWb(x:t.T):AV.dm (dA t x)=AV.flat (dA t x):=by
 cases t with
 |u=>rfl
 |b=>rfl
 |i k=>rfl
 |s=>rfl
 |p a c=>exact xS _
 |w a=>exact xS _
 |ar n k=>exact xS _
 |sl t=>rfl
 |o t=>rfl
mutual
theorem JM[YL]:∀v:XV,zu v=true->AV.dm v.er=true
 |.d t x,h=>by show AV.dm (dA t x)=true;rw[aWb,Mv];exact h
 |.agg cs,h=>HG cs h
 |.cn cs,h=>Jg cs h
 |.slw _ _ _,_=>rfl
 |.sl _ _ _ _,_=>rfl
 |.any,_=>rfl
 |.un,_=>rfl
 |.ab,_=>rfl
 |.sc,_=>rfl
 |.c _,_=>rfl
 |.ptr _ _,h=>by cases h
 |.ept _ _ _ _,h=>by cases h
 |.apt _ _,h=>by cases h
 |.pa _ _ _,h=>by cases h
 |.epa _ _ _ _ _,h=>by cases h
 |.rpt _ _,h=>by cases h
 |.rpa _ _ _,h=>by cases h
 |.rsl _ _ _ _,h=>by cases h
 |.rop _ _ _,h=>by cases h
 |.fl _ _,h=>by cases h
 |.fln _,h=>by cases h
 |.nl _,h=>by cases h
 |.asl _ _ _,h=>by cases h
 |.mref _,h=>by cases h
 |.itr _ _,h=>by cases h
 |.clo _ _,h=>by cases h
 |.yld,h=>by cases h
 |.gst _,h=>by cases h
theorem Jg[YL]:∀vs:List XV,xz vs=true->AV.dq (XV.cz vs)=true
 |[],_=>rfl
 |v::vs,h=>by have h:(zu v&&xz vs)=true:=h;rw[μ]at h;show(AV.dm v.er&&AV.dq (XV.cz vs))=true;rw[JM v h.1,Jg vs h.2];rfl
theorem UJ[YL]:∀v:XV,zu v=true->AV.dq v.fc=true
 |.d t x,h=>by show AV.dq ((t.ds x).map .D)=true;rw[xS,rH];exact h
 |.agg cs,h=>HG cs h
 |.cn cs,h=>by show(AV.dq (XV.cz cs)&&true)=true;rw[Jg cs h];rfl
 |.slw _ _ _,_=>rfl
 |.sl _ _ _ _,_=>rfl
 |.any,_=>rfl
 |.un,_=>rfl
 |.ab,_=>rfl
 |.sc,_=>rfl
 |.c _,_=>rfl
 |.ptr _ _,h=>by cases h
 |.ept _ _ _ _,h=>by cases h
 |.apt _ _,h=>by cases h
 |.pa _ _ _,h=>by cases h
 |.epa _ _ _ _ _,h=>by cases h
 |.rpt _ _,h=>by cases h
 |.rpa _ _ _,h=>by cases h
 |.rsl _ _ _ _,h=>by cases h
 |.rop _ _ _,h=>by cases h
 |.fl _ _,h=>by cases h
 |.fln _,h=>by cases h
 |.nl _,h=>by cases h
 |.asl _ _ _,h=>by cases h
 |.mref _,h=>by cases h
 |.itr _ _,h=>by cases h
 |.clo _ _,h=>by cases h
 |.yld,h=>by cases h
 |.gst _,h=>by cases h
theorem HG[YL]:∀vs:List XV,xz vs=true->AV.dq (XV.bz vs)=true
 |[],_=>rfl
 |v::vs,h=>by have h:(zu v&&xz vs)=true:=h;rw[μ]at h;show AV.dq (v.fc++XV.bz vs)=true;rw[PR,UJ v h.1,HG vs h.2];rfl
end
def Da:List XB->Bool
 |[]=>true
 |.row true t _::l=>rk t&&Da l
 |_::_=>false
theorem JJ[YL]:∀l:List XB,Da l=true->(l.map XB.er).all bn.ku=true
 |[],_=>rfl
 |.row true t xs::l,h=>by
  have h:(rk t&&Da l)=true:=h;rw[μ]at h;rw[aaM,List.all_cons,JJ l h.2,abY];show(xs.map t.ds).all (fun e=>e.all DV.flat)=true;rw[List.all_map,List.all_eq_true];intro x _;have:=rH t x;rw[h.1]at this;have key:∀l:List DV,AV.dj (l.map .D)=l.all DV.flat:=fun l=>by
   induction l with
   |nil=>rfl
   |cons d l ih=>show(DV.flat d&&AV.dj (l.map .D))=(DV.flat d&&l.all DV.flat);rw[ih]
  rw[key]at this;exact this
 |.row false _ _::_,h=>by cases h
 |.box _::_,h=>by cases h
 |.arr _ _ _ _::_,h=>by cases h
 |.rb _ _ _::_,h=>by cases h
 |.mp _ _ _ _ _ _::_,h=>by cases h
 |.it::_,h=>by cases h
 |.sb _ _ _::_,h=>by cases h
def Cb(al:Bool)(v:XV)(bl:List XB):Bool:=al&&(zu v&&Da bl)
def I4(s:XS)(al:Bool)(v:XV)(bl:List XB)(hs:List Hd):List Hd:=match wh v,bl with
 |true,[]=>[]
 |_,_=>match Cb al v bl with
  |true=>[]
  |false=>nf s hs
theorem YS[YL](s:XS)(al:Bool)(v:XV)(bl:List XB)(vs:List XV):I4 s al v bl (XV.p7 vs)=if AV.flat v.er=true/\bl.map XB.er=[]then[]else Aa (Cb al v bl) (ja s.er.lk (AV.cm (XV.cz vs))):=by
 unfold I4;rw[Hg,xj,sD];cases wh v with
 |false=>rw[if_neg (fun h=>by cases h.1)];rfl
 |true=>cases bl with
  |nil=>rw[if_pos ⟨rfl,rfl⟩]
  |cons b bl=>rw[if_neg (fun h=>by cases h.2)];rfl
def PZ(s:XS)(al:Bool)(vs:List XV)(o:XS)(K:XV->List XB->List Hd->Option R):Option R:=match BL o.own with
 |some bl=>K ((XV.val o.env).cg (bU [] s.own.length)) (bl.map (XB.cg (bU [] s.own.length))) (I4 s al (XV.val o.env) bl (XV.p7 vs))
 |none=>none
def H9:XV->Bool
 |.fln _=>true
 |_=>false
def sd:List (Nat×XV)->List Bool
 |[]=>[]
 |p::r=>H9 p.2::sd r
def AQ:List (Nat×XV)->Bool
 |[]=>true
 |p::r=>!H9 p.2&&AQ r
theorem FA(lk:bJ):∀{l:List (Nat×XV)} (as:List AV),AQ l=true->AV.ft lk (sd l) as=AV.bq lk (fun _=>none) as
 |[],_,_=>rfl
 |p::r,as,h=>by
  unfold AQ at h;rw[μ,aaY]at h;unfold sd;rw[h.1];cases as with
  |nil=>rfl
  |cons a as=>
   show AV.conv _ _ a::AV.ft lk (sd r) as=AV.conv _ _ a::AV.bq lk _ as;rw[FA lk as h.2]
def B8(s:XS):List (Nat×XV)->List XV->(List XV->Option R)->Option R
 |[],[],K=>K []
 |p::ms,v::vs,K=>match H9 p.2 with
  |true=>match v with
   |.fln t=>B8 s ms vs fun l=>K (.fln t::l)
   |_=>none
  |false=>tz s (fun _=>none) v fun v'=>B8 s ms vs fun l=>K (v'::l)
 |_,_,_=>none
theorem GJ[YL]{s:XS}{r:R}:∀{ms:List (Nat×XV)} {vs:List XV} {K:List XV->Option R},B8 s ms vs K=some r->∃l,K l=some r/\l.map XV.er=AV.ft s.er.lk (sd ms) (XV.cz vs)/\mf.ig (r9 s fun _=>none) l
 |[],[],K,h=>⟨[],h,rfl,trivial⟩
 |p::ms,v::vs,K,h=>by
  unfold B8 at h;unfold sd;split at h
  ·rename_i hp;rw[hp];split at h
   ·rename_i t;obtain⟨l,h,h1,h2⟩:=GJ h;refine⟨_,h,?_,trivial,h2⟩;show AV.fl []::l.map XV.er=AV.fl []::AV.ft _ (sd ms) (XV.cz vs);rw[h1]
   ·cases h
  ·rename_i hp;rw[hp];obtain⟨v',h,h0,_,h3⟩:=Gi h;obtain⟨l,h,h1,h2⟩:=GJ h;refine⟨_,h,?_,h3,h2⟩;show v'.er::l.map XV.er=AV.conv _ _ v.er::AV.ft _ (sd ms) (XV.cz vs);rw[h1,h0]
 |[],_::_,_,h=>by cases h
 |_::_,[],_,h=>by cases h
theorem UE[YL]{ds:List DS}{v:cn m.cj}(h1:Aq m.env l=some ds)(h2:u3 m.cj ds=some v)(hp:mf.ig (r9 s fun _=>none) l):(m.fill v).env.map (fun p=>p.2.er)=l.map XV.er:=by have hL:=IG h2;show(m.lf (yn m.cj v)).env.map _=_;rw[hL];obtain⟨_,x2⟩:=F2 (len:=H8 (pH m.bs (ds.drop (xe m.env).length)) (pH m.own ((ds.drop (xe m.env).length).drop (vk m.bs).length))) h1 (ig.mono (fun h' n ⟨h,mt,t,xs,e1,e2,e3⟩=>by cases e1) hp);obtain⟨e,x3,x4,x5⟩:=x2 [];rw[aag]at x3;show(pf _ m.env ds).1.map _=_;rw[x3];exact x5
def CQ(s:XS)(al:Bool)(g:br)(vs:List XV)(K:XV->List XB->List Hd->Option R)(Kp:Value->Option R):Option R:=match g.ent.bs,g.ent.own with
 |[],[]=>B8 s g.ent.env vs fun l=>match Aq g.ent.env l with
  |some ds=>match u3 g.ent.cj ds with
   |some v=>bc (iz g.ent.cj g.F v) fun r=>Cg g.out r fun o=>match o.bs,o.pv with
    |[],none=>PZ s al vs o K
    |_,some pv=>match o.own,AQ g.ent.env with
     |[],true=>Kp pv
     |_,_=>none
    |_,_=>none
   |none=>none
  |none=>none
 |_,_=>none
def Qm(s:XS)(g:br)(vs:List XV)(K:XV->List XB->List Hd->Option R):Option R:=CQ s true g vs K fun _=>none
def G9(T:List br)(s:XS)(vs:List XV)(K:XV->List XB->List Hd->Option R):XV->Option R
 |.clo fn caps=>match yf T fn (vs++caps)with
  |some g=>Qm s g (vs++caps) K
  |none=>none
 |_=>none
theorem H0(h:m.bs=[])(v:cn m.cj):(m.fill v).bs=[]:=by show(rX _ m.bs _).1=[];rw[h];rfl
theorem O6[YL](ψ:Hd->Hd)(l:List XB):(l.map (XB.cg ψ)).map XB.er=(l.map XB.er).map (bn.cg ψ):=by rw[abI,abI];congr 1;funext b;exact GO ψ b
theorem OC[YL]{g:br}(hs:aF P g){al:Bool}{K:XV->List XB->List Hd->Option R}{Kp:Value->Option R}{r:R}(h:CQ s al g vs K Kp=some r){KP:AV->List bn->List Hd->Prop}(hK:∀v nbs fz,K v nbs fz=some r->KP v.er (nbs.map XB.er) fz):
  (∃z rr nbs,(al=false->z=false)/\(z=true->AV.dm rr=true/\nbs.all bn.ku=true)/\de P g.fn (AV.ft s.er.lk (sd g.ent.env) (XV.cz vs)) [] rr [] nbs/\
   KP (AV.cg (bU [] s.er.nx) rr) (nbs.map (bn.cg (bU [] s.er.nx))) (if AV.flat rr=true/\nbs=[]then[]else Aa z (ja s.er.lk (AV.cm (XV.cz vs)))))\/
   ∃pv,wj P g.fn (AV.bq s.er.lk (fun _=>none) (XV.cz vs)) pv/\Kp pv=some r:=by
 unfold CQ at h;split at h
 case h_2=>cases h
 rename_i hb ho;obtain⟨l,h,e1,hp⟩:=GJ h;split at h
 case h_2=>cases h
 rename_i ds hds;split at h
 case h_2=>cases h
 rename_i v hv;obtain⟨rr,hr,h⟩:=Is h;have h:=Gm h;have hargs:(g.ent.fill v).env.map (fun p=>p.2.er)=AV.ft s.er.lk (sd g.ent.env) (XV.cz vs):=(UE hds hv hp).trans e1;split at h
 ·rename_i hob hpv;unfold PZ at h;split at h
  case h_2=>cases h
  rename_i bl hbl;have hcall:=hs v rr hr (bl.map XB.er) (Ik hbl);unfold tj at hcall;rw[hpv]at hcall;rw[hargs,H0 hb,hob]at hcall;refine .inl ⟨Cb al (XV.val (fS g.out rr).env) bl,_,_,fun e=>by unfold Cb;rw[e];rfl,fun e=>?_,hcall,?_⟩
  ·unfold Cb at e;rw[μ,μ]at e;exact⟨JM _ e.2.1,JJ _ e.2.2⟩
  have:=hK _ _ _ h;rw[DI,O6]at this;rw[YS]at this;exact this
 ·rename_i pv hpv;split at h
  case h_2=>cases h
  rename_i hown hno;have:=hs v rr hr [] (by rw[hown];rfl);unfold tj at this;rw[hpv,hargs,H0 hb,FA _ _ hno]at this;exact .inr ⟨pv,this rfl,h⟩
 ·cases h
def HB(T:List br)(s:XS)(vs:List XV)(K:XV->List XB->List Hd->Option R)(Kp:Value->Option R):XV->Option R
 |.clo fn caps=>match yf T fn (vs++caps)with
  |some g=>match AQ g.ent.env with
   |true=>CQ s false g (vs++caps) K Kp
   |false=>none
  |none=>none
 |_=>none
theorem bBg[YL]{T:List br}(hT:kU P T){K:XV->List XB->List Hd->Option R}{Kp:Value->Option R}{r:R}(h:HB T s vs K Kp vf=some r){KP:AV->List bn->List Hd->Prop}(hK:∀v nbs fz,K v nbs fz=some r->KP v.er (nbs.map XB.er) fz):
  ∃fn caps,vf.er=.clo fn caps/\((∃rr nbs,de P fn (AV.bq s.er.lk (fun _=>none) (XV.cz vs++caps)) [] rr [] nbs/\
   KP (AV.cg (bU [] s.er.nx) rr) (nbs.map (bn.cg (bU [] s.er.nx))) (if AV.flat rr=true/\nbs=[]then[]else ja s.er.lk (AV.cm (XV.cz vs++caps))))\/
   ∃pv,wj P fn (AV.bq s.er.lk (fun _=>none) (XV.cz vs++caps)) pv/\Kp pv=some r):=by
 unfold HB at h;split at h
 case h_2=>cases h
 rename_i fn caps;split at h
 case h_2=>cases h
 rename_i g hg;obtain⟨hs,hfn⟩:=Eb hT hg;split at h
 case h_2=>cases h
 rename_i hno;rcases OC hs h hK with⟨z,rr,nbs,hz,_,h1,h2⟩|h1
 ·rw[FA _ _ hno,hfn,qF]at h1;rw[hz rfl,qF]at h2;exact⟨fn,XV.cz caps,rfl,.inl ⟨rr,nbs,h1,h2⟩⟩
 ·rw[hfn,qF]at h1;exact⟨fn,XV.cz caps,rfl,.inr h1⟩
theorem Rb[YL]{T:List br}(hT:kU P T){K:XV->List XB->List Hd->Option R}{r:R}(h:G9 T s vs K vf=some r){KP:AV->List bn->List Hd->Prop}(hK:∀v nbs fz,K v nbs fz=some r->KP v.er (nbs.map XB.er) fz):
  ∃fn caps ks z rr nbs,vf.er=.clo fn caps/\(z=true->AV.dm rr=true/\nbs.all bn.ku=true)/\de P fn (AV.ft s.er.lk ks (XV.cz vs++caps)) [] rr [] nbs/\
   KP (AV.cg (bU [] s.er.nx) rr) (nbs.map (bn.cg (bU [] s.er.nx))) (if AV.flat rr=true/\nbs=[]then[]else Aa z (ja s.er.lk (AV.cm (XV.cz vs++caps)))):=by
 unfold G9 at h;split at h
 case h_2=>cases h
 rename_i fn caps;split at h
 case h_2=>cases h
 rename_i g hg;obtain⟨hs,hfn⟩:=Eb hT hg;rcases OC hs h hK with⟨z,rr,nbs,_,hz,h1,h2⟩|⟨pv,_,h⟩
 ·rw[hfn,qF]at h1;rw[qF]at h2;exact⟨fn,XV.cz caps,_,z,rr,nbs,rfl,hz,h1,h2⟩
 ·cases h
end
section
variable{R:Type}
def w1(s:XS)(x:Operand)(f:XV->Option R):Option R:=match Ec x with
 |true=>f (s.ev x)
 |false=>none
theorem aP[YL]{x:Operand}{f:XV->Option R}{r:R}(h:w1 s x f=some r):f (s.ev x)=some r/\s.er.ev x=(s.ev x).er:=by
 unfold w1 at h;split at h
 ·exact⟨h,ui s ‹_›⟩
 ·cases h
def wL(s:XS):List Operand->(List XV->Option R)->Option R
 |[],f=>f []
 |x::xs,f=>w1 s x fun v=>wL s xs fun vs=>f (v::vs)
theorem wc[YL]{s:XS}{r:R}:∀{xs:List Operand} {f:List XV->Option R},wL s xs f=some r->∃vs,f vs=some r/\xs.map s.er.ev=XV.cz vs
 |[],f,h=>⟨[],h,rfl⟩
 |x::xs,f,h=>by obtain⟨h,e1⟩:=aP h;obtain⟨vs,h,e2⟩:=wc h;exact⟨s.ev x::vs,h,by show s.er.ev x::xs.map s.er.ev=_;rw[e1,e2];rfl⟩
def Gd(c:Bool)(K:XV->Option R):XV->XV->Option R
 |.d t x,v=>match v with
  |.d t' y=>match t'.j1 t y with
   |some y=>K (.d t (cond c x y))
   |none=>bf c (K (.d t x)) (K (.d t' y))
  |v=>bf c (K (.d t x)) (K v)
 |u,v=>bf c (K u) (K v)
theorem SR[YL]{c:Bool}{K:XV->Option R}{KP:AV->Prop}{r:R}{b:XV}(h:Gd c K a b=some r)(hK:∀v,K v=some r->KP v.er):KP (if c=true then a.er else b.er):=by
 have hif:∀{a b:XV},bf c (K a) (K b)=some r->KP (if c=true then a.er else b.er):=fun h=>by
  rcases uu h with⟨rfl,h⟩|⟨rfl,h⟩
  ·exact hK _ h
  ·exact hK _ h
 unfold Gd at h;split at h
 ·split at h
  ·split at h
   ·rename_i y hy;obtain⟨e,rfl⟩:=Ty.cq hy;subst e;have:=hK _ h;cases c<;>exact this
   ·exact hif h
  ·exact hif h
 ·exact hif h
def nth:List XV->Nat->Option XV
 |[],_=>none
 |v::_,0=>some v
 |_::r,i+1=>nth r i
theorem MN[YL]:∀{l:List XV} {i:Nat} {v:XV},nth l i=some v->(XV.cz l)[i]?=some v.er
 |[],_,_,h=>by cases h
 |v::_,0,_,h=>by cases h;rfl
 |_::r,i+1,v,h=>by have:=MN (l:=r) (i:=i) h;show(_::XV.cz r)[i+1]?=_;rw[List.getElem?_cons_succ];exact this
def A5(kd:Nat):XV->XV->Option Bool
 |.d .b x,.d .b y=>match aaa kd 0 with
  |true=>some (x==y)
  |false=>none
 |.d (.i k) x,.d (.i k') y=>if kd=1/\k=k' then some (x==y)else none
 |.d .s x,.d .s y=>match aaa kd 2 with
  |true=>some (x==y)
  |false=>none
 |_,_=>none
def lZ:List Nat->Bool->Bool->Bool
 |[],p,_=>p
 |_::_,p,q=>p&&q
def AU:List Nat->List XV->List XV->Option Bool
 |[],[],[]=>some true
 |kd::kds,x::xs,y::ys=>match A5 kd x y with
  |some p=>match AU kds xs ys with
   |some q=>some (lZ kds p q)
   |none=>none
  |none=>none
 |_,_,_=>none
theorem S0(h:AU [] xs ys=some q):q=true:=by cases xs<;>cases ys<;>first|(cases h;rfl;done)|(cases h;done)
theorem J3[YL]:∀{kds:List Nat} {xs ys:List XV} {b:Bool},AU kds xs ys=some b->kP kds (XV.bz xs) (XV.bz ys)=some b
 |[],xs,ys,b,h=>by
  cases xs<;>cases ys<;>first|(cases h;rfl;done)|(cases h;done)
 |kd::kds,[],ys,b,h=>by cases h
 |kd::kds,x::xs,[],b,h=>by cases h
 |kd::kds,x::xs,y::ys,b,h=>by
  unfold AU at h;split at h
  case h_2=>cases h
  rename_i p hp;split at h
  case h_2=>cases h
  rename_i q hq;cases h;have e:lZ kds p q=(p&&q):=by
   cases kds with
   |nil=>rw[S0 hq,abY];rfl
   |cons _ _=>rfl
  have ih:=J3 hq;obtain⟨d1,d2,e1,e2,e3⟩:∃d1 d2,x.fc=[.D d1]/\y.fc=[.D d2]/\DV.same kd d1 d2=some p:=by
   unfold A5 at hp;split at hp
   ·split at hp
    ·rename_i hb;obtain rfl:=θ hb;exact⟨_,_,rfl,rfl,hp⟩
    ·cases hp
   ·exact⟨_,_,rfl,rfl,hp⟩
   ·split at hp
    ·rename_i hb;obtain rfl:=θ hb;exact⟨_,_,rfl,rfl,hp⟩
    ·cases hp
   ·cases hp
  show kP (kd::kds) (x.fc++XV.bz xs) (y.fc++XV.bz ys)=_;rw[e1,e2];show(match DV.same kd d1 d2,kP kds (XV.bz xs) (XV.bz ys)with|some p,some q=>some (p&&q)|_,_=>none)=_;rw[e3,ih,e]
def Dj(off:Nat)(K:XV->Option R):XV->Option R
 |.ptr h o=>K (.ptr h (o+off))
 |.ept h t ix o=>match aaa t.n 1 with
  |true=>match o,off with
   |0,0=>K (.ept h t ix 0)
   |_,_=>none
  |false=>K (.ept h t ix (o+off))
 |.apt h ix=>K (.apt h (ix+off))
 |.rpt h o=>K (.rpt h (o+off))
 |.rop t x o=>K (.rop t x (o+off))
 |_=>none
def pr(o j k:Nat):Nat:=match o,k with
 |0,1=>j
 |o,1=>o+j
 |o,k=>o+j*k
theorem uO(o j k:Nat):pr o j k=o+j*k:=by
 unfold pr;split
 ·omega
 ·omega
 ·rfl
def B3(k:Nat)(j:Int)(K:XV->Option R):XV->Option R
 |.d (.sl t) xs=>match aaa t.n k with
  |true=>aZ xs j fun x=>K (.rop t x 0)
  |false=>none
 |.fl t xs=>match aaa t.n k with
  |true=>aZ xs j fun x=>K (.rop t x 0)
  |false=>none
 |.slw h t len=>match aaa t.n k with
  |true=>az (0<=j) (az (j<(len:Int)) (K (.ept h t j.toNat 0)))
  |false=>none
 |.sl h t off len=>match aaa t.n k with
  |true=>az (0<=j) (az (j<(len:Int)) (K (.ept h t (off+j.toNat) 0)))
  |false=>none
 |.asl h off len=>match aaa 1 k with
  |true=>az (0<=j) (az (j<(len:Int)) (K (.apt h (pr off j.toNat 1))))
  |false=>none
 |.rsl h off l len=>match aaa 1 k with
  |true=>az (0<=j) (az (j<(len:Int)) (K (.rpa h off (pr l j.toNat 1))))
  |false=>none
 |_=>none
def GW(m k:Nat)(j:Int)(K:XV->Option R):XV->Option R
 |.apt h ix=>az (0<=j) (az (j<(m:Int)) (K (.apt h (pr ix j.toNat k))))
 |.rop t x o=>az (0<=j) (az (j<(m:Int)) (K (.rop t x (pr o j.toNat k))))
 |.ptr h o=>match aaa k 1 with
  |true=>az (0<=j) (az (j<(m:Int)) (K (.pa h o j.toNat)))
  |false=>az (0<=j) (az (j<(m:Int)) (K (.ptr h (pr o j.toNat k))))
 |.rpt h o=>match aaa k 1 with
  |true=>az (0<=j) (az (j<(m:Int)) (K (.rpa h o j.toNat)))
  |false=>az (0<=j) (az (j<(m:Int)) (K (.rpt h (pr o j.toNat k))))
 |.ept h t ix o=>match aaa t.n 1,aaa k 1 with
  |false,true=>az (0<=j) (az (j<(m:Int)) (K (.epa h t ix o j.toNat)))
  |_,_=>none
 |_=>none
def zn(s:XS)(k:Nat)(lo hi mx:Option Operand)(K:XV->Option R):XV->Option R
 |.d (.sl t) xs=>match aaa t.n k with
  |true=>match mx with
   |none=>qE s hi xs.length fun h=>qE s lo 0 fun l=>az (l<=h) (az (h<=xs.length) (K (.d (.sl t) ((xs.drop l).take (h-l)))))
   |some _=>match hi with
    |none=>none
    |some _=>qE s mx xs.length fun m=>qE s hi xs.length fun h=>qE s lo 0 fun l=>az (l<=h) (az (h<=xs.length) (az (h=m) (K (.fl t ((xs.drop l).take (h-l))))))
  |false=>none
 |.fln t=>match mx with
  |none=>qE s hi 0 fun h=>qE s lo 0 fun l=>az (l<=h) (az (h<=0) (K (.fln t)))
  |some _=>none
 |.slw hd t len=>match aaa t.n k,mx with
  |true,none=>match lo,hi with
   |none,none=>K (.slw hd t len)
   |none,hi=>qE s hi len fun h=>az (h<=len) (K (.sl hd t 0 h))
   |lo,hi=>qE s hi len fun h=>qE s lo 0 fun l=>az (l<=h) (az (h<=len) (K (.sl hd t l (h-l))))
  |_,_=>none
 |.sl hd t off len=>match aaa t.n k,mx with
  |true,none=>qE s hi len fun h=>qE s lo 0 fun l=>az (l<=h) (az (h<=len) (K (.sl hd t (off+l) (h-l))))
  |_,_=>none
 |.asl hd off len=>match aaa 1 k,mx with
  |true,none=>qE s hi len fun h=>qE s lo 0 fun l=>az (l<=h) (az (h<=len) (K (.asl hd (pr off l 1) (h-l))))
  |_,_=>none
 |.rsl hd off l0 len=>match aaa 1 k,mx with
  |true,none=>qE s hi len fun h=>qE s lo 0 fun l=>az (l<=h) (az (h<=len) (K (.rsl hd off (pr l0 l 1) (h-l))))
  |_,_=>none
 |_=>none
theorem K7[YL]{K:XV->Option R}{r:R}(h:Dj off K v=some r){KP:AV->Prop}(hK:∀v,K v=some r->KP v.er):
  match v.er with
  |.ptr h o=>KP (.ptr h (o+off))
  |.eptr h k ix o=>KP (AV.ia h k ix o off)
  |.rop ds=>KP (.rop (ds.drop off))
  |_=>False:=by
 unfold Dj at h;split at h
 ·exact hK _ h
 ·rename_i hd t ix o;show KP (AV.ia hd t.n ix o off);unfold AV.ia;split at h
  ·rename_i hb;have hb:=θ hb;split at h
   ·have:=hK _ h;simp only[XV.er,hb]at this;rw[if_pos hb];exact this
   ·cases h
  ·rename_i hb;rw[if_neg (fun e=>by rw[e]at hb;cases hb)];exact hK _ h
 ·rename_i hd ix;show KP (AV.ia hd 1 ix 0 off);unfold AV.ia;rw[if_pos rfl];exact hK _ h
 ·rename_i hd ix;show KP (AV.ia hd 1 ix 0 off);unfold AV.ia;rw[if_pos rfl];exact hK _ h
 ·rename_i t x o;have:=hK _ h;simp only[XV.er]at this|-;rw[abe];exact this
 ·cases h
theorem E9[YL]{K:XV->Option R}{r:R}(h:B3 k j K v=some r){KP:AV->Prop}(hK:∀v,K v=some r->KP v.er):0<=j/\
  match v.er with
  |.D (.L es)=>∃e,es[j.toNat]?=some e/\e.length=k/\KP (.rop e)
  |.fl es=>∃e,es[j.toNat]?=some e/\e.length=k/\KP (.rop e)
  |.sl h k' off len=>k'=k/\j<len/\KP (.eptr h k (off+j.toNat) 0)
  |_=>False:=by
 unfold B3 at h;split at h
 ·rename_i t xs;split at h
  ·rename_i hb;obtain⟨x,h0,hx,h⟩:=BJ h;refine⟨h0,t.ds x,by rw[aac,hx];rfl,by rw[Ty.fk];exact θ hb,hK _ h⟩
  ·cases h
 ·rename_i t xs;split at h
  ·rename_i hb;obtain⟨x,h0,hx,h⟩:=BJ h;refine⟨h0,t.ds x,by rw[aac,hx];rfl,by rw[Ty.fk];exact θ hb,hK _ h⟩
  ·cases h
 ·split at h
  ·rename_i hb;obtain⟨h0,h⟩:=bB h;obtain⟨h1,h⟩:=bB h;have hb:=θ hb;have:=hK _ h;simp only[XV.er,hb]at this;exact⟨h0,hb,h1,by rw[aan];exact this⟩
  ·cases h
 ·split at h
  ·rename_i hb;obtain⟨h0,h⟩:=bB h;obtain⟨h1,h⟩:=bB h;have hb:=θ hb;have:=hK _ h;simp only[XV.er,hb]at this;exact⟨h0,hb,h1,this⟩
  ·cases h
 ·split at h
  ·rename_i hb;obtain⟨h0,h⟩:=bB h;obtain⟨h1,h⟩:=bB h;have hb:=θ hb;subst hb;have:=hK _ h;rw[uO,aaN]at this;exact⟨h0,rfl,h1,this⟩
  ·cases h
 ·rename_i hd off l len;split at h
  ·rename_i hb;obtain⟨h0,h⟩:=bB h;obtain⟨h1,h⟩:=bB h;have hb:=θ hb;subst hb;have:=hK _ h;simp only[XV.er,uO,aaN]at this;exact⟨h0,rfl,h1,by rw[ab6];exact this⟩
  ·cases h
 ·cases h
theorem bIg[YL]{m:Nat}{K:XV->Option R}{r:R}(h:GW m k j K v=some r){KP:AV->Prop}(hK:∀v,K v=some r->KP v.er):0<=j/\j<(m:Int)/\
  match v.er with
  |.ptr h o=>KP (.ptr h (o+j.toNat*k))
  |.eptr h k' ix o=>KP (AV.ia h k' ix o (j.toNat*k))
  |.rop ds=>KP (.rop (ds.drop (j.toNat*k)))
  |_=>False:=by
 unfold GW at h;split at h
 ·rename_i hd ix;obtain⟨h0,h⟩:=bB h;obtain⟨h1,h⟩:=bB h;have:=hK _ h;rw[uO]at this;refine⟨h0,h1,?_⟩;show KP (AV.ia hd 1 ix 0 (j.toNat*k));unfold AV.ia;rw[if_pos rfl];exact this
 ·rename_i t x o;obtain⟨h0,h⟩:=bB h;obtain⟨h1,h⟩:=bB h;have:=hK _ h;rw[uO]at this;refine⟨h0,h1,?_⟩;simp only[XV.er]at this|-;rw[abe];exact this
 ·rename_i hd o;split at h
  ·rename_i hb;obtain⟨h0,h⟩:=bB h;obtain⟨h1,h⟩:=bB h;have hb:=θ hb;subst hb;have:=hK _ h;refine⟨h0,h1,?_⟩;show KP (.ptr hd (o+j.toNat*1));rw[aaN];exact this
  ·obtain⟨h0,h⟩:=bB h;obtain⟨h1,h⟩:=bB h;have:=hK _ h;rw[uO]at this;exact⟨h0,h1,this⟩
 ·rename_i hd o;split at h
  ·rename_i hb;obtain⟨h0,h⟩:=bB h;obtain⟨h1,h⟩:=bB h;have hb:=θ hb;subst hb;have:=hK _ h;refine⟨h0,h1,?_⟩;show KP (AV.ia hd 1 o 0 (j.toNat*1));unfold AV.ia;rw[if_pos rfl,aaN];exact this
  ·obtain⟨h0,h⟩:=bB h;obtain⟨h1,h⟩:=bB h;have:=hK _ h;rw[uO]at this;refine⟨h0,h1,?_⟩;show KP (AV.ia hd 1 o 0 (j.toNat*k));unfold AV.ia;rw[if_pos rfl];exact this
 ·rename_i hd t ix o;split at h
  ·rename_i hb1 hb;obtain⟨h0,h⟩:=bB h;obtain⟨h1,h⟩:=bB h;have hb:=θ hb;subst hb;have:=hK _ h;refine⟨h0,h1,?_⟩;show KP (AV.ia hd t.n ix o (j.toNat*1));unfold AV.ia;rw[if_neg (fun e=>by rw[e]at hb1;cases hb1),aaN];exact this
  ·cases h
 ·cases h
theorem DU[YL]{lo hi mx:Option Operand}{K:XV->Option R}{r:R}(h:zn s k lo hi mx K v=some r){KP:AV->Prop}(hK:∀v,K v=some r->KP v.er):mI k s.er.ev lo hi mx KP v.er:=by
 unfold zn at h;split at h
 ·rename_i t xs;split at h
  ·rename_i hb;have hb:=θ hb;have hu:js k (xs.map t.ds):=hb▸uU t xs;have hl:(xs.map t.ds).length=xs.length:=κ _;split at h
   ·refine⟨hu,?_⟩;rw[hl];rw[show∀(Q:Nat->Prop),gJ s.er.ev none xs.length Q=Q xs.length from fun _=>rfl];refine eM h fun hh h=>eM h fun l h=>?_;obtain⟨h1,h⟩:=bB h;obtain⟨h2,h⟩:=bB h;refine⟨h1,h2,fun e=>aaU e,?_⟩;have:=hK _ h;simp only[XV.er,dA,aaz,aaI]at this;exact this
   ·split at h
    ·cases h
    ·refine⟨hu,?_⟩;rw[hl];refine eM h fun m h=>eM h fun hh h=>eM h fun l h=>?_;obtain⟨h1,h⟩:=bB h;obtain⟨h2,h⟩:=bB h;obtain⟨h3,h⟩:=bB h;refine⟨h1,h2,fun _=>⟨rfl,h3⟩,?_⟩;have:=hK _ h;simp only[XV.er,aaz,aaI]at this;rw[if_pos (show(some _).isSome=true from rfl)];exact this
  ·cases h
 ·rename_i t;split at h
  ·refine⟨fun e he=>(by simp at he),?_⟩;refine(show∀Q:Nat->Prop,Q 0->gJ s.er.ev none ([]:List (List DV)).length Q from fun _ h=>h) _ ?_;refine eM (d:=0) h fun hh h=>eM h fun l h=>?_;obtain⟨h1,h⟩:=bB h;obtain⟨h2,h⟩:=bB h;refine⟨h1,h2,me _,fun e=>aaU e,?_⟩;have:=hK _ h;rw[if_pos (show hh=0 by omega),List.drop_nil,List.take_nil];exact this
  ·cases h
 ·rename_i hd t len;split at h
  ·rename_i hb;have hb:=θ hb;split at h
   ·refine⟨hb,rfl,?_⟩;show 0<=len/\len<=len/\_;refine⟨aba _,me _,?_⟩;have:=hK _ h;simp only[XV.er,hb]at this;exact this
   ·refine⟨hb,rfl,eM h fun hh h=>?_⟩;obtain⟨h2,h⟩:=bB h;show 0<=hh/\hh<=len/\_;refine⟨aba _,h2,?_⟩;have:=hK _ h;simp only[XV.er,hb]at this;exact this
   ·refine⟨hb,rfl,eM h fun hh h=>eM h fun l h=>?_⟩;obtain⟨h1,h⟩:=bB h;obtain⟨h2,h⟩:=bB h;refine⟨h1,h2,?_⟩;have:=hK _ h;simp only[XV.er,hb]at this;rw[aan];exact this
  ·cases h
 ·rename_i hd t off len;split at h
  ·rename_i hb;have hb:=θ hb;refine⟨hb,rfl,eM h fun hh h=>eM h fun l h=>?_⟩;obtain⟨h1,h⟩:=bB h;obtain⟨h2,h⟩:=bB h;refine⟨h1,h2,?_⟩;have:=hK _ h;simp only[XV.er,hb]at this;exact this
  ·cases h
 ·rename_i hd off len;split at h
  ·rename_i hb;have hb:=θ hb;refine⟨hb,rfl,eM h fun hh h=>eM h fun l h=>?_⟩;obtain⟨h1,h⟩:=bB h;obtain⟨h2,h⟩:=bB h;refine⟨h1,h2,?_⟩;have:=hK _ h;rw[uO,aaN]at this;subst hb;exact this
  ·cases h
 ·rename_i hd off l0 len;split at h
  ·rename_i hb;have hb:=θ hb;refine⟨hb,rfl,eM h fun hh h=>eM h fun l h=>?_⟩;obtain⟨h1,h⟩:=bB h;obtain⟨h2,h⟩:=bB h;refine⟨h1,h2,?_⟩;have:=hK _ h;simp only[XV.er,uO,aaN]at this;subst hb;rw[ab6];exact this
  ·cases h
 ·cases h
end
section
variable{R:Type}
def bE(xs:List Int):cc:=xs.map fun n=>UInt8.ofNat n.toNat
theorem LM:∀{xs:List Int},qL (xs.map (Ty.i .u8).ds)=some (bE xs)
 |[]=>rfl
 |x::xs=>by have ih:=LM (xs:=xs);show(qL (xs.map (Ty.i .u8).ds)).map _=_;rw[ih];rfl
def u0:List XV->Nat
 |[]=>0
 |v::r=>v.sz+u0 r
theorem Ae[YL]:∀l:List XV,(XV.bz l).length=u0 l
 |[]=>rfl
 |v::r=>by show(v.fc++XV.bz r).length=v.sz+u0 r;rw[ε,A8,Ae r]
theorem zC:∀l:List DV,AV.data (l.map .D)=some l
 |[]=>rfl
 |x::l=>by show(AV.data (l.map .D)).map (x::·)=_;rw[zC l];rfl
def zl:Ty->List XV
 |.u=>[]
 |.b=>[.d .b false]
 |.i k=>[.d (.i k) 0]
 |.s=>[.d .s []]
 |.p a c=>zl a++zl c
 |.w a=>zl a
 |.ar n k=>[.d (.ar n k) (bw.zero n)]
 |.sl t=>[.fln t]
 |.o t=>[.fln t]
def xc:Ty->List AV
 |.u=>[]
 |.b=>[.D (.B false)]
 |.i k=>[.D (.I k 0)]
 |.s=>[.D (.S [])]
 |.p a c=>xc a++xc c
 |.w a=>xc a
 |.ar n k=>aae n (.D (.I k 0))
 |.sl _=>[.fl []]
 |.o _=>[.fl []]
theorem Du[YL]:∀t:Ty,XV.bz (zl t)=xc t
 |.u=>rfl
 |.b=>rfl
 |.i _=>rfl
 |.s=>rfl
 |.p a c=>by show XV.bz (zl a++zl c)=xc a++xc c;rw[oV,Du a,Du c]
 |.w a=>Du a
 |.ar n k=>by
  show(((aae n (0:Int)).map (DV.I k)).map AV.D)++[]=aae n (.D (.I k 0));rw[aag,abW,abW]
 |.sl _=>rfl
 |.o _=>rfl
def ou:List AV->List AV->Bool
 |[],[]=>true
 |.D (.B x)::r,.D (.B y)::r'=>(x==y)&&ou r r'
 |.D (.I k x)::r,.D (.I k' y)::r'=>decide (k=k')&&((x==y)&&ou r r')
 |.D (.S x)::r,.D (.S y)::r'=>(x==y)&&ou r r'
 |.fl []::r,.fl []::r'=>ou r r'
 |.D (.L [])::r,.D (.L [])::r'=>ou r r'
 |_,_=>false
theorem xt:∀{a c:List AV},ou a c=true->a=c:=by
 intro a
 induction a with
 |nil=>intro c h;cases c<;>first|rfl|(cases h;done)
 |cons x r ih=>
  intro c h;unfold ou at h;split at h
  ·cases‹x::r=[]›
  ·rename_i e;cases e;rw[μ,beq_iff_eq]at h;rw[h.1,ih h.2]
  ·rename_i e;cases e;rw[μ,μ,beq_iff_eq,decide_eq_true_eq]at h;rw[h.1,h.2.1,ih h.2.2]
  ·rename_i e;cases e;rw[μ,beq_iff_eq]at h;rw[h.1,ih h.2]
  ·rename_i e;cases e;rw[ih h]
  ·rename_i e;cases e;rw[ih h]
  ·cases h
def zX:List AV->Option (List XV)
 |[]=>some []
 |.D (.B x)::r=>(zX r).map (.d .b x::·)
 |.D (.I k x)::r=>(zX r).map (.d (.i k) x::·)
 |.D (.S x)::r=>(zX r).map (.d .s x::·)
 |.fl []::r=>(zX r).map (.fln .u::·)
 |.D (.C v)::r=>(zX r).map (.c v::·)
 |_=>none
theorem KM[YL]:∀{a:List AV} {l:List XV},zX a=some l->XV.bz l=a:=by
  intro a
  induction a with
  |nil=>intro l h;cases h;rfl
  | cons x r ih =>
    intro l h;unfold zX at h;split at h
    · rename_i e;cases e
    all_goals first
      | (rename_i e;cases e
         rw[ι]at h;obtain⟨l',h1,rfl⟩:=h;exact congrArg (_::·) (ih h1))
      |(cases h;done)
def Cq(ty:Option Ty)(zs:List AV):Option (List XV):=match ty with
 |some t=>match ou zs (xc t)with
  |true=>some (zl t)
  |false=>none
 |none=>zX zs
theorem LS[YL](h:Cq ty zs=some l):XV.bz l=zs:=by
 unfold Cq at h;split at h
 ·split at h
  ·rename_i hz;cases h;rw[Du,xt hz]
  ·cases h
 ·exact KM h
def vw:Option Ty->Option Ty
 |some (.sl t)=>some t
 |_=>none
def Bb(s:XS)(t:Ty):List XV->(List t.T->Option R)->Option R
 |[],K=>K []
 |v::vs,K=>match uD v with
  |some cs=>yi s t cs fun x l=>match l with
   |[]=>Bb s t vs fun ys=>K (x::ys)
   |_=>none
  |none=>none
theorem HF[YL]{s:XS}{t:Ty}{k:Nat}(hk:t.n=k){r:R}:∀{ps:List Operand} {vs:List XV} {K:List t.T->Option R},ps.map s.er.ev=XV.cz vs->Bb s t vs K=some r->∃xs,K xs=some r/\uI s.er.lk s.er.ev k ps=some (xs.map t.ds)/\gO s.er.ev ps=XV.p7 vs
 |[],[],K,_,h=>⟨[],h,rfl,rfl⟩
 |p::ps,v::vs,K,e,h=>by
  have e1:s.er.ev p=v.er:=List.head_eq_of_cons_eq e;have e2:ps.map s.er.ev=XV.cz vs:=List.tail_eq_of_cons_eq e;unfold Bb at h;split at h
  ·rename_i cs hcs;obtain⟨x,l1,l2,rfl,h,ec⟩:=BO (φ:=fun _=>none) (fun _ _ _=>rfl) h;split at h
   ·obtain⟨xs,h,h1,h2⟩:=HF hk e2 h;refine⟨x::xs,h,?_,?_⟩
    ·unfold uI;rw[e1,oF hcs,h1];show(match AV.data (AV.bq s.er.lk (fun _=>none) (XV.bz (l1++[]))),some (xs.map t.ds)with|some e,some es=>if e.length=k then some (e::es)else none|_,_=>none)=_;rw[aag,ec,zC];show(if(t.ds x).length=k then _ else _)=_;rw[if_pos (by rw[Ty.fk];exact hk)];rfl
    ·show AV.rows (s.er.ev p)++gO s.er.ev ps=_;rw[e1,vu,h2];rfl
   ·cases h
  ·cases h
 |[],_::_,_,e,_=>by cases e
 |_::_,[],_,e,_=>by cases e
def Ia(s:XS):List (Nat×Nat×Operand)->List XV->(List XV->Option R)->Option R
 |[],l,K=>K l
 |(o,sz,x)::r,l,K=>w1 s x fun v=>match uD v with
  |some cs=>match aaa (u0 cs) sz,uk l o cs sz with
   |true,some l'=>Ia s r l' K
   |_,_=>none
  |none=>none
theorem M8(o:Nat)(xs:List AV):∀(r:List (Nat×List AV)) (cs:List AV),zD cs (r++[(o,xs)])=(zD cs r).take o++xs++(zD cs r).drop (o+xs.length)
 |[],cs=>rfl
 |(o',ys)::r,cs=>by show zD _ (r++[(o,xs)])=_;rw[M8 o xs r];rfl
theorem LK[YL]{s:XS}{zs:List AV}{K:List XV->Option R}{r:R}{KP:AV->Prop}(hK:∀l,K l=some r->KP (.agg (XV.bz l))):∀{ps:List (Nat×Nat×Operand)} {l:List XV} {acc:List (Nat×List AV)},XV.bz l=zD zs acc.reverse->(XV.bz l).length=zs.length->Ia s ps l K=some r->y9 s.er.ev zs ps acc KP
 |[],l,acc,e,_,h=>by show KP (.agg (zD zs acc.reverse));rw[<-e];exact hK _ h
 |(o,sz,x)::ps,l,acc,e,el,h=>by
  obtain⟨h,e1⟩:=aP h;split at h
  ·rename_i cs hcs;split at h
   ·rename_i l' hb hu;obtain⟨u1,u2⟩:=vR hu;have hsz:(XV.bz cs).length=sz:=by rw[Ae];exact θ hb
    refine⟨XV.bz cs,by rw[e1];exact oF hcs,hsz,by rw[<-el];exact u1,?_⟩;refine LK hK (l:=l') ?_ ?_ h
    ·rw[u2,e,List.reverse_cons,M8,hsz]
    ·rw[u2,ε,ε,aao,aat,hsz];omega
   ·cases h
  ·cases h
def Ar:XV->XV
 |.agg [.d (.ar n k) x]=>.d (.ar n k) x
 |v=>v
theorem EF[YL](v:XV):(Ar v).er=v.er:=by
 unfold Ar;split
 ·rename_i n k x;show AV.agg (((Ty.ar n k).ds x).map .D)=.agg (((Ty.ar n k).ds x).map .D++[]);rw[aag]
 ·rfl
def Ty.z:(t:Ty)->t.T
 |.u=>()
 |.b=>false
 |.i _=>0
 |.s=>[]
 |.p a c=>(a.z,c.z)
 |.w a=>a.z
 |.ar n _=>bw.zero n
 |.sl _=>[]
 |.o _=>[]
def GM(t:Ty)(k bytes:Nat)(zs:List DV)(K:XV->XB->Option R)(m:Nat):XV->XV->Option R
 |.d (.i _) l,.d (.i _) c=>match aaa t.n k,ou (zs.map .D) ((t.ds t.z).map .D)with
  |true,true=>az (0<=l) (az (l<=c) (az (c.toNat<=9223372036854775807) (az (c.toNat*bytes<=281474976710656) (K (.slw (.O m) t l.toNat) (.row true t (aae l.toNat t.z))))))
  |_,_=>none
 |_,_=>none
theorem bIr[YL]{zs:List DV}{K:XV->XB->Option R}{r:R}{m:Nat}{vx:XV}(h:GM t k bytes zs K m vx vy=some r):
  ∃(k1 k2:IntKind) (l c:Int) (v:XV) (b:XB),vx.er=.D (.I k1 l)/\vy.er=.D (.I k2 c)/\0<=l/\l<=c/\c<=9223372036854775807/\(bytes:Int)*c<=281474976710656/\K v b=some r/\v.er=.sl (.O m) k 0 l.toNat/\b.er=.row true k (aae l.toNat zs):=by
 unfold GM at h;split at h
 ·rename_i k1 l k2 c;split at h
  ·rename_i hb hz;have hb:=θ hb;have hz:=nE (xt hz);obtain⟨h1,h⟩:=bB h;obtain⟨h2,h⟩:=bB h;obtain⟨h3,h⟩:=bB h;obtain⟨h4,h⟩:=bB h;have h0:(0:Int)<=c:=Int.le_trans (show(0:Int)<=l from h1) h2;have hc:((Int.toNat c:Nat):Int)=c:=Int.toNat_of_nonneg h0;have h3:(c:Int)<=9223372036854775807:=by rw[<-hc];exact Int.ofNat_le.2 h3
   have h4:(bytes:Int)*c<=281474976710656:=by rw[<-hc,Int.mul_comm,<-Int.natCast_mul];exact Int.ofNat_le.2 h4
   refine⟨k1,k2,l,c,_,_,rfl,rfl,h1,h2,h3,h4,h,?_,?_⟩
   ·show AV.sl (.O m) t.n 0 _=_;rw[hb]
   ·show bn.row true t.n ((aae _ t.z).map t.ds)=_;rw[hb,abW,<-hz]
  ·cases h
 ·cases h
def Ai(j:Int)(K:XV->Option R):Nat->List XV->Option R
 |_,[]=>none
 |i,v::vs=>match v with
  |.clo f c=>bf (decide (j=(i:Int))) (K (.clo f c)) (Ai j K (i+1) vs)
  |_=>none
theorem KC[YL]{j:Int}{K:XV->Option R}{r:R}:∀{vs:List XV} {i:Nat},Ai j K i vs=some r->∃n v,j=((i+n:Nat):Int)/\n<vs.length/\(XV.bz vs)[n]?=some v.er/\K v=some r
 |[],i,h=>by cases h
 |v::vs,i,h=>by
  unfold Ai at h;split at h
  ·rename_i f c;by_cases hj:j=(i:Int)
   ·rw[decide_eq_true hj]at h;exact⟨0,.clo f c,hj,adq _,rfl,h⟩
   ·rw[decide_eq_false hj]at h;have h:Ai j K (i+1) vs=some r:=h;obtain⟨n,v,h1,h2,h3,h4⟩:=KC h;exact⟨n+1,v,by rw[h1];congr 1;omega,acK h2,h3,h4⟩
  ·cases h
def KS:List XV->Bool
 |[]=>true
 |v::r=>match v with
  |.d (.ar _ _) _=>false
  |_=>KS r
def bRi(s:XS):XV->Bool
 |.ptr h _=>match s.lk h with
  |some (.box cs)=>KS cs
  |_=>false
 |_=>false
def BF(h:Hd)(o k:Nat)(j:Int)(K:XV->Option R):Nat->Nat->Option R
 |_,0=>none
 |i,n+1=>bf (decide (j=(i:Int))) (K (.ptr h (o+i*k))) (BF h o k j K (i+1) n)
theorem P1{h:Hd}{o k:Nat}{j:Int}{K:XV->Option R}{r:R}:∀{n i:Nat},BF h o k j K i n=some r->∃t,j=((i+t:Nat):Int)/\t<n/\K (.ptr h (o+(i+t)*k))=some r
 |0,i,e=>by cases e
 |n+1,i,e=>by
  unfold BF at e;by_cases hj:j=(i:Int)
  ·rw[decide_eq_true hj]at e;exact⟨0,hj,adq _,e⟩
  ·rw[decide_eq_false hj]at e;have e:BF h o k j K (i+1) n=some r:=e;obtain⟨t,h1,h2,h3⟩:=P1 e;exact⟨t+1,by rw[h1];congr 1;omega,acK h2,by rw[show i+(t+1)=i+1+t by omega];exact h3⟩
def IN(s:XS)(m k:Nat)(j:Int)(K:XV->Option R)(v:XV):Option R:=match bRi s v with
 |true=>match v with
  |.ptr h o=>BF h o k j K 0 m
  |_=>none
 |false=>GW m k j K v
theorem U6[YL]{m:Nat}{K:XV->Option R}{r:R}(h:IN s m k j K v=some r){KP:AV->Prop}(hK:∀v,K v=some r->KP v.er):0<=j/\j<(m:Int)/\
  match v.er with
  |.ptr h o=>KP (.ptr h (o+j.toNat*k))
  |.eptr h k' ix o=>KP (AV.ia h k' ix o (j.toNat*k))
  |.rop ds=>KP (.rop (ds.drop (j.toNat*k)))
  |_=>False:=by
 unfold IN at h;split at h
 ·split at h
  ·rename_i hd o _;obtain⟨t,h1,h2,h3⟩:=P1 h;have:=hK _ h3;refine⟨by omega,by omega,?_⟩;show KP (.ptr hd (o+j.toNat*k));rw[h1,χ];exact this
  ·cases h
 ·exact bIg h hK
def yx(ag:Option Nat)(k:Nat)(cs:List XV)(j:Int)(K:XV->Option R):Nat->Nat->Option R
 |_,0=>none
 |i,n+1=>bf (decide (j=(i:Int))) (ug ag cs (i*k) K) (yx ag k cs j K (i+1) n)
theorem Mo[YL]{ag:Option Nat}{k:Nat}{cs:List XV}{j:Int}{K:XV->Option R}{r:R}:∀{n i:Nat},yx ag k cs j K i n=some r->∃t,j=((i+t:Nat):Int)/\t<n/\ug ag cs ((i+t)*k) K=some r
 |0,i,h=>by cases h
 |n+1,i,h=>by
  unfold yx at h;by_cases hj:j=(i:Int)
  ·rw[decide_eq_true hj]at h;exact⟨0,hj,adq _,h⟩
  ·rw[decide_eq_false hj]at h;have h:yx ag k cs j K (i+1) n=some r:=h;obtain⟨t,h1,h2,h3⟩:=Mo h;exact⟨t+1,by rw[h1];congr 1;omega,acK h2,by rw[show i+(t+1)=i+1+t by omega];exact h3⟩
def Gv(m k:Nat)(ag:Option Nat)(j:Int)(K:XV->Option R):XV->Option R
 |.d (.ar n k') y=>match ag with
  |none=>match aaa n m,aaa k 1 with
   |true,true=>aZ y.l j fun c=>K (.d (.i k') c)
   |_,_=>none
  |some q=>match aaa (m*k) n,aaa q k with
   |true,true=>az (0<=j) (az (j<(m:Int)) (K (.d (.ar q k') (y.part (pr 0 j.toNat k) q))))
   |_,_=>none
 |.agg cs=>match ag with
  |none=>match aaa cs.length m,aaa k 1 with
   |true,true=>Ai j K 0 cs
   |_,_=>none
  |some q=>match aaa q k with
   |true=>yx (some q) k cs j K 0 m
   |false=>none
 |_=>none
theorem Xs[YL]{m:Nat}{K:XV->Option R}{r:R}(h:Gv m k ag j K v=some r){KP:AV->Prop}(hK:∀v,K v=some r->KP v.er):∃cs,v.er=.agg cs/\0<=j/\j<(m:Int)/\
  match(generalizing:=false) ag with
  |none=>∃a,cs[j.toNat*k]?=some a/\KP a
  |some q=>j.toNat*k+q<=cs.length/\KP (.agg ((cs.drop (j.toNat*k)).take q)):=by
 unfold Gv at h;split at h
 ·rename_i n k' y;cases ag with
  |none=>
   replace h:(match aaa n m,aaa k 1 with
    |true,true=>aZ y.l j fun c=>K (.d (.i k') c)
    |_,_=>none)=some r:=h
   split at h
   ·rename_i hb hb2;have hb:=θ hb;have hb2:=θ hb2;obtain⟨c,h0,hc,h⟩:=BJ h;have hlt:=(υ.1 hc).1;rw[y.len]at hlt;refine⟨(y.l.map (DV.I k')).map .D,rfl,h0,by omega,.D (.I k' c),?_,hK (.d (.i k') c) h⟩;rw[hb2,aaN,aac,aac,hc];rfl
   ·cases h
  |some q=>
   replace h:(match aaa (m*k) n,aaa q k with
    |true,true=>az (0<=j) (az (j<(m:Int)) (K (.d (.ar q k') (y.part (pr 0 j.toNat k) q))))
    |_,_=>none)=some r:=h
   split at h
   ·rename_i hb hb2;have hb:=θ hb;obtain rfl:=θ hb2;obtain⟨h0,h⟩:=bB h;obtain⟨h1,h⟩:=bB h;have hle:j.toNat*q+q<=n:=by rw[<-hb,<-Nat.succ_mul];exact Nat.mul_le_mul_right _ (by omega)
    have:=hK _ h;rw[uO,aan]at this;refine⟨(y.l.map (DV.I k')).map .D,rfl,h0,h1,by rw[κ,κ,y.len];exact hle,?_⟩;have e:(XV.d (.ar q k') (y.part (j.toNat*q) q)).er=.agg ((((y.l.map (DV.I k')).map AV.D).drop (j.toNat*q)).take q):=by show AV.agg (((y.part (j.toNat*q) q).l.map (DV.I k')).map .D)=_;rw[bw.rq hle,aaz,aaI,aaz,aaI]
    rw[e]at this;exact this
   ·cases h
 ·rename_i cs;cases ag with
  |none=>
   replace h:(match aaa cs.length m,aaa k 1 with
    |true,true=>Ai j K 0 cs
    |_,_=>none)=some r:=h
   split at h
   ·rename_i hb hb2;have hb:=θ hb;obtain rfl:=θ hb2;obtain⟨n,v,h1,h2,h3,h4⟩:=KC h;refine⟨XV.bz cs,rfl,by omega,by omega,v.er,?_,hK v h4⟩;rw[h1,χ,aaN,aan];exact h3
   ·cases h
  |some q=>
   replace h:(match aaa q k with
    |true=>yx (some q) k cs j K 0 m
    |false=>none)=some r:=h
   split at h
   ·rename_i hb;obtain rfl:=θ hb;obtain⟨t,h1,h2,h3⟩:=Mo h;obtain⟨v,h4,h5⟩:=zw h3;have e:j.toNat*q=(0+t)*q:=by rw[h1,χ]
    refine⟨XV.bz cs,rfl,by omega,by omega,?_,?_⟩
    ·rw[e];exact h5.1
    ·rw[e,<-h5.2];exact hK _ h4
   ·cases h
 ·cases h
def KF(s:XS)(m:Nat)(lo hi:Option Operand)(K:XV->Option R):XV->Option R
 |.apt h ix=>match s.lk h with
  |some (.arr _ n _ _)=>match ac0 (ix+m) n with
   |true=>qE s hi m fun hh=>qE s lo 0 fun l=>az (l<=hh) (az (hh<=m) (K (.asl h (pr ix l 1) (hh-l))))
   |false=>none
  |_=>none
 |.rpt h off=>match s.lk h with
  |some (.rb _ t x)=>match om (jb t x) off with
   |some a=>match aaa a.n m with
    |true=>qE s hi m fun hh=>qE s lo 0 fun l=>az (l<=hh) (az (hh<=m) (K (.rsl h off l (hh-l))))
    |false=>none
   |none=>none
  |_=>none
 |_=>none
def zK(k:IntKind):Nat->List AV->Bool
 |0,[]=>true
 |n+1,.D (.I k' 0)::l=>decide (k'=k)&&zK k n l
 |_,_=>false
theorem LU{k:IntKind}:∀{n:Nat} {l:List AV},zK k n l=true->l=(aae n (DV.I k 0)).map .D
 |0,[],_=>rfl
 |n+1,.D (.I k' 0)::l,h=>by have h:(decide (k'=k)&&zK k n l)=true:=h;rw[μ,decide_eq_true_eq]at h;rw[h.1,LU h.2];rfl
def NA(zs:List AV)(K:XV->XB->Option R)(m:Nat):Ty->Option R
 |.ar n k=>match zK k n zs with
  |true=>K (.apt (.O m) 0) (.arr true n k (bw.zero n))
  |false=>none
 |t=>match ou zs ((t.ds t.z).map .D)with
  |true=>K (.rpt (.O m) 0) (.rb true t t.z)
  |false=>none
def LV(ty:Option Ty)(K:XV->XB->Option R)(m:Nat):XV->Option R
 |.d (.ar n k) y=>K (.apt (.O m) 0) (.arr true n k y)
 |.agg cs=>match ty with
  |some t=>match o0 t cs with
   |some (x,[])=>K (.rpt (.O m) 0) (.rb true t x)
   |_=>none
  |none=>none
 |_=>none
def Fc(k:IntKind)(m:Nat)(K:Bool->Option R):XV->XV->Option R
 |.d (.ar n k1) a,.d (.ar n2 k2) b=>match aaa n m,aaa n2 m,decide (k1=k),decide (k2=k)with
  |true,true,true,true=>K (a.l==b.l)
  |_,_,_,_=>none
 |_,_=>none
def Ed(K:XV->Option R):XV->Option R
 |.ptr h o=>K (.ptr h o)
 |.ept h t ix o=>K (.ept h t ix o)
 |.apt h ix=>K (.apt h ix)
 |.rpt h o=>K (.rpt h o)
 |.rop t x o=>K (.rop t x o)
 |_=>none
theorem yW{k:IntKind}:∀(l:List Int),wU k ((l.map (DV.I k)).map .D)=some l
 |[]=>rfl
 |x::l=>by show(if k=k then(wU k ((l.map (DV.I k)).map .D)).map (x::·)else none)=_;rw[if_pos rfl,yW l];rfl
theorem bJ4[YL]{k:IntKind}{m:Nat}{K:Bool->Option R}{r:R}{c:XV}(h:Fc k m K a c=some r):∃xs ys p q,a.er=.agg xs/\c.er=.agg ys/\wU k xs=some p/\wU k ys=some q/\p.length=m/\q.length=m/\K (p==q)=some r:=by
 unfold Fc at h;split at h
 ·rename_i n k1 a n2 k2 b;split at h
  ·rename_i h1 h2 h3 h4;have h1:=θ h1;have h2:=θ h2;have h3:=of_decide_eq_true h3;have h4:=of_decide_eq_true h4;subst h1 h2 h3 h4;exact⟨(a.l.map (DV.I _)).map .D,(b.l.map (DV.I _)).map .D,a.l,b.l,rfl,rfl,yW _,yW _,a.len,b.len,h⟩
  ·cases h
 ·cases h
theorem Qk[YL]{K:XV->Option R}{r:R}(h:Ed K v=some r){KP:AV->Prop}(hK:∀v,K v=some r->KP v.er):match v.er with
  |.ptr h o=>KP (.ptr h o)
  |.eptr h k ix o=>KP (.eptr h k ix o)
  |.rop ds=>KP (.rop ds)
  |_=>False:=by
 unfold Ed at h;split at h
 ·exact hK _ h
 ·exact hK _ h
 ·exact hK _ h
 ·exact hK _ h
 ·exact hK _ h
 ·cases h
theorem B1:∀l:List DV,AV.data (l.map .D)=some l
 |[]=>rfl
 |x::l=>by show(AV.data (l.map AV.D)).map (x::·)=_;rw[B1 l];rfl
def oA:List Sh->Bool->Bool->Bool
 |[],p,_=>p
 |_::_,p,q=>p&&q
def IC(k:IntKind)(m:Nat):XV->XV->Option Bool
 |.d (.ar n k1) a,.d (.ar n2 k2) e=>match aaa n m,aaa n2 m,decide (k1=k),decide (k2=k)with
  |true,true,true,true=>some (a.l==e.l)
  |_,_,_,_=>none
 |_,_=>none
theorem V0[YL]{k:IntKind}{m:Nat}{x:XV}{b:Bool}(h:IC k m x y=some b):∃p q:List Int,x.fc=(p.map (DV.I k)).map .D/\y.fc=(q.map (DV.I k)).map .D/\p.length=m/\q.length=m/\b=(p==q):=by
 unfold IC at h;split at h
 ·rename_i n k1 a n2 k2 e;split at h
  ·rename_i h1 h2 h3 h4;obtain rfl:=θ h1;obtain rfl:=θ h2;obtain rfl:=of_decide_eq_true h3;obtain rfl:=of_decide_eq_true h4;cases h;exact⟨a.l,e.l,rfl,rfl,a.len,e.len,rfl⟩
  ·cases h
 ·cases h
def u9:List Sh->List XV->List XV->Option Bool
 |[],[],[]=>some true
 |.s kd::r,x::xs,y::ys=>match A5 kd x y,u9 r xs ys with
  |some p,some q=>some (oA r p q)
  |_,_=>none
 |.a k m::r,x::xs,y::ys=>match IC k m x y,u9 r xs ys with
  |some p,some q=>some (oA r p q)
  |_,_=>none
 |_,_,_=>none
theorem Vc(h:u9 [] xs ys=some q):q=true:=by cases xs<;>cases ys<;>first|(cases h;rfl;done)|(cases h;done)
theorem Dx{r:List Sh}{p:Bool}(h:u9 r xs ys=some q):oA r p q=(p&&q):=by
 cases r with
 |nil=>rw[Vc h,abY];rfl
 |cons _ _=>rfl
theorem WR[YL]{kd:Nat}{x:XV}{p:Bool}(hp:A5 kd x y=some p):∃d1 d2,x.fc=[.D d1]/\y.fc=[.D d2]/\DV.same kd d1 d2=some p:=by
 unfold A5 at hp;split at hp
 ·split at hp
  ·rename_i hb;obtain rfl:=θ hb;exact⟨_,_,rfl,rfl,hp⟩
  ·cases hp
 ·exact⟨_,_,rfl,rfl,hp⟩
 ·split at hp
  ·rename_i hb;obtain rfl:=θ hb;exact⟨_,_,rfl,rfl,hp⟩
  ·cases hp
 ·cases hp
theorem Fm[YL]:∀{sh:List Sh} {xs ys:List XV} {b:Bool},u9 sh xs ys=some b->qh sh (XV.bz xs) (XV.bz ys)=some b
 |[],xs,ys,b,h=>by
  cases xs<;>cases ys<;>first|(cases h;rfl;done)|(cases h;done)
 |.s kd::r,x::xs,y::ys,b,h=>by
  unfold u9 at h;split at h
  ·rename_i p q h1 h2;cases h;obtain⟨d1,d2,e1,e2,e3⟩:=WR h1;have ih:=Fm h2;show qh (.s kd::r) (x.fc++XV.bz xs) (y.fc++XV.bz ys)=_;rw[e1,e2,Dx h2];show(match DV.same kd d1 d2,qh r (XV.bz xs) (XV.bz ys)with|some p,some q=>some (p&&q)|_,_=>none)=_;rw[e3,ih]
  ·cases h
 |.a k m::r,x::xs,y::ys,b,h=>by
  unfold u9 at h;split at h
  ·rename_i p q h1 h2;cases h;obtain⟨p1,q1,e1,e2,l1,l2,rfl⟩:=V0 h1;have ih:=Fm h2;show qh (.a k m::r) (x.fc++XV.bz xs) (y.fc++XV.bz ys)=_;rw[e1,e2,Dx h2];have hl:∀(p:List Int),p.length=m->((p.map (DV.I k)).map AV.D).length=m:=fun p e=>by rw[κ,κ,e]
   have tk:∀{a c:List AV},a.length=m->(a++c).take m=a:=fun e=>by rw[<-e,List.take_left]
   have dp:∀{a c:List AV},a.length=m->(a++c).drop m=c:=fun e=>by rw[<-e,List.drop_left]
   unfold qh;rw[tk (hl _ l1),tk (hl _ l2),dp (hl _ l1),dp (hl _ l2),yW,yW,ih];simp only;rw[if_pos ⟨l1,l2⟩]
  ·cases h
 |.s _::_,[],ys,b,h=>by cases h
 |.s _::_,_::_,[],b,h=>by cases h
 |.a _ _::_,[],ys,b,h=>by cases h
 |.a _ _::_,_::_,[],b,h=>by cases h
section
variable{α β:Type}[DecidableEq α]
def gX:List (α×β)->α->Option β
 |[],_=>none
 |e::es,y=>if e.1=y then some e.2 else gX es y
def nY:List (α×β)->α->β->List (α×β)
 |[],y,v=>[(y,v)]
 |e::es,y,v=>if e.1=y then(y,v)::es else e::nY es y v
def PA:List (α×β)->α->List (α×β)
 |[],_=>[]
 |e::es,y=>if e.1=y then es else e::PA es y
end
def Es(t:Ty)(x:t.T):XV:=match t,x with
 |.o t,x=>.d (.sl t) x
 |t,x=>s8 t x
theorem DW[YL](t:Ty)(x:t.T):(Es t x).er=dA t x:=by cases t<;>first|rfl|exact DN (.p _ _) _|exact DN (.w _) _
theorem VL(t:Ty)(x:t.T):(sF false t x).av=dA t x:=by cases t<;>rfl
theorem Le:∀{a b c d:List AV} {p q:Bool},o8 a b=some p->o8 c d=some q->o8 (a++c) (b++d)=some (p&&q)
 |a,b,c,d,p,q,h,h2=>by
  unfold o8 at h;split at h
  ·cases h;simpa using h2
  ·rename_i k n xs k' n' ys;rw[ζ]at h;obtain⟨e,h⟩:=h;split at h
   ·rename_i b0 hb;cases h;show(if k=k' then match o8 (xs++c) (ys++d)with|some b=>some (n==n'&&b)|none=>none else none)=_;rw[if_pos e,Le hb h2,acE]
   ·cases h
  ·cases h
theorem Pp(k:IntKind):∀(l l':List Int),l.length=l'.length->o8 ((l.map (DV.I k)).map .D) ((l'.map (DV.I k)).map .D)=some (decide (l'=l))
 |[],[],_=>rfl
 |x::l,y::l',h=>by
  show(if k=k then match o8 ((l.map (DV.I k)).map .D) ((l'.map (DV.I k)).map .D)with|some b=>some (x==y&&b)|none=>none else none)=_;rw[if_pos rfl,Pp k l l' (by simpa using h)];simp only[Option.some.injEq];rw[aa9,μ,beq_iff_eq,decide_eq_true_eq,decide_eq_true_eq];exact⟨fun⟨a,b⟩=>by rw[a,b],fun e=>by cases e;exact⟨rfl,rfl⟩⟩
 |[],_::_,h=>by cases h
 |_::_,[],h=>by cases h
theorem CP:∀{t:Ty},ub t=true->∀x y:t.T,o8 ((t.ds x).map .D) ((t.ds y).map .D)=some (decide (y=x))
 |.i k,_,x,y=>by
  show(if k=k then some (((x:Int)==y)&&true)else none)=_;rw[if_pos rfl,abY];congr 1;rw[aa9,beq_iff_eq,decide_eq_true_eq];exact⟨Eq.symm,Eq.symm⟩
 |.p a b,h,x,y=>by
  have h:(ub a&&ub b)=true:=h;rw[μ]at h;show o8 ((a.ds x.1++b.ds x.2).map .D) ((a.ds y.1++b.ds y.2).map .D)=_;rw[aaw,aaw,Le (CP h.1 x.1 y.1) (CP h.2 x.2 y.2)];congr 1;rw[aa9,μ,decide_eq_true_eq,decide_eq_true_eq,decide_eq_true_eq];exact⟨fun⟨a,b⟩=>Prod.ext a b,fun e=>by rw[e];exact⟨rfl,rfl⟩⟩
 |.ar n k,_,x,y=>by
  show o8 ((x.l.map (DV.I k)).map .D) ((y.l.map (DV.I k)).map .D)=_;rw[Pp k x.l y.l (x.len.trans y.len.symm)];congr 1;rw[aa9,decide_eq_true_eq,decide_eq_true_eq];exact⟨fun e=>bw.ext e,fun e=>by rw[e]⟩
 |.u,h,_,_|.b,h,_,_|.s,h,_,_|.w _,h,_,_|.sl _,h,_,_|.o _,h,_,_=>by cases h
theorem Pz:∀{a b:List IntKind} {c d:List AV},ov a c=true->ov b d=true->ov (a++b) (c++d)=true
 |a,b,c,d,h,h2=>by
  unfold ov at h;split at h
  ·exact h2
  ·rw[μ]at h;show(decide _&&ov (_++b) (_++d))=true;rw[h.1,Pz h.2 h2];rfl
  ·cases h
theorem LB(k:IntKind):∀(n:Nat) (l:List Int),l.length=n->ov (aae n k) ((l.map (DV.I k)).map .D)=true
 |0,l,h=>by rw[List.length_eq_zero_iff.1 h];rfl
 |n+1,[],h=>by cases h
 |n+1,x::l,h=>by show(decide (k=k)&&ov (aae n k) ((l.map (DV.I k)).map .D))=true;rw[decide_eq_true rfl,LB k n l (by simpa using h)];rfl
theorem D9:∀{t:Ty},ub t=true->∀x:t.T,ov (zz t) ((t.ds x).map .D)=true
 |.i k,_,x=>by show(decide (k=k)&&true)=true;rw[decide_eq_true rfl];rfl
 |.p a b,h,x=>by
  have h:(ub a&&ub b)=true:=h;rw[μ]at h;show ov (zz a++zz b) ((a.ds x.1++b.ds x.2).map .D)=true;rw[aaw];exact Pz (D9 h.1 x.1) (D9 h.2 x.2)
 |.ar n k,_,x=>LB k n x.l x.len
 |.u,h,_|.b,h,_|.s,h,_|.w _,h,_|.sl _,h,_|.o _,h,_=>by cases h
theorem PH(h:yV K=true)(x y:K.T):(dA K x).Bm (dA K y)=some (decide (y=x)):=by
 cases K<;>first|(cases h;done)|skip
 ·rename_i k;show(if k=k then some ((x:Int)==y)else none)=_;rw[if_pos rfl];congr 1;rw[aa9,beq_iff_eq,decide_eq_true_eq];exact⟨Eq.symm,Eq.symm⟩
 ·show some ((x:List UInt8)==y)=_;congr 1;rw[aa9,beq_iff_eq,decide_eq_true_eq];exact⟨Eq.symm,Eq.symm⟩
 ·exact CP h x y
 ·exact CP (t:=.ar _ _) rfl x y
theorem N5(h:yV K=true)(x:K.T):(dA K x).r6 K.kd=true:=by
 cases K<;>first|(cases h;done)|skip
 ·exact decide_eq_true rfl
 ·rfl
 ·exact D9 h x
 ·exact D9 (t:=.ar _ _) rfl x
theorem rG{wr:Bool}{K V:Ty}(hk:yV K=true)(y:K.T):∀(es:List (K.T×V.T)) (hole:Option K.T),∃r,mR (dA K y) (iF wr K V es hole)=some r/\
  match gX es y with
  |none=>r=none
  |some v=>∃j,r=some (j,if hole=some y then .v (AJ wr V v)else sF wr V v)
 |[],hole=>⟨none,rfl,rfl⟩
 |e::es,hole=>by
  have key:∀(mv:MV) (rest:List (AV×MV)) (r0:Option (Nat×MV)),mR (dA K y) rest=some r0->mR (dA K y) ((dA K e.1,mv)::rest)=some (if e.1=y then some (0,mv)else match r0 with|some (j,v)=>some (j+1,v)|none=>none):=fun mv rest r0 h0=>by
   unfold mR;rw[PH hk];by_cases he:e.1=y
   ·rw[decide_eq_true he,if_pos he]
   ·rw[decide_eq_false he,if_neg he];simp only[h0];cases r0 with
    |none=>rfl
    |some p=>rfl
  have hg:gX (e::es) y=if e.1=y then some e.2 else gX es y:=rfl
  cases hole with
  |none=>
   obtain⟨r0,h0,h1⟩:=rG hk y es none;refine⟨_,key (sF wr V e.2) _ r0 h0,?_⟩;rw[hg];by_cases he:e.1=y
   ·rw[if_pos he,if_pos he];exact⟨0,by rw[if_neg (fun h=>by cases h)]⟩
   ·rw[if_neg he,if_neg he];cases hm:gX es y with
    |none=>rw[hm]at h1;simp only at h1;subst h1;rfl
    |some v=>rw[hm]at h1;obtain⟨j,rfl⟩:=h1;exact⟨j+1,rfl⟩
  |some z=>
   by_cases hz:e.1=z
   ·obtain⟨r0,h0,h1⟩:=rG hk y es none;refine⟨_,by unfold iF;rw[if_pos hz];exact key (.v (AJ wr V e.2)) _ r0 h0,?_⟩;rw[hg];by_cases he:e.1=y
    ·rw[if_pos he,if_pos he];exact⟨0,by rw[if_pos (by rw[<-hz,he])]⟩
    ·rw[if_neg he,if_neg he];cases hm:gX es y with
     |none=>rw[hm]at h1;simp only at h1;subst h1;rfl
     |some v=>
      rw[hm]at h1;obtain⟨j,rfl⟩:=h1;exact⟨j+1,by rw[if_neg (fun h=>by cases h),if_neg (fun h=>he (by cases h;exact hz))]⟩
   ·obtain⟨r0,h0,h1⟩:=rG hk y es (some z);refine⟨_,by unfold iF;rw[if_neg hz];exact key (sF wr V e.2) _ r0 h0,?_⟩;rw[hg];by_cases he:e.1=y
    ·rw[if_pos he,if_pos he];exact⟨0,by rw[if_neg (fun h=>hz (by cases h;exact he))]⟩
    ·rw[if_neg he,if_neg he];cases hm:gX es y with
     |none=>rw[hm]at h1;simp only at h1;subst h1;rfl
     |some v=>rw[hm]at h1;obtain⟨j,rfl⟩:=h1;exact⟨j+1,rfl⟩
def Jf(V:Ty):AV->Bool
 |.agg cs=>!(nF V)&&ou cs ((V.ds V.z).map .D)
 |a=>nF V&&ou [a] [dA V V.z]
theorem SG{z:AV}(h:Jf V z=true):z=dA V V.z:=by
 unfold Jf at h;split at h
 ·rw[μ,aaY]at h;rw[nL _ h.1,<-xt h.2]
 ·rw[μ]at h;have:=xt h.2;injection this
def ux(a b:KD):Bool:=match a,b with
 |.i k,.i k'=>decide (k=k')
 |.s,.s=>true
 |.a l,.a l'=>decide (l=l')
 |_,_=>false
theorem Er{a b:KD}(h:ux a b=true):a=b:=by
 unfold ux at h;split at h
 ·rw[of_decide_eq_true h]
 ·rfl
 ·rw[of_decide_eq_true h]
 ·cases h
def zv(K:Ty)(v:XV):Option K.T:=match v with
 |.d t x=>t.j1 K x
 |.agg cs=>match nF K with
  |true=>none
  |false=>match o0 K cs with
   |some (x,[])=>some x
   |_=>none
 |_=>none
theorem Ng[YL]{y:K.T}(h:zv K v=some y):v.er=dA K y:=by
 unfold zv at h;split at h
 ·obtain⟨e,rfl⟩:=Ty.cq h;subst e;rfl
 ·split at h
  ·cases h
  ·rename_i cs _ hl;split at h
   ·rename_i x hp;cases h;obtain⟨l1,e1,e2⟩:=pT hp;rw[aag]at e1;subst e1;rw[nL _ hl];show AV.agg (XV.bz _)=_;rw[e2]
   ·cases h
 ·cases h
def HI(s:XS)(kd:KD)(z:AV)(ok:Bool)(K:XV->Option R):XV->XV->Option R
 |.mref h,vy=>match s.lk h with
  |some (.mp false K0 V es _ _)=>match yV K0&&ux K0.kd kd&&Jf V z,zv K0 vy with
   |true,some y=>match ok with
    |true=>K (.cn [Es V ((gX es y).getD V.z),.d .b (gX es y).isSome])
    |false=>K (Es V ((gX es y).getD V.z))
   |_,_=>none
  |_=>none
 |_,_=>none
theorem Ux[YL]{kd:KD}{z:AV}{ok:Bool}{K:XV->Option R}{r:R}{vx:XV}(h:HI s kd z ok K vx vy=some r){KP:AV->Prop}(hK:∀v,K v=some r->KP v.er):
  ∃h es i q,vx.er=.mref h/\s.er.lk h=some (.mp kd es i)/\vy.er.r6 kd=true/\mR vy.er es=some q/\
   match q with
   |some (_,mv)=>KP (if ok=true then .cn [mv.av,.D (.B true)]else mv.av)
   |none=>KP (if ok=true then .cn [z,.D (.B false)]else z):=by
 unfold HI at h;split at h
 ·rename_i hd;split at h
  ·rename_i K0 V es hole i hl;split at h
   ·rename_i y hb hy;rw[μ,μ]at hb;obtain⟨⟨hk,hkd⟩,hz⟩:=hb;have hkd:=Er hkd;subst hkd;have hz:=SG hz;subst hz;have ey:=Ng hy;obtain⟨q,f1,f2⟩:=rG (V:=V) hk y es hole;refine⟨hd,_,_,q,rfl,by rw[aU,hl];rfl,by rw[ey];exact N5 hk y,by rw[ey];exact f1,?_⟩;cases hm:gX es y with
    |none=>
     rw[hm]at f2 h;simp only at f2;subst f2;simp only;cases ok with
     |true=>
      have:=hK _ h;simp only[XV.er,XV.cz,DW,Option.getD_none,Option.isSome_none]at this;exact this
     |false=>
      have:=hK _ h;rw[DW]at this;exact this
    |some v=>
     rw[hm]at f2 h;obtain⟨j,rfl⟩:=f2;have e:(if hole=some y then MV.v (AJ false V v)else sF false V v).av=dA V v:=by
      split
      ·rfl
      ·exact VL _ _
     simp only[e];cases ok with
     |true=>
      have:=hK _ h;simp only[XV.er,XV.cz,DW,Option.getD_some,Option.isSome_some]at this;exact this
     |false=>
      have:=hK _ h;rw[DW]at this;exact this
   ·cases h
  ·cases h
 ·cases h
def bS7(s:XS)(K:XV->Option R):XV->Option R
 |.itr h hi=>match s.lk h,s.lk hi with
  |some (.mp false K0 V es _ (some (hi',some cur,_))),some _=>match yV K0&&hi.j9 hi' with
   |true=>bc (gX es cur) fun v=>K (.cn [s8 K0 cur,Es V v])
   |false=>none
  |_,_=>none
 |_=>none
def GA(neg:Bool)(K:XV->Option R):XV->Option R
 |.ptr _ _=>K (.d .b neg)
 |.c (.pointer none)=>K (.d .b (!neg))
 |_=>none
theorem Tw[YL]{neg:Bool}{K:XV->Option R}{r:R}(h:GA neg K v=some r){KP:AV->Prop}(hK:∀v,K v=some r->KP v.er):match v.er with
  |.ptr _ _=>KP (.D (.B neg))
  |.D (.C (.pointer none))=>KP (.D (.B (!neg)))
  |_=>False:=by
 unfold GA at h;split at h
 ·exact hK _ h
 ·exact hK _ h
 ·cases h
def Dw(k:IntKind):List XV->Option (List Int)
 |[]=>some []
 |.d (.i k') x::l=>match decide (k'=k),Dw k l with
  |true,some r=>some (x::r)
  |_,_=>none
 |_=>none
theorem Nb[YL]{k:IntKind}:∀{l:List XV} {xs:List Int},Dw k l=some xs->XV.bz l=(xs.map (DV.I k)).map .D
 |[],xs,h=>by cases h;rfl
 |v::l,xs,h=>by
  unfold Dw at h;split at h
  ·rename_i e;cases e
  ·rename_i k' x l' e;cases e;split at h
   ·rename_i r h1 h2;cases h;have h1:=of_decide_eq_true h1;subst h1;show[AV.D (.I _ x)]++XV.bz l=_;rw[Nb h2];rfl
   ·cases h
  ·cases h
def FZ(ty:Option Ty)(zs:List AV)(ps:List (Nat×Nat×Operand)):Option (List XV):=match ty,ps with
 |some (.ar _ _),_::_=>zX zs
 |_,_=>Cq ty zs
theorem WW[YL]{ps:List (Nat×Nat×Operand)}(h:FZ ty zs ps=some l):XV.bz l=zs:=by
 unfold FZ at h;split at h
 ·exact KM h
 ·exact LS h
def I0(ty:Option Ty)(K:XV->Option R)(l:List XV):Option R:=match ty with
 |some (.ar n k)=>match Dw k l with
  |some xs=>match aaa xs.length n with
   |true=>K (.d (.ar n k) (bw.from xs n))
   |false=>K (.agg l)
  |none=>K (.agg l)
 |_=>K (.agg l)
theorem VR[YL]{K:XV->Option R}{r:R}(h:I0 ty K l=some r){KP:AV->Prop}(hK:∀v,K v=some r->KP v.er):KP (.agg (XV.bz l)):=by
 unfold I0 at h;split at h
 ·rename_i n k;split at h
  ·rename_i xs hx;split at h
   ·rename_i hb;have:=hK _ h;have e:(XV.d (.ar n k) (bw.from xs n)).er=.agg (XV.bz l):=by show AV.agg (((bw.from xs n).l.map (DV.I k)).map .D)=_;rw[Nb hx,bw.ru (Nat.le_of_eq (θ hb).symm),aav (Nat.le_of_eq (θ hb))]
    rw[e]at this;exact this
   ·exact hK _ h
  ·exact hK _ h
 ·exact hK _ h
def xp(T:List br)(s:XS)(ty:Option Ty)(op:bu)(K:XV->List XB->List Hd->Option R):Option R:=
 match op with
 |.mv x=>w1 s x fun v=>K v [] []
 |.pick c a b=>w1 s c fun vc=>w1 s a fun va=>w1 s b fun vb=>match vc with
  |.d .b x=>Gd x (fun v=>K v [] []) va vb
  |_=>none
 |.new zs=>match Cq ty zs with
  |some l=>K (.ptr (.O s.own.length) 0) [.box l] []
  |none=>none
 |.build zs ps=>match FZ ty zs ps with
  |some l=>Ia s ps l fun l=>I0 ty (fun v=>K v [] []) l
  |none=>none
 |.bslice k ps=>match ps with
  |[]=>K (.fln ((vw ty).getD .u)) [] []
  |ps=>match vw ty with
   |some t=>match aaa t.n k with
    |true=>wL s ps fun vs=>Bb s t vs fun xs=>K (.slw (.O s.own.length) t ps.length) [.row true t xs] (nf s (XV.p7 vs))
    |false=>none
   |none=>none
 |.bsF k ps=>match ps with
  |[]=>K (.fln ((vw ty).getD .u)) [] []
  |ps=>match vw ty with
   |some t=>match aaa t.n k with
    |true=>wL s ps fun vs=>Bb ⟨s.env,[],[]⟩ t vs fun xs=>K (.fl t xs) [] []
    |false=>none
   |none=>none
 |.box x=>w1 s x fun v=>match uD v with
  |some cs=>K (.ptr (.O s.own.length) 0) [.box cs] []
  |none=>none
 |.load ag x=>w1 s x (DP s ag fun a=>K a [] [])
 |.bin op x y=>w1 s x fun a=>w1 s y fun c=>G8 op (fun a=>K a [] []) a c
 |.eqs neg kds x y=>w1 s x fun a=>w1 s y fun c=>match a,c with
  |.agg xs,.agg ys=>match AU kds xs ys with
   |some q=>K (.d .b (match neg with
    |true=>!q
    |false=>q)) [] []
   |none=>none
  |_,_=>none
 |.beq neg x y=>w1 s x fun a=>w1 s y fun c=>match a,c with
  |.d .b p,.d .b q=>K (.d .b (match neg with
   |true=>!(p==q)
   |false=>p==q)) [] []
  |_,_=>none
 |.un op x=>w1 s x (Ja op fun a=>K a [] [])
 |.faddr off x=>w1 s x fun v=>match uP s v with
  |true=>Dj off (fun a=>K a [] []) v
  |false=>none
 |.field off ag x=>w1 s x fun v=>match v with
  |.agg cs=>ug ag cs off fun a=>K a [] []
  |_=>none
 |.iaddr k x i=>w1 s x fun v=>w1 s i fun vi=>match uP s v with
  |true=>match vi with
   |.d (.i _) j=>B3 k j (fun a=>K a [] []) v
   |_=>none
  |false=>none
 |.ixs x i=>w1 s x fun v=>w1 s i fun vi=>match v,vi with
  |.d .s t,.d (.i _) j=>aZ t j fun c=>K (.d (.i .u8) c.toNat) [] []
  |_,_=>none
 |.sls x lo hi=>w1 s x fun v=>match v with
  |.d .s t=>qE s hi t.length fun h=>qE s lo 0 fun l=>az (l<=h) (az (h<=t.length) (K (.d .s ((t.drop l).take (h-l))) [] []))
  |_=>none
 |.sll k x lo hi mx=>w1 s x fun v=>match uP s v with
  |true=>zn s k lo hi mx (fun a=>K a [] []) v
  |false=>none
 |.ext x i=>w1 s x fun v=>match v with
  |.cn vs=>match nth vs i with
   |some a=>K a [] []
   |none=>none
  |_=>none
 |.call f args=>w1 s f fun vf=>wL s args fun vs=>G9 T s vs K vf
 |.len str x=>w1 s x fun v=>match uP s v with
  |true=>match yg str v with
   |some m=>K (.d (.i .i64) (m:Int)) [] []
   |none=>none
  |false=>none
 |.mm isMax x y=>w1 s x fun a=>w1 s y fun c=>match a,c with
  |.d (.i k) p,.d (.i k') q=>if k=k' then K (.d (.i k) (match isMax with
   |true=>max p q
   |false=>min p q)) [] []else none
  |_,_=>none
 |.mkf f caps=>wL s caps fun vs=>K (.clo f vs) [] []
 |.cvI k x=>w1 s x fun v=>match v with
  |.d (.i _) j=>K (.d (.i k) (k.wrap j)) [] []
  |_=>none
 |.cvS x=>w1 s x fun v=>pP s (.sl (.i .u8)) v fun xs=>K (.d .s (bE xs)) [] []
 |.kg x=>w1 s x fun v=>match v with
  |.d .s t=>K (.d (.sl (.i .u8)) (cJ t)) [] []
  |_=>none
 |.iaddrA m k x i=>w1 s x fun v=>w1 s i fun vi=>match uP s v with
  |true=>match vi with
   |.d (.i _) j=>IN s m k j (fun a=>K a [] []) v
   |_=>none
  |false=>none
 |.idxA m k ag x i=>w1 s x fun v=>w1 s i fun vi=>match vi with
  |.d (.i _) j=>Gv m k ag j (fun a=>K a [] []) (Ar v)
  |_=>none
 |.slsA m x lo hi=>w1 s x fun v=>KF s m lo hi (fun a=>K a [] []) v
 |.newR zs=>match ty with
  |some t=>NA zs (fun v b=>K v [b] []) s.own.length t
  |none=>none
 |.boxR x=>w1 s x fun v=>LV ty (fun v b=>K v [b] []) s.own.length v
 |.eqa neg k m x y=>w1 s x fun a=>w1 s y fun c=>Fc k m (fun q=>K (.d (.b) (match neg with
  |true=>!q
  |false=>q)) [] []) (Ar a) (Ar c)
 |.isnil neg x=>w1 s x fun v=>match uP s v with
  |true=>match yg false v with
   |some m=>bf (decide (0<m)) (K (.d .b neg) [] []) (K .ab [] [])
   |none=>none
  |false=>none
 |.nilc x=>w1 s x fun v=>match uP s v with
  |true=>Ed (fun a=>K a [] []) v
  |false=>none
 |.isp neg x=>w1 s x fun v=>match uP s v with
  |true=>GA neg (fun a=>K a [] []) v
  |false=>none
 |.eqg neg sh x y=>w1 s x fun a=>w1 s y fun c=>match a,c with
  |.agg xs,.agg ys=>match u9 sh xs ys with
   |some q=>K (.d .b (match neg with
    |true=>!q
    |false=>q)) [] []
   |none=>none
  |_,_=>none
 |.newB T=>K (.mref (.O s.own.length)) [.sb T false []] []
 |.mkm kd=>match ty with
  |some (.p K0 V)=>match ux K0.kd kd with
   |true=>K (.mref (.O s.own.length)) [.mp false K0 V [] none none] []
   |false=>none
  |_=>none
 |.mkmW kd=>match ty with
  |some (.p K0 V)=>match ux K0.kd kd with
   |true=>K (.mref (.O s.own.length)) [.mp true K0 V [] none none] []
   |false=>none
  |_=>none
 |.mget kd z _ ok x y=>w1 s x fun vx=>w1 s y fun vy=>HI s kd z ok (fun a=>K a [] []) vx vy
 |.mlen x=>none
 |.ent x=>none
 |.loadD ag x=>w1 s x fun v=>match v with
  |.rop t x off=>GV ag off (fun a=>K a [] []) t x
  |_=>none
 |.sllD k x lo hi mx=>w1 s x fun v=>match v with
  |.d (.sl t) xs=>zn s k lo hi mx (fun a=>K a [] []) (.d (.sl t) xs)
  |.fl t xs=>zn s k lo hi mx (fun a=>K a [] []) (.fl t xs)
  |_=>none
 |.iaddrD k x i=>w1 s x fun v=>w1 s i fun vi=>match vi,v with
  |.d (.i _) j,.d (.sl t) xs=>B3 k j (fun a=>K a [] []) (.d (.sl t) xs)
  |.d (.i _) j,.fl t xs=>B3 k j (fun a=>K a [] []) (.fl t xs)
  |_,_=>none
 |.mks k bytes zs x y=>w1 s x fun vx=>w1 s y fun vy=>match vw ty with
  |some t=>GM t k bytes zs (fun v b=>K v [b] []) s.own.length vx vy
  |none=>none
 |.arrP m x=>w1 s x fun v=>match v with
  |.asl h off len=>match s.lk h with
   |some (.arr _ _ _ _)=>az (m<=len) (az (0<len) (K (.apt h off) [] []))
   |_=>none
  |.rsl h off l len=>match s.lk h with
   |some (.rb _ _ _)=>az (m<=len) (az (0<len) (K (.rpt h (off+l)) [] []))
   |_=>none
  |_=>none
 |.capK x=>w1 s x fun v=>match v with
  |.fl _ xs=>K (.d (.i .i64) (xs.length:Int)) [] []
  |.fln _=>K (.d (.i .i64) 0) [] []
  |_=>none
 |.appZ k bytes zs x y=>w1 s x fun vx=>w1 s y fun vy=>match vx,vy,vw ty with
  |.fln _,.d (.i _) j,some t=>match aaa t.n k,ou (zs.map .D) ((t.ds t.z).map .D)with
   |true,true=>az (0<j) (az ((0+j.toNat)*bytes<=140737488355328) (K (.slw (.O s.own.length) t j.toNat) [.row true t (aae j.toNat t.z)] []))
   |_,_=>none
  |_,_,_=>none
 |.mkI t x=>w1 s x fun v=>match v with
  |.agg []=>K (.c (.iface t (.agg #[]))) [] []
  |_=>none
 |.isn neg x=>w1 s x fun v=>match v with
  |.c .nilIface=>K (.d .b (!neg)) [] []
  |.c (.iface _ _)=>K (.d .b neg) [] []
  |_=>none
 |.tas t x=>w1 s x fun v=>match v with
  |.c (.iface t' (.agg a))=>match aaa t' t,a.isEmpty with
   |true,true=>K (.cn [.agg [],.d .b true]) [] []
   |_,_=>none
  |_=>none
 |_=>none
theorem Yy{lk:bJ}{KP:AV->Prop}(h:rO lk ag KP (.rop ds)):rO (fun _=>none) ag KP (.rop ds):=h
theorem Uj[YL]{T:List br}(hT:kU P T){op:bu}{K:XV->List XB->List Hd->Option R}{r:R}(h:xp T s ty op K=some r){KP:AV->List bn->List Hd->Prop}
  (hK:∀v nbs fz,K v nbs fz=some r->KP v.er (nbs.map XB.er) fz):aY P s.er.lk s.er.nx s.er.ev op KP:=by
 unfold xp at h;split at h
 ·obtain⟨h,e⟩:=aP h;show KP (s.er.ev _) [] [];rw[e];exact hK _ _ _ h
 ·obtain⟨h,e1⟩:=aP h;obtain⟨h,e2⟩:=aP h;obtain⟨h,e3⟩:=aP h;split at h
  ·rename_i x hx;refine⟨x,by rw[e1,hx];rfl,?_⟩;rw[e2,e3];exact SR (KP:=fun a=>KP a [] []) h fun v h=>hK _ _ _ h
  ·cases h
 ·split at h
  ·rename_i l hl;have:=hK _ _ _ h;show KP (.ptr (.O s.own.length) 0) [.box _] [];rw[<-LS hl];exact this
  ·cases h
 ·split at h
  ·rename_i l hl;have e:=WW hl;exact LK (KP:=fun a=>KP a [] []) (fun l h=>VR (KP:=fun a=>KP a [] []) h fun v h=>hK v [] [] h) (acc:=[]) e (by rw[e]) h
  ·cases h
 ·rename_i k ps;split at h
  ·exact hK _ _ _ h
  ·rename_i ps' hne;split at h
   ·rename_i t _;split at h
    ·rename_i hb;have hk:=θ hb;obtain⟨vs,h,e⟩:=wc h;obtain⟨xs,h,h1,h2⟩:=HF hk e h;show if ps=[]then _ else _
     rw[if_neg hne];refine⟨_,h1,?_⟩;rw[h2,sD];have:=hK _ _ _ h;have e2:([XB.row true t xs].map XB.er)=[bn.row true k (xs.map t.ds)]:=by show[bn.row true t.n (xs.map t.ds)]=_;rw[hk]
     have e3:(XV.slw (.O s.own.length) t ps.length).er=.sl (.O s.own.length) k 0 ps.length:=by show AV.sl (.O s.own.length) t.n 0 ps.length=_;rw[hk]
     rw[e2,e3]at this;exact this
    ·cases h
   ·cases h
 ·rename_i k ps;split at h
  ·exact .inl ⟨rfl,hK _ _ _ h⟩
  ·rename_i ps' hne;split at h
   ·rename_i t _;split at h
    ·rename_i hb;have hk:=θ hb;obtain⟨vs,h,e⟩:=wc h;have e':ps.map (XS.er ⟨s.env,[],[]⟩).ev=XV.cz vs:=by rw[<-e];apply List.map_congr_left;intro x _;cases x<;>rfl
     obtain⟨xs,h,h1,_⟩:=HF hk e' h;refine .inr ⟨hne,xs.map t.ds,?_,hK _ _ _ h⟩;have e1:(XS.er ⟨s.env,[],[]⟩).lk=fun _=>none:=by funext x;cases x<;>rfl
     have e2:(XS.er ⟨s.env,[],[]⟩).ev=s.er.ev:=by funext x;cases x<;>rfl
     rw[e1,e2]at h1;exact h1
    ·cases h
   ·cases h
 ·obtain⟨h,e1⟩:=aP h;split at h
  ·rename_i cs hcs;exact⟨_,by rw[e1];exact oF hcs,hK _ _ _ h⟩
  ·cases h
 ·obtain⟨h,e1⟩:=aP h;show rO s.er.lk _ (fun a=>KP a [] []) (s.er.ev _);rw[e1];exact Gg h fun v h=>hK _ _ _ h
 ·obtain⟨h,e1⟩:=aP h;obtain⟨h,e2⟩:=aP h;show As _ (fun a=>KP a [] []) (s.er.ev _) (s.er.ev _);rw[e1,e2];exact R4 h fun v h=>hK _ _ _ h
 ·obtain⟨h,e1⟩:=aP h;obtain⟨h,e2⟩:=aP h;split at h
  ·rename_i xs ys hx hy;split at h
   ·rename_i q hq;refine⟨XV.bz xs,XV.bz ys,q,by rw[e1,hx];rfl,by rw[e2,hy];rfl,J3 hq,?_⟩;have:=hK _ _ _ h;split at this<;>exact this
   ·cases h
  ·cases h
 ·obtain⟨h,e1⟩:=aP h;obtain⟨h,e2⟩:=aP h;split at h
  ·rename_i p q hx hy;refine⟨p,q,by rw[e1,hx];rfl,by rw[e2,hy];rfl,?_⟩;have:=hK _ _ _ h;split at this<;>exact this
  ·cases h
 ·obtain⟨h,e1⟩:=aP h;show AN _ (fun a=>KP a [] []) (s.er.ev _);rw[e1];exact Xj h fun v h=>hK _ _ _ h
 ·obtain⟨h,e1⟩:=aP h;split at h
  ·rename_i hl;show AV.live s.er.lk (s.er.ev _)=true/\_;rw[e1];exact⟨iV hl,K7 h (KP:=fun a=>KP a [] []) fun v h=>hK _ _ _ h⟩
  ·cases h
 ·obtain⟨h,e1⟩:=aP h;split at h
  ·rename_i cs hx;refine⟨XV.bz cs,by rw[e1,hx];rfl,?_⟩;obtain⟨v,h1,h2⟩:=zw h;split
   ·exact⟨_,h2,hK _ _ _ h1⟩
   ·exact⟨h2.1,by rw[<-h2.2];exact hK _ _ _ h1⟩
  ·cases h
 ·obtain⟨h,e1⟩:=aP h;obtain⟨h,e2⟩:=aP h;split at h
  ·rename_i hl;split at h
   ·rename_i k j hj;obtain⟨h1,h2⟩:=E9 h (KP:=fun a=>KP a [] []) fun v h=>hK _ _ _ h;show AV.live s.er.lk (s.er.ev _)=true/\_;rw[e1];exact⟨iV hl,k,j,by rw[e2,hj];rfl,h1,h2⟩
   ·cases h
  ·cases h
 ·obtain⟨h,e1⟩:=aP h;obtain⟨h,e2⟩:=aP h;split at h
  ·rename_i t k j hx hj;obtain⟨c,h0,hc,h⟩:=BJ h;exact⟨t,k,j,c,by rw[e1,hx];rfl,by rw[e2,hj];rfl,h0,hc,hK _ _ _ h⟩
  ·cases h
 ·obtain⟨h,e1⟩:=aP h;split at h
  ·rename_i t hx;refine⟨t,by rw[e1,hx];rfl,eM h fun hh h=>eM h fun l h=>?_⟩;obtain⟨h1,h⟩:=bB h;obtain⟨h2,h⟩:=bB h;exact⟨h1,h2,hK _ _ _ h⟩
  ·cases h
 ·obtain⟨h,e1⟩:=aP h;split at h
  ·rename_i hl;show AV.live s.er.lk (s.er.ev _)=true/\mI _ s.er.ev _ _ _ (fun a=>KP a [] []) (s.er.ev _);rw[e1];exact⟨iV hl,DU h fun v h=>hK _ _ _ h⟩
  ·cases h
 ·obtain⟨h,e1⟩:=aP h;split at h
  ·rename_i vs hx;split at h
   ·rename_i a ha;exact⟨XV.cz vs,_,by rw[e1,hx];rfl,MN ha,hK _ _ _ h⟩
   ·cases h
  ·cases h
 ·obtain⟨h,e1⟩:=aP h;obtain⟨vs,h,e2⟩:=wc h;obtain⟨fn,caps,ks,z,rr,nbs,f1,fz,f2,f3⟩:=Rb hT h hK;exact⟨fn,caps,ks,z,rr,nbs,by rw[e1];exact f1,fz,by rw[e2];exact f2,by rw[e2];exact f3⟩
 ·obtain⟨h,e1⟩:=aP h;split at h
  ·rename_i hl;split at h
   ·rename_i m hm;show AV.live s.er.lk (s.er.ev _)=true/\∃m,(s.er.ev _).k6 _=some m/\_;rw[e1];exact⟨iV hl,m,GY hm,hK _ _ _ h⟩
   ·cases h
  ·cases h
 ·obtain⟨h,e1⟩:=aP h;obtain⟨h,e2⟩:=aP h;split at h
  ·rename_i k p k' q hx hy;rw[ζ]at h;obtain⟨rfl,h⟩:=h;refine⟨k,p,q,by rw[e1,hx];rfl,by rw[e2,hy];rfl,?_⟩;have:=hK _ _ _ h;split at this<;>exact this
  ·cases h
 ·obtain⟨vs,h,e⟩:=wc h;show KP (.clo _ (_:List AV)) [] [];rw[e];exact hK _ _ _ h
 ·obtain⟨h,e1⟩:=aP h;split at h
  ·rename_i k j hx;exact⟨k,j,by rw[e1,hx];rfl,hK _ _ _ h⟩
  ·cases h
 ·obtain⟨h,e1⟩:=aP h;obtain⟨xs,h,h1,h2⟩:=Ms h;refine⟨_,bE xs,by rw[e1];exact h1,?_,by rw[e1];exact h2,hK _ _ _ h⟩;exact LM
 ·obtain⟨h,e1⟩:=aP h;split at h
  ·rename_i t hx;refine⟨t,by rw[e1,hx];rfl,?_⟩;have:=hK _ _ _ h;simp only[XV.er,dA,cJ,abI]at this;exact this
  ·cases h
 ·obtain⟨h,e1⟩:=aP h;obtain⟨h,e2⟩:=aP h;split at h
  ·rename_i hl;split at h
   ·rename_i k j hj;obtain⟨h1,h2,h3⟩:=U6 h (KP:=fun a=>KP a [] []) fun v h=>hK _ _ _ h;show AV.live s.er.lk (s.er.ev _)=true/\_;rw[e1];exact⟨iV hl,k,j,by rw[e2,hj];rfl,h1,h2,h3⟩
   ·cases h
  ·cases h
 ·obtain⟨h,e1⟩:=aP h;obtain⟨h,e2⟩:=aP h;split at h
  ·rename_i k j hj;obtain⟨cs,h1,h2,h3,h4⟩:=Xs h (KP:=fun a=>KP a [] []) fun v h=>hK _ _ _ h;exact⟨cs,k,j,by rw[e1,<-EF,h1],by rw[e2,hj];rfl,h2,h3,h4⟩
  ·cases h
 ·obtain⟨h,e1⟩:=aP h;unfold KF at h;split at h
  ·rename_i hd ix hx;split at h
   ·rename_i mt n kk y hl;split at h
    ·rename_i hb;have hb:=abf hb;refine⟨hd,ix,mt,y.l.map (ib kk),by rw[e1,hx];rfl,by rw[aU,hl];rfl,by rw[κ,y.len];exact hb,?_⟩;refine eM h fun hh h=>eM h fun l h=>?_;obtain⟨h1,h⟩:=bB h;obtain⟨h2,h⟩:=bB h;have:=hK _ _ _ h;rw[uO,aaN]at this;exact⟨h1,h2,this⟩
    ·cases h
   ·cases h
  ·rename_i hd off hx;split at h
   ·rename_i mt t x hl;split at h
    ·rename_i a ha;split at h
     ·rename_i hb;have hb:=θ hb;subst hb;obtain⟨c1,_⟩:=EP (l:=0) (len:=a.n) ha (by omega);refine⟨hd,off,mt,iq (t.ds x),by rw[e1,hx];rfl,by rw[aU,hl];rfl,c1,?_⟩;refine eM h fun hh h=>eM h fun l h=>?_;obtain⟨h1,h⟩:=bB h;obtain⟨h2,h⟩:=bB h;exact⟨h1,h2,hK _ _ _ h⟩
     ·cases h
    ·cases h
   ·cases h
  ·cases h
 ·split at h
  ·rename_i t;unfold NA at h;split at h
   ·rename_i n k;split at h
    ·rename_i hz;refine⟨aae n (DV.I k 0),by rw[LU hz];exact B1 _,?_⟩;have:=hK _ _ _ h;have e:(aae n (DV.I k 0)).map (fun d=>[d])=(bw.zero n).l.map (ib k):=by show _=(aae n (0:Int)).map (ib k);rw[abW,abW];rfl
     rw[e];exact this
    ·cases h
   ·split at h
    ·rename_i hz;exact⟨_,by rw[xt hz];exact B1 _,hK _ _ _ h⟩
    ·cases h
  ·cases h
 ·obtain⟨h,e1⟩:=aP h;unfold LV at h;split at h
  ·rename_i n k y hx;refine⟨(y.l.map (DV.I k)).map .D,y.l.map (DV.I k),?_,B1 _,?_⟩
   ·rw[e1,hx];show(if AV.cx (((Ty.ar n k).ds y).map AV.D)=true then some (((Ty.ar n k).ds y).map AV.D)else none)=some (((Ty.ar n k).ds y).map AV.D);rw[if_pos (uL _ _)]
   have:=hK _ _ _ h;have e:(y.l.map (DV.I k)).map (fun d=>[d])=y.l.map (ib k):=by rw[abI];rfl
   rw[e];exact this
  ·rename_i cs hx;split at h
   ·rename_i t _;split at h
    ·rename_i x hp;obtain⟨l1,e2,e3⟩:=pT hp;rw[aag]at e2;subst e2;refine⟨(t.ds x).map .D,t.ds x,?_,B1 _,hK _ _ _ h⟩;rw[e1,hx];show(if AV.cx (XV.bz cs)=true then some (XV.bz cs)else none)=_;rw[e3,if_pos (uL _ _)]
    ·cases h
   ·cases h
  ·cases h
 ·obtain⟨h,e1⟩:=aP h;obtain⟨h,e2⟩:=aP h;obtain⟨xs,ys,p,q,h1,h2,h3,h4,h5,h6,h⟩:=bJ4 h;refine⟨xs,ys,p,q,by rw[e1,<-EF,h1],by rw[e2,<-EF,h2],h3,h4,h5,h6,?_⟩;have:=hK _ _ _ h;split at this<;>exact this
 ·obtain⟨h,e1⟩:=aP h;split at h
  ·rename_i hl;split at h
   ·rename_i m hm;show AV.live s.er.lk (s.er.ev _)=true/\∃m,(s.er.ev _).k6 false=some m/\_;rw[e1];refine⟨iV hl,m,GY hm,?_⟩;rcases uu h with⟨h0,h⟩|⟨h0,h⟩
    ·rw[if_neg (by have:=of_decide_eq_true h0;omega)];exact hK _ _ _ h
    ·rw[if_pos (by have:=of_decide_eq_false h0;omega)];exact hK _ _ _ h
   ·cases h
  ·cases h
 ·obtain⟨h,e1⟩:=aP h;split at h
  ·rename_i hl;show AV.live s.er.lk (s.er.ev _)=true/\_;rw[e1];exact⟨iV hl,Qk h (KP:=fun a=>KP a [] []) fun v h=>hK _ _ _ h⟩
  ·cases h
 ·obtain⟨h,e1⟩:=aP h;split at h
  ·rename_i hl;show AV.live s.er.lk (s.er.ev _)=true/\_;rw[e1];exact⟨iV hl,Tw h (KP:=fun a=>KP a [] []) fun v h=>hK _ _ _ h⟩
  ·cases h
 ·obtain⟨h,e1⟩:=aP h;obtain⟨h,e2⟩:=aP h;split at h
  ·rename_i xs ys hx hy;split at h
   ·rename_i q hq;refine⟨XV.bz xs,XV.bz ys,q,by rw[e1,hx];rfl,by rw[e2,hy];rfl,Fm hq,?_⟩;have:=hK _ _ _ h;split at this<;>exact this
   ·cases h
  ·cases h
 ·exact hK _ _ _ h
 ·split at h
  ·rename_i K0 V;split at h
   ·rename_i hkd;have:=hK _ _ _ h;rw[<-Er hkd];exact this
   ·cases h
  ·cases h
 ·split at h
  ·rename_i K0 V;split at h
   ·rename_i hkd;have:=hK _ _ _ h;rw[<-Er hkd];exact this
   ·cases h
  ·cases h
 ·obtain⟨h,e1⟩:=aP h;obtain⟨h,e2⟩:=aP h;have:=Ux h (KP:=fun a=>KP a [] []) fun v h=>hK _ _ _ h;rw[<-e1,<-e2]at this;exact this
 ·cases h
 ·cases h
 ·obtain⟨h,e1⟩:=aP h;split at h
  ·rename_i t x off hx;show rO (fun _=>none) _ (fun a=>KP a [] []) (s.er.ev _);rw[e1,hx];exact Yy (Gg (s:=s) (a:=.rop t x off) h (KP:=fun a=>KP a [] []) fun v h=>hK _ _ _ h)
  ·cases h
 ·obtain⟨h,e1⟩:=aP h;show(match s.er.ev _ with
   |.D (.L es)=>mI _ s.er.ev _ _ _ (fun a=>KP a [] []) (.D (.L es))
   |.fl es=>mI _ s.er.ev _ _ _ (fun a=>KP a [] []) (.fl es)
   |_=>False)
  rw[e1];split at h
  ·rename_i t xs hx;rw[hx];exact DU (v:=.d (.sl t) xs) h fun v h=>hK _ _ _ h
  ·rename_i t xs hx;rw[hx];exact DU (v:=.fl t xs) h fun v h=>hK _ _ _ h
  ·cases h
 ·obtain⟨h,e1⟩:=aP h;obtain⟨h,e2⟩:=aP h;split at h
  ·rename_i k j t xs hj hx;obtain⟨h1,h2⟩:=E9 h (KP:=fun a=>KP a [] []) fun v h=>hK _ _ _ h;exact⟨k,j,by rw[e2,hj];rfl,h1,by rw[e1,hx];exact h2⟩
  ·rename_i k j t xs hj hx;obtain⟨h1,h2⟩:=E9 h (KP:=fun a=>KP a [] []) fun v h=>hK _ _ _ h;exact⟨k,j,by rw[e2,hj];rfl,h1,by rw[e1,hx];exact h2⟩
  ·cases h
 ·obtain⟨h,e1⟩:=aP h;obtain⟨h,e2⟩:=aP h;split at h
  ·rename_i t _;obtain⟨k1,k2,l,c,v,b,h1,h2,h3,h4,h5,h6,h7,h8,h9⟩:=bIr h;refine⟨k1,k2,l,c,by rw[e1,h1],by rw[e2,h2],h3,h4,h5,h6,?_⟩;have:=hK _ _ _ h7;rw[h8]at this;rw[<-h9];exact this
  ·cases h
 ·obtain⟨h,e1⟩:=aP h;split at h
  ·rename_i hd off len hv;split at h
   ·rename_i mt n k x hl;obtain⟨h1,h⟩:=bB h;obtain⟨h2,h⟩:=bB h;exact⟨hd,off,len,mt,x.l.map (ib k),by rw[e1,hv];rfl,by rw[aU,hl];rfl,h1,h2,hK _ _ _ h⟩
   ·cases h
  ·rename_i hd off l len hv;split at h
   ·rename_i mt t x hl;obtain⟨h1,h⟩:=bB h;obtain⟨h2,h⟩:=bB h;exact⟨hd,off+l,len,mt,iq (t.ds x),by rw[e1,hv];rfl,by rw[aU,hl];rfl,h1,h2,hK _ _ _ h⟩
   ·cases h
  ·cases h
 ·obtain⟨h,e1⟩:=aP h;split at h
  ·rename_i t xs hv;refine⟨by rw[e1,hv];rfl,xs.length,.inr ⟨xs.map t.ds,by rw[e1,hv];rfl,(κ _).symm⟩,hK _ _ _ h⟩
  ·rename_i t hv;refine⟨by rw[e1,hv];rfl,0,.inr ⟨[],by rw[e1,hv];rfl,rfl⟩,hK _ _ _ h⟩
  ·cases h
 ·obtain⟨h,e1⟩:=aP h;obtain⟨h,e2⟩:=aP h;split at h
  ·rename_i t0 kd j t hv hw ht;split at h
   ·rename_i hb hz;have hb:=θ hb;obtain⟨h1,h⟩:=bB h;obtain⟨h2,h⟩:=bB h;have h1:(0:Int)<j:=h1;have hz:=nE (xt hz);have hq:=hK _ _ _ h;subst hb hz;have h1':(0:Int)<=j:=Int.le_of_lt h1;have h1'':0<0+Int.toNat j:=by omega
    refine⟨by rw[e1,hv];rfl,0,0,kd,j,[],.inr ⟨by rw[e1,hv];rfl,rfl,rfl,rfl⟩,by rw[e2,hw];rfl,h1',me _,fun e he=>(by simp at he),h1'',h2,?_⟩;have e3:(XV.slw (.O s.own.length) t (Int.toNat j)).er=.sl (.O s.own.length) t.n 0 (0+Int.toNat j):=by show AV.sl _ t.n 0 _=_;rw[aan]
    have e4:([XB.row true t (aae (Int.toNat j) t.z)].map XB.er:List bn)=[.row true t.n (([]:List (List DV)).take 0++aae (Int.toNat j) (t.ds t.z))]:=by show[bn.row true t.n ((aae _ t.z).map t.ds)]=_;rw[abW];rfl
    rw[e3,e4]at hq;exact hq
   ·cases h
  ·cases h
 ·obtain⟨h,e1⟩:=aP h;split at h
  ·rename_i hv;exact⟨by rw[e1,hv];rfl,hK _ _ _ h⟩
  ·cases h
 ·obtain⟨h,e1⟩:=aP h;split at h
  ·rename_i hv;exact⟨_,by rw[e1,hv];rfl,hK _ _ _ h⟩
  ·rename_i hv;exact⟨_,by rw[e1,hv];rfl,hK _ _ _ h⟩
  ·cases h
 ·obtain⟨h,e1⟩:=aP h;split at h
  ·rename_i t' a hv;split at h
   ·rename_i ht ha;refine⟨?_,hK _ _ _ h⟩;rw[e1,hv,θ ht,Array.isEmpty_iff.1 ha];rfl
   ·cases h
  ·cases h
 ·cases h
end
section
variable{R:Type}
def C3(s:XS)(sz:Nat)(v:XV)(K:XS->Option R)(h:Hd)(off:Nat):Option R:=match s.lk h with
 |some (.box cs)=>match uD v with
  |some ys=>match aaa (u0 ys) sz with
   |true=>match uk cs off ys sz with
    |some cs'=>K (s.ba h (some (.box cs')))
    |none=>none
   |false=>none
  |none=>none
 |_=>none
def AZ(k:IntKind):XV->Option Int
 |.d t c=>t.j1 (.i k) c
 |_=>none
theorem Hw[YL]{k:IntKind}{c:Int}(h:AZ k v=some c):v.er=.D (.I k c):=by
 unfold AZ at h;split at h
 ·obtain⟨e,rfl⟩:=Ty.cq h;subst e;rfl
 ·cases h
theorem CR{l:List α}{v:α}(h:i<l.length):l.take i++[v]++l.drop (i+1)=l.set i v:=by rw[List.set_eq_take_append_cons_drop,if_pos h,π];rfl
theorem Uu{l:List α}{j:Nat}{v:α}(h:off+n<=l.length)(hj:j<n):l.take off++((l.drop off).take n).set j v++l.drop (off+n)=l.set (off+j) v:=by
 apply abN;intro i;rw[List.getElem?_set];have hl:(((l.drop off).take n).set j v).length=n:=by rw[List.length_set,aao,aat];omega
 have ht:(l.take off).length=off:=by rw[aao];omega
 rcases aaV i off with h1|h1
 ·rw[π,aak (by omega),aaH h1,if_neg (by omega)]
 ·rcases aaV i (off+n)with h2|h2
  ·rw[aak (by rw[ε];omega),aal (by omega),ht,List.getElem?_set];by_cases e:off+j=i
   ·subst e;rw[if_pos (by omega),if_pos rfl,if_pos (by rw[aao,aat];omega),if_pos (by omega)]
   ·rw[if_neg (by omega),if_neg e,aaH (by omega),abg];congr 1;omega
  ·rw[aal (by rw[ε];omega),ε,ht,hl,abg,if_neg (by omega)];congr 1;omega
def Cl(cs:List XV)(off j:Nat)(a:j6)(c:Int):Option (List XV):=uk cs off [.d (.ar a.n a.k) (a.x.set j c)] a.n
theorem IL[YL]{j:Nat}{a:j6}{c:Int}(ha:om cs off=some a)(hj:j<a.n)(h:Cl cs off j a c=some l):off+j<(XV.bz cs).length/\XV.bz l=(XV.bz cs).set (off+j) (.D (.I a.k c)):=by
 obtain⟨h1,h2⟩:=B2 ha;obtain⟨_,h3⟩:=vR h;refine⟨by omega,?_⟩;rw[h3];have e:XV.bz [XV.d (.ar a.n a.k) (a.x.set j c)]=(((XV.bz cs).drop off).take a.n).set j (.D (.I a.k c)):=by rw[h1];show(((a.x.set j c).l.map (DV.I a.k)).map AV.D)++[]=_;rw[aag,bw.vd,acb,acb]
 rw[e];exact Uu h2 hj
def E8(s:XS)(sz:Nat)(v:XV)(K:XS->Option R):XV->Option R
 |.ptr h off=>C3 s sz v K h off
 |.pa h off j=>match s.lk h with
  |some (.box cs)=>match om cs off,sz with
   |some a,1=>match AZ a.k v with
    |some c=>az (j<a.n) (match Cl cs off j a c with
     |some cs'=>K (s.ba h (some (.box cs')))
     |none=>none)
    |none=>none
   |none,sz=>C3 s sz v K h (off+j)
   |_,_=>none
  |_=>none
 |.epa h t ix off j=>match s.lk h with
  |some (.row true t' xs)=>match t'.beq t,sz with
   |true,1=>cr xs ix fun e=>match om (jb t' e) off with
    |some a=>match AZ a.k v with
     |some c=>az (j<a.n) (match Cl (jb t' e) off j a c with
      |some l=>match o0 t' l with
       |some (y,[])=>K (s.ba h (some (.row true t' (xs.set ix y))))
       |_=>none
      |none=>none)
     |none=>none
    |none=>none
   |_,_=>none
  |_=>none
 |.ept h t ix off=>match s.lk h with
  |some (.row true t' xs)=>match t'.beq t,uD v with
   |true,some ys=>match aaa (u0 ys) sz,(aaa sz 1|| !(aaa t'.n 1))with
    |true,true=>cr xs ix fun e=>match uk (jb t' e) off ys sz with
     |some l=>match o0 t' l with
      |some (y,[])=>K (s.ba h (some (.row true t' (xs.set ix y))))
      |_=>none
     |none=>none
    |_,_=>none
   |_,_=>none
  |_=>none
 |.apt h ix=>match s.lk h with
  |some (.arr true n k x)=>match sz with
   |1=>match v with
    |.d t c=>match t.j1 (.i k) c with
     |some c=>az (ix<n) (K (s.ba h (some (.arr true n k (x.set ix c)))))
     |none=>none
    |_=>none
   |sz=>match ix,v with
    |0,.d t y=>match t.j1 (.ar n k) y,aaa sz n with
     |some y,true=>K (s.ba h (some (.arr true n k y)))
     |_,_=>none
    |0,.agg [.d t y]=>match t.j1 (.ar n k) y,aaa sz n with
     |some y,true=>K (s.ba h (some (.arr true n k y)))
     |_,_=>none
    |ix,v=>match Ar v with
     |.d t y=>match t.j1 (.ar sz k) y with
      |some y=>az (ix+sz<=n) (K (s.ba h (some (.arr true n k (x.put ix y.l)))))
      |none=>none
     |_=>none
  |_=>none
 |.rpt h off=>match s.lk h with
  |some (.rb true t x)=>match uD v with
   |some ys=>match aaa (u0 ys) sz&&ac0 1 sz with
    |true=>match uk (jb t x) off ys sz with
     |some l=>match o0 t l with
      |some (y,[])=>K (s.ba h (some (.rb true t y)))
      |_=>none
     |none=>none
    |false=>none
   |none=>none
  |_=>none
 |.rpa h off j=>match s.lk h with
  |some (.rb true t x)=>match om (jb t x) off,sz with
   |some a,1=>match AZ a.k v with
    |some c=>az (j<a.n) (match Cl (jb t x) off j a c with
     |some l=>match o0 t l with
      |some (y,[])=>K (s.ba h (some (.rb true t y)))
      |_=>none
     |none=>none)
    |none=>none
   |_,_=>none
  |_=>none
 |_=>none
theorem Jo[YL]{x y:t.T}{vs:List DV}{a:AV}(hl:s.lk hd=some (.rb true t x))(hc:a.cells?=some (vs.map .D))(hn:vs.length=sz)(hle:off+sz<=(t.ds x).length)
  (hlt:off<(t.ds x).length) (hds:t.ds y=(t.ds x).take off++vs++(t.ds x).drop (off+sz)) (hK:KP (s.ba hd (some (.rb true t y))).er):pU s.er sz a KP (.eptr hd 1 off 0):=by
 rw[cH hl]at hK;have hK:KP (s.er.ba hd (some (.row true 1 (iq (t.ds y))))):=hK;rw[hds]at hK;by_cases h1:sz=1
 ·subst h1;obtain⟨d,rfl⟩:=List.length_eq_one_iff.1 hn;refine .inl ⟨.inr rfl,iq (t.ds x),[(t.ds x)[off]],_,[d],by rw[aU,hl];rfl,DZ (ν hlt),hc,rfl,rfl,me _,?_⟩;have e:(iq (t.ds x)).set off ([(t.ds x)[off]].take 0++[d]++[(t.ds x)[off]].drop (0+1))=iq ((t.ds x).take off++[d]++(t.ds x).drop (off+1)):=by rw[CR hlt];unfold iq;rw[acb];rfl
  rw[e];exact hK
 ·refine .inr ⟨rfl,rfl,h1,iq (t.ds x),_,vs,by rw[aU,hl];rfl,hc,zC _,hn,by rw[Aw];exact hle,?_⟩;have e:(iq (t.ds x)).take off++(vs.map fun d=>[d])++(iq (t.ds x)).drop (off+sz)=iq ((t.ds x).take off++vs++(t.ds x).drop (off+sz)):=by unfold iq;rw[aaw,aaw,aaz,aaI]
  rw[e];exact hK
theorem FX{k:IntKind}{y:bw n}:(AV.agg (((Ty.ar n k).ds y).map .D)).cells?=some (((Ty.ar n k).ds y).map .D):=by show(if AV.cx (((Ty.ar n k).ds y).map .D)=true then some (((Ty.ar n k).ds y).map AV.D)else none)=_;rw[if_pos (uL _ _)]
theorem OF[YL]{k:IntKind}{x y:bw n}(hl:s.lk hd=some (.arr true n k x))(h1:sz≠1)(hb:sz=n)(hc:(s.er.ev xo).cells?=some (((Ty.ar n k).ds y).map .D))
  (hK:KP (s.ba hd (some (.arr true n k y))).er):pU s.er sz (s.er.ev xo) KP (.eptr hd 1 0 0):=by
 have e1:=x.len;have e2:=y.len;refine .inr ⟨rfl,rfl,h1,x.l.map (ib k),_,(Ty.ar n k).ds y,by rw[aU,hl];rfl,hc,zC _,by rw[Ty.fk];exact hb.symm,by rw[κ];omega,?_⟩;have e:(x.l.map (ib k)).take 0++(((Ty.ar n k).ds y).map fun d=>[d])++(x.l.map (ib k)).drop (0+sz)=y.l.map (ib k):=by rw[List.take_zero,aa8,abv (by rw[κ];omega),aag];show((y.l.map (DV.I k)).map fun d=>[d])=_;rw[abI];rfl
 rw[e];rw[cH hl]at hK;exact hK
theorem NO[YL]{K:XS->Option R}{r:R}(hv:s.er.ev xo=v.er)(h:C3 s sz v K hd off=some r)(hK:∀s',K s'=some r->KP s'.er):pU s.er sz (s.er.ev xo) KP (.ptr hd off):=by
 unfold C3 at h;split at h
 ·rename_i cs hl;split at h
  ·rename_i ys hy;split at h
   ·rename_i hb;split at h
    ·rename_i cs' hu;obtain⟨h1,h2⟩:=vR hu;have:=hK _ h;rw[cH hl]at this;refine⟨XV.bz cs,XV.bz ys,by rw[aU,hl];rfl,by rw[hv];exact oF hy,by rw[Ae];exact θ hb,h1,?_⟩;rw[<-h2];exact this
    ·cases h
   ·cases h
  ·cases h
 ·cases h
theorem Ud[YL]{K:XS->Option R}{r:R}(hv:s.er.ev xo=v.er)(h:E8 s sz v K a=some r)(hK:∀s',K s'=some r->KP s'.er):pU s.er sz (s.er.ev xo) KP a.er:=by
 unfold E8 at h;split at h
 ·exact NO hv h hK
 ·rename_i hd off j;split at h
  ·rename_i cs hl;split at h
   ·rename_i a ha;split at h
    ·rename_i c hc;obtain⟨hj,h⟩:=bB h;split at h
     ·rename_i cs' hs;obtain⟨h1,h2⟩:=IL ha hj hs;have:=hK _ h;rw[cH hl]at this;have e:s.er.ev xo=.D (.I a.k c):=by rw[hv];exact Hw hc
      refine⟨XV.bz cs,[.D (.I a.k c)],by rw[aU,hl];rfl,by rw[e];rfl,rfl,by omega,?_⟩;rw[CR h1,<-h2];exact this
     ·cases h
    ·cases h
   ·exact NO hv h hK
   ·cases h
  ·cases h
 ·rename_i hd t ix off j;split at h
  ·rename_i t' xs hl;split at h
   ·rename_i hb;obtain rfl:=Ty.fg hb
    replace h:=wm h
    obtain⟨e,he,h⟩:=h;split at h
    ·rename_i a ha;split at h
     ·rename_i c hc;obtain⟨hj,h⟩:=bB h;split at h
      ·rename_i l hs;split at h
       ·rename_i y hp;obtain⟨h1,h2⟩:=IL ha hj hs;obtain⟨l1,e1,e2⟩:=pT hp;rw[aag]at e1;subst e1;rw[eN]at h1 h2;rw[κ]at h1;have hds:t'.ds y=(t'.ds e).set (off+j) (.I a.k c):=by
         have h3:(t'.ds y).map AV.D=((t'.ds e).set (off+j) (.I a.k c)).map AV.D:=by rw[<-e2,h2,acb]
         exact nE h3
        have ev:s.er.ev xo=.D (.I a.k c):=by rw[hv];exact Hw hc
        refine .inl ⟨.inr rfl,xs.map t'.ds,t'.ds e,[.D (.I a.k c)],[.I a.k c],by rw[aU,hl];rfl,by rw[aac,he];rfl,by rw[ev];rfl,rfl,rfl,by omega,?_⟩;have:=hK _ h;rw[cH hl]at this;rw[CR h1,<-hds];have e3:(xs.map t'.ds).set ix (t'.ds y)=(xs.set ix y).map t'.ds:=by rw[acb]
        rw[e3];exact this
       ·cases h
      ·cases h
     ·cases h
    ·cases h
   ·cases h
  ·cases h
 ·rename_i hd t ix off;split at h
  ·rename_i t' xs hl;split at h
   ·rename_i ys hb hy;obtain rfl:=Ty.fg hb;split at h
    ·rename_i hb1 hb2
     replace h:=wm h
     obtain⟨e,he,h⟩:=h;split at h
     ·rename_i l hu;split at h
      ·rename_i y hp;obtain⟨h1,h2⟩:=vR hu;obtain⟨l1,e1,e2⟩:=pT hp;rw[aag]at e1;subst e1;rw[eN]at h1 h2;rw[κ]at h1;have hsz:=θ hb1;have hlen:(XV.bz ys).length=sz:=by rw[Ae];exact hsz
       have hys:XV.bz ys=(((t'.ds y).drop off).take sz).map .D:=by
        have:(((XV.bz l).drop off).take sz)=XV.bz ys:=by rw[h2,π,abq (by rw[aao,κ];omega),abv (by rw[aao,κ];omega),aa8,ab0 (by omega),aav (by omega)]
        rw[<-this,e2,aaz,aaI]
       have hds:t'.ds y=(t'.ds e).take off++((t'.ds y).drop off).take sz++(t'.ds e).drop (off+sz):=by
        have h3:(t'.ds y).map AV.D=((t'.ds e).take off++((t'.ds y).drop off).take sz++(t'.ds e).drop (off+sz)).map AV.D:=by rw[aaw,aaw,<-hys,aaz,aaI,<-h2,e2]
        have:=congrArg AV.data h3;rwa[zC,zC,Option.some.injEq]at this
       refine .inl ⟨?_,xs.map t'.ds,t'.ds e,XV.bz ys,((t'.ds y).drop off).take sz,by rw[aU,hl];rfl,by rw[aac,he];rfl,by rw[hv];exact oF hy,by rw[hys];exact zC _,?_,h1,?_⟩
       ·rw[abx]at hb2;rcases hb2 with hb2|hb2
        ·exact .inr (θ hb2)
        ·exact .inl fun e=>by rw[e]at hb2;cases hb2
       ·have:=congrArg List.length hys;rw[κ,hlen]at this;exact this.symm
       ·have:=hK _ h;rw[cH hl]at this;rw[<-hds];have e3:(xs.map t'.ds).set ix (t'.ds y)=(xs.set ix y).map t'.ds:=by rw[acb]
        rw[e3];exact this
      ·cases h
     ·cases h
    ·cases h
   ·cases h
  ·cases h
 ·rename_i hd ix;split at h
  ·rename_i n k x hl;split at h
   ·split at h
    ·rename_i t c;split at h
     ·rename_i c' hc;obtain⟨e,rfl⟩:=Ty.cq hc;subst e;obtain⟨h1,h⟩:=bB h;have e1:=x.len;refine .inl ⟨.inr rfl,x.l.map (ib k),ib k (x.l[ix]'(by omega)),[.D (.I k c)],[.I k c],by rw[aU,hl];rfl,by rw[aac,ν (by omega)];rfl,by rw[hv];rfl,rfl,rfl,me _,?_⟩;have:=hK _ h;rw[cH hl]at this;have e3:(x.l.map (ib k)).set ix ((ib k (x.l[ix]'(by omega))).take 0++[.I k c]++(ib k (x.l[ix]'(by omega))).drop (0+1))=(x.set ix c).l.map (ib k):=by rw[bw.vd,acb];rfl
      rw[e3];exact this
     ·cases h
    ·cases h
   ·rename_i h1;split at h
    ·rename_i t y;split at h
     ·rename_i y' hy hb;obtain⟨e,rfl⟩:=Ty.cq hy;subst e;exact OF hl h1 (θ hb) (by rw[hv];exact FX) (hK _ h)
     ·cases h
    ·rename_i t y;split at h
     ·rename_i y' hy hb;obtain⟨e,rfl⟩:=Ty.cq hy;subst e;exact OF hl h1 (θ hb) (by
       rw[hv];show(AV.agg (((Ty.ar n k).ds _).map AV.D++[])).cells?=_;rw[aag];exact FX) (hK _ h)
     ·cases h
    ·split at h
     ·rename_i t y hu;split at h
      ·rename_i y' hy;obtain⟨e,rfl⟩:=Ty.cq hy;subst e;obtain⟨h2,h⟩:=bB h;have e1:=x.len;refine .inr ⟨rfl,rfl,h1,x.l.map (ib k),_,(Ty.ar sz k).ds y,by rw[aU,hl];rfl,by rw[hv,<-EF,hu];exact FX,zC _,by rw[Ty.fk];rfl,by rw[κ,e1];exact h2,?_⟩;have:=hK _ h;rw[cH hl]at this;have e3:(x.l.map (ib k)).take ix++(((Ty.ar sz k).ds y).map fun d=>[d])++(x.l.map (ib k)).drop (ix+sz)=(x.put ix y.l).l.map (ib k):=by rw[bw.rl (by rw[y.len];exact h2),aaw,aaw,aaz,aaI,y.len];congr 2;show((y.l.map (DV.I k)).map fun d=>[d])=_;rw[abI];rfl
       rw[e3];exact this
      ·cases h
     ·cases h
  ·cases h
 ·rename_i hd off;split at h
  ·rename_i t x hl;split at h
   ·rename_i ys hy;split at h
    ·rename_i hb;rw[μ]at hb;have hb0:=abf hb.2;split at h
     ·rename_i l hu;split at h
      ·rename_i y hp;obtain⟨h1,h2⟩:=vR hu;obtain⟨l1,e1,e2⟩:=pT hp;rw[aag]at e1;subst e1;rw[eN]at h1 h2;rw[κ]at h1;have hlen:(XV.bz ys).length=sz:=by rw[Ae];exact θ hb.1
       have hys:XV.bz ys=(((t.ds y).drop off).take sz).map .D:=by
        have:(((XV.bz l).drop off).take sz)=XV.bz ys:=by rw[h2,π,abq (by rw[aao,κ];omega),abv (by rw[aao,κ];omega),aa8,ab0 (by omega),aav (by omega)]
        rw[<-this,e2,aaz,aaI]
       have hds:t.ds y=(t.ds x).take off++((t.ds y).drop off).take sz++(t.ds x).drop (off+sz):=by
        have h3:(t.ds y).map AV.D=((t.ds x).take off++((t.ds y).drop off).take sz++(t.ds x).drop (off+sz)).map AV.D:=by rw[aaw,aaw,<-hys,aaz,aaI,<-h2,e2]
        exact nE h3
       have hn:(((t.ds y).drop off).take sz).length=sz:=by have:=congrArg List.length hys;rw[κ,hlen]at this;exact this.symm
       exact Jo hl (by rw[hv,<-hys];exact oF hy) hn h1 (by omega) hds (hK _ h)
      ·cases h
     ·cases h
    ·cases h
   ·cases h
  ·cases h
 ·rename_i hd off j;split at h
  ·rename_i t x hl;split at h
   ·rename_i a ha;split at h
    ·rename_i c hc;obtain⟨hj,h⟩:=bB h;split at h
     ·rename_i l hs;split at h
      ·rename_i y hp;obtain⟨h1,h2⟩:=IL ha hj hs;obtain⟨l1,e1,e2⟩:=pT hp;rw[aag]at e1;subst e1;rw[eN]at h1 h2;rw[κ]at h1;have hds:t.ds y=(t.ds x).set (off+j) (.I a.k c):=by
        have h3:(t.ds y).map AV.D=((t.ds x).set (off+j) (.I a.k c)).map AV.D:=by rw[<-e2,h2,acb]
        exact nE h3
       have ev:s.er.ev xo=.D (.I a.k c):=by rw[hv];exact Hw hc
       exact Jo (vs:=[.I a.k c]) hl (by rw[ev];rfl) rfl h1 h1 (by rw[CR h1];exact hds) (hK _ h)
      ·cases h
     ·cases h
    ·cases h
   ·cases h
  ·cases h
 ·cases h
def E6:List XV->Bool
 |[]=>true
 |.d _ _::l=>E6 l
 |.nl _::l=>E6 l
 |_::_=>false
def Y0(v a:XV):Bool:=match a with
 |.ept _ _ _ _=>match uD v with
  |some ys=>!(E6 ys)
  |none=>false
 |_=>false
def Nv(s s1:XS)(sz:Nat)(v:XV)(K:XS->Option R)(h:Hd)(t:Ty)(ix off:Nat):Option R:=match s1.lk h with
 |some (.row true t' xs)=>match t'.beq t,uD v with
  |true,some ys=>match aaa (u0 ys) sz,(aaa sz 1|| !(aaa t'.n 1))with
   |true,true=>cr xs ix fun e=>match uk (jb t' e) off ys sz with
    |some l=>yi s t' l fun y rest=>match rest with
     |[]=>K (s1.ba h (some (.row true t' (xs.set ix y))))
     |_::_=>none
    |none=>none
   |_,_=>none
  |_,_=>none
 |_=>none
def Im(s:XS)(sz:Nat)(v:XV)(K:XS->Option R):XV->Option R
 |.ept h t ix off=>Nv s (s.put none .un [] (nf s v.hr)) sz v K h t ix off
 |_=>none
theorem US{lk:bJ}{φ:Hd->Option Hd}{a:AV}{cs:List AV}(h:a.cells?=some cs)(hc:AV.bq lk φ cs=ds.map .D)(ho:AV.cx (ds.map .D)=true):(AV.conv lk φ a).cells?=some (ds.map .D):=by
 have key:∀a:AV,(∀l,a≠.agg l)->a.cells?=some cs->(AV.conv lk φ a).cells?=some (ds.map .D):=fun a hn h=>by
  have h1:cs=[a]:=by
   unfold AV.cells? at h;split at h
   ·exact absurd rfl (hn _)
   ·split at h
    ·cases h;rfl
    ·cases h
  subst h1;have hc:[AV.conv lk φ a]=ds.map .D:=hc;cases ds with
  |nil=>cases hc
  |cons d ds=>
   cases ds with
   |cons _ _=>exact absurd (congrArg List.length hc) (by simp)
   |nil=>
    have hc:AV.conv lk φ a=.D d:=(List.cons.inj hc).1;rw[hc];have ho:(AV.one (.D d)&&true)=true:=ho;rw[abY]at ho;show(if AV.one (.D d)=true then some [AV.D d]else none)=_;rw[if_pos ho];rfl
 cases a with
 |agg l=>
  have h:(if AV.cx l=true then some l else none)=some cs:=h;split at h
  ·have e:l=cs:=Option.some.inj h;rw[<-e]at hc;show(if AV.cx (AV.bq lk φ l)=true then some (AV.bq lk φ l)else none)=_;rw[hc,if_pos ho]
  ·cases h
 |_=>exact key _ (fun _=>AV.noConfusion) h
theorem Lr(lk:bJ)(φ:Hd->Option Hd):∀l:List AV,(AV.bq lk φ l).length=l.length
 |[]=>rfl
 |x::l=>by show(AV.bq lk φ l).length+1=_;rw[Lr lk φ l];rfl
theorem UG[YL]{K:XS->Option R}{r:R}(hv:s.er.ev xo=v.er)(h:Im s sz v K a=some r)(hK:∀s',K s'=some r->KP s'.er):
  pU (s.er.put none AV.un [] (ja s.er.lk (AV.rows (s.er.ev xo)))) sz (AV.conv s.er.lk (fun _=>none) (s.er.ev xo)) KP a.er:=by
 unfold Im at h;split at h
 ·rename_i hd t ix off;have hs1:s.er.put none AV.un [] (ja s.er.lk (AV.rows (s.er.ev xo)))=(s.put none .un [] (nf s v.hr)).er:=by rw[eS,hv,vu,sD];rfl
  rw[hs1,hv];revert h;generalize s.put none .un [] (nf s v.hr)=s1;intro h;unfold Nv at h;split at h
  ·rename_i t' xs hl;split at h
   ·rename_i ys hb hy;obtain rfl:=Ty.fg hb;split at h
    ·rename_i hb1 hb2
     replace h:=wm h
     obtain⟨e,he,h⟩:=h;split at h
     ·rename_i l hu;obtain⟨y,l1,l2,rfl,h,ec⟩:=BO (φ:=fun _=>none) (fun _ _ _=>rfl) h;split at h
      ·obtain⟨h1,h2⟩:=vR hu;rw[aag]at h2;rw[eN]at h1 h2;rw[κ]at h1;have hsz:=θ hb1;have hlen:(XV.bz ys).length=sz:=by rw[Ae];exact hsz
       have hC:((t'.ds e).take off).map AV.D++AV.bq s.er.lk (fun _=>none) (XV.bz ys)++((t'.ds e).drop (off+sz)).map AV.D=(t'.ds y).map .D:=by rw[<-ec,h2,vA,vA,<-aaz,<-aaI,Bg,Bg]
       have hcl:(AV.bq s.er.lk (fun _=>none) (XV.bz ys)).length=sz:=by rw[Lr,hlen]
       have hys:AV.bq s.er.lk (fun _=>none) (XV.bz ys)=(((t'.ds y).drop off).take sz).map .D:=by rw[aaz,aaI,<-hC,π,abq (by rw[κ,aao];omega),abv (by rw[κ,aao];omega),aa8,ab0 (by omega),aav (by omega)]
       have hds:t'.ds y=(t'.ds e).take off++((t'.ds y).drop off).take sz++(t'.ds e).drop (off+sz):=by
        have h3:(t'.ds y).map AV.D=((t'.ds e).take off++((t'.ds y).drop off).take sz++(t'.ds e).drop (off+sz)).map AV.D:=by rw[aaw,aaw,<-hys,hC]
        have:=congrArg AV.data h3;rwa[zC,zC,Option.some.injEq]at this
       have hone:AV.cx ((((t'.ds y).drop off).take sz).map .D)=true:=by
        have h4:=uL t' y;have h6:(t'.ds y).map AV.D=((t'.ds e).take off).map AV.D++(((t'.ds y).drop off).take sz).map AV.D++((t'.ds e).drop (off+sz)).map AV.D:=by rw[<-aaw,<-aaw,<-hds]
        rw[h6,Bx,Bx,μ,μ]at h4;exact h4.1.2
       refine .inl ⟨?_,xs.map t'.ds,t'.ds e,(((t'.ds y).drop off).take sz).map .D,((t'.ds y).drop off).take sz,by rw[aU,hl];rfl,by rw[aac,he];rfl,US (oF hy) hys hone,zC _,?_,h1,?_⟩
       ·rw[abx]at hb2;rcases hb2 with hb2|hb2
        ·exact .inr (θ hb2)
        ·exact .inl fun e=>by rw[e]at hb2;cases hb2
       ·have:=congrArg List.length hys;rw[κ,hcl]at this;exact this.symm
       ·have:=hK _ h;rw[cH hl]at this;rw[<-hds];have e3:(xs.map t'.ds).set ix (t'.ds y)=(xs.set ix y).map t'.ds:=by rw[acb]
        rw[e3];exact this
      ·cases h
     ·cases h
    ·cases h
   ·cases h
  ·cases h
 ·cases h
end
section
variable{R:Type}
def sA(s:XS)(t:Ty)(v:XV)(K:List t.T->Option R):Option R:=match v with
 |.d .s b=>match(Ty.sl (.i .u8)).j1 (.sl t) (cJ b)with
  |some y=>K y
  |none=>none
 |v=>pP s (.sl t) v K
theorem mS[YL]{K:List t.T->Option R}{r:R}(h:sA s t v K=some r):∃xs:List t.T,K xs=some r/\AV.content s.er.lk v.er=some (xs.map t.ds):=by
 unfold sA at h;split at h
 ·rename_i b;split at h
  ·rename_i y hy;obtain⟨e,rfl⟩:=Ty.cq hy;cases e;refine⟨_,h,?_⟩;show some (b.map fun c=>[DV.I .u8 c.toNat])=_;simp only[cJ,abI];rfl
  ·cases h
 ·obtain⟨xs,h,h1,_⟩:=Ms h;exact⟨xs,h,h1⟩
def bS4(s:XS)(t:Ty)(xs:List t.T)(k bytes:Nat)(y:XV)(K:XV->List XB->List Hd->Option R):Option R:=match aaa t.n k with
 |true=>sA s t y fun ys=>match xs,ys with
  |[],ys=>az (ys.length*bytes<=140737488355328) (K (.slw (.O s.own.length) t ys.length) [.row true t ys] (nf s y.hr))
  |xs,y0::yr=>az ((xs.length+(y0::yr).length)*bytes<=140737488355328) (K (.slw (.O s.own.length) t (xs++y0::yr).length) [.row true t (xs++y0::yr)] (nf s y.hr))
  |_,_=>none
 |false=>none
def Fg(s:XS)(ty:Option Ty)(k bytes:Nat)(y:XV)(dst:Option Nat)(K:XS->Option R):XV->Option R
 |.slw h t len=>match s.lk h with
  |some (.row mt t' xs)=>match t'.beq t,aaa t'.n k with
   |true,true=>aw len xs (sA s t' y fun ys=>az ((xs.length+ys.length)*bytes<=140737488355328) (K ((s.ba h none).put dst (.slw (.O s.own.length) t' (xs++ys).length) [.row mt t' (xs++ys)] [])))
   |_,_=>none
  |_=>none
 |.fln _=>match vw ty,dst with
  |some t,some d=>match aaa t.n k with
   |true=>sA s t y fun ys=>az (ys.length*bytes<=140737488355328) (K (s.put (some d) (.slw (.O s.own.length) t ys.length) [.row true t ys] (nf s y.hr)))
   |false=>none
  |_,_=>none
 |.fl t xs=>match aaa t.n k,dst with
  |true,some d=>sA s t y fun ys=>match ys with
   |[]=>none
   |y0::yr=>az ((xs.length+(y0::yr).length)*bytes<=140737488355328) (K (s.put (some d) (.slw (.O s.own.length) t (xs++y0::yr).length) [.row true t (xs++y0::yr)] (nf s y.hr)))
  |_,_=>none
 |_=>none
theorem VB[YL]{K:XS->Option R}{r:R}(hy:s.er.ev yo=y.er)(h:Fg s ty k bytes y dst K a=some r)(hK:∀s',K s'=some r->KP s'.er):sY s.er k bytes yo dst KP a.er:=by
 unfold Fg at h;split at h
 ·rename_i hd t len;split at h
  ·rename_i mt t' xs hl;split at h
   ·rename_i hb hb2;obtain rfl:=Ty.fg hb;have hk:=θ hb2
    replace h:=zh h
    obtain⟨rfl,h⟩:=h;obtain⟨ys,h,hc⟩:=mS h;obtain⟨hsz,h⟩:=bB h;refine⟨hk,rfl,mt,xs.map t'.ds,ys.map t'.ds,by rw[aU,hl,<-hk];rfl,by rw[κ],by rw[hy];exact hc,hk▸uU t' xs,hk▸uU t' ys,Dh t' ys,by rw[κ];exact hsz,?_⟩;have:=hK _ h;rw[eS,cH hl]at this;have e:(XV.slw (.O s.own.length) t' (xs++ys).length).er=.sl (.O s.own.length) k 0 (xs.length+(ys.map t'.ds).length):=by show AV.sl (.O s.own.length) t'.n 0 (xs++ys).length=_;rw[hk,ε,κ]
    rw[e]at this;have e2:([XB.row mt t' (xs++ys)].map XB.er)=[bn.row mt k (xs.map t'.ds++ys.map t'.ds)]:=by show[bn.row mt t'.n ((xs++ys).map t'.ds)]=_;rw[hk,aaw]
    rw[e2]at this;exact this
   ·cases h
  ·cases h
 ·split at h
  ·rename_i t d _;split at h
   ·rename_i hb;have hk:=θ hb;obtain⟨ys,h,hc⟩:=mS h;obtain⟨hsz,h⟩:=bB h;refine⟨rfl,ys.map t.ds,by rw[hy];exact hc,hk▸uU t ys,by rw[κ];exact hsz,?_⟩;have:=hK _ h;rw[eS]at this;have e:(XV.slw (.O s.own.length) t ys.length).er=.sl (.O s.own.length) k 0 (ys.map t.ds).length:=by show AV.sl (.O s.own.length) t.n 0 ys.length=_;rw[hk,κ]
    rw[e]at this;have e2:([XB.row true t ys].map XB.er)=[bn.row true k (ys.map t.ds)]:=by show[bn.row true t.n (ys.map t.ds)]=_;rw[hk]
    rw[e2]at this;rw[hy,vu,sD];exact this
   ·cases h
  ·cases h
 ·rename_i t xs;split at h
  ·rename_i d hb;have hk:=θ hb;obtain⟨ys,h,hc⟩:=mS h;split at h
   ·cases h
   ·rename_i y0 yr;obtain⟨hsz,h⟩:=bB h;have:=hK _ h;rw[eS]at this;have e2:([XB.row true t (xs++y0::yr)].map XB.er)=[bn.row true k (xs.map t.ds++(y0::yr).map t.ds)]:=by show[bn.row true t.n ((xs++y0::yr).map t.ds)]=_;rw[hk,aaw]
    have e:(XV.slw (.O s.own.length) t (xs++y0::yr).length).er=.sl (.O s.own.length) k 0 (xs.length+(y0::yr).length):=by show AV.sl (.O s.own.length) t.n 0 (xs++y0::yr).length=_;rw[hk,ε]
    rw[e,e2,show s.own.length=s.er.nx from rfl]at this;cases xs with
    |nil=>
     refine⟨rfl,(y0::yr).map t.ds,by rw[hy];exact hc,hk▸uU t _,by rw[κ];simpa using hsz,?_⟩;rw[hy,vu,sD,κ];simpa using this
    |cons x0 xr=>
     refine⟨(y0::yr).map t.ds,by rw[hy];exact hc,hk▸uU t (x0::xr),hk▸uU t _,by simpa using hsz,?_⟩;rw[if_neg (by simp),hy,vu,sD];simpa using this
  ·cases h
 ·cases h
def GZ(s:XS)(ty:Option Ty)(k bytes:Nat)(y:XV)(K:XV->List XB->List Hd->Option R):XV->Option R
 |.fln _=>match vw ty with
  |some t=>match aaa t.n k with
   |true=>sA s t y fun ys=>az (ys.length*bytes<=140737488355328) (K (.slw (.O s.own.length) t ys.length) [.row true t ys] (nf s y.hr))
   |false=>none
  |none=>none
 |.fl t xs=>match aaa t.n k with
  |true=>sA s t y fun ys=>match ys with
   |[]=>none
   |y0::yr=>az ((xs.length+(y0::yr).length)*bytes<=140737488355328) (K (.slw (.O s.own.length) t (xs++y0::yr).length) [.row true t (xs++y0::yr)] (nf s y.hr))
  |false=>none
 |_=>none
theorem bJd[YL]{K:XV->List XB->List Hd->Option R}{r:R}(hy:s.er.ev yo=y.er)(h:GZ s ty k bytes y K a=some r){KP:AV->List bn->List Hd->Prop}(hK:∀v nbs fz,K v nbs fz=some r->KP v.er (nbs.map XB.er) fz):
  ∃es,a.er=.fl es/\∃ys,AV.content s.er.lk (s.er.ev yo)=some ys/\js k es/\js k ys/\(es.length+ys.length)*bytes<=140737488355328/\
   (if ys=[]/\es≠[]then KP (.fl es) [] []else KP (.sl (.O s.er.nx) k 0 (es.length+ys.length)) [.row true k (es++ys)] (ja s.er.lk (AV.rows (s.er.ev yo)))):=by
 unfold GZ at h;split at h
 ·split at h
  ·rename_i t _;split at h
   ·rename_i hb;have hk:=θ hb;obtain⟨ys,h,hc⟩:=mS h;obtain⟨hsz,h⟩:=bB h;refine⟨[],rfl,ys.map t.ds,by rw[hy];exact hc,fun _ h=>(by cases h),hk▸uU t ys,by rw[κ];simpa using hsz,?_⟩;rw[if_neg (fun h=>h.2 rfl),hy,vu,sD];have:=hK _ _ _ h;have e:(XV.slw (.O s.own.length) t ys.length).er=.sl (.O s.own.length) k 0 (([]:List (List DV)).length+(ys.map t.ds).length):=by show AV.sl (.O s.own.length) t.n 0 ys.length=_;rw[hk,κ,List.length_nil,aan]
    rw[e]at this;have e2:([XB.row true t ys].map XB.er)=[bn.row true k ([]++ys.map t.ds)]:=by show[bn.row true t.n (ys.map t.ds)]=_;rw[hk];rfl
    rw[e2]at this;exact this
   ·cases h
  ·cases h
 ·rename_i t xs;split at h
  ·rename_i hb;have hk:=θ hb;obtain⟨ys,h,hc⟩:=mS h;split at h
   ·cases h
   ·rename_i y0 yr;obtain⟨hsz,h⟩:=bB h;refine⟨xs.map t.ds,rfl,(y0::yr).map t.ds,by rw[hy];exact hc,hk▸uU t xs,hk▸uU t (y0::yr),by rw[κ,κ];exact hsz,?_⟩;rw[if_neg (fun h=>by cases h.1),hy,vu,sD];have:=hK _ _ _ h;have e:(XV.slw (.O s.own.length) t (xs++y0::yr).length).er=.sl (.O s.own.length) k 0 ((xs.map t.ds).length+((y0::yr).map t.ds).length):=by show AV.sl (.O s.own.length) t.n 0 (xs++y0::yr).length=_;rw[hk,κ,κ,ε]
    rw[e]at this;have e2:([XB.row true t (xs++y0::yr)].map XB.er)=[bn.row true k (xs.map t.ds++(y0::yr).map t.ds)]:=by show[bn.row true t.n ((xs++y0::yr).map t.ds)]=_;rw[hk,aaw]
    rw[e2]at this;exact this
  ·cases h
 ·cases h
def vj{α:Type}(xs:List α)(off len:Nat)(ys:List α):List α:=xs.take off++ys.take (min ys.length len)++xs.drop (off+min ys.length len)
def CI(s:XS)(k:Nat)(vy:XV)(dst:Option Nat)(K:XS->Option R)(h:Hd)(t:Ty)(off len:Nat):Option R:=match s.lk h with
 |some (.row true t' xs)=>match t'.beq t,aaa t'.n k with
  |true,true=>az (off+len<=xs.length) (sA s t' vy fun ys=>K ((s.ba h (some (.row true t' (vj xs off len ys)))).put dst (.d (.i .i64) (min ys.length len:Nat)) [] []))
  |_,_=>none
 |_=>none
def Fp(s:XS)(k:Nat)(vy:XV)(dst:Option Nat)(K:XS->Option R):XV->Option R
 |.slw h t len=>CI s k vy dst K h t 0 len
 |.sl h t off len=>CI s k vy dst K h t off len
 |.asl h off len=>match s.lk h with
  |some (.arr true n kd x)=>match aaa 1 k with
   |true=>az (off+len<=n) (sA s (.i kd) vy fun ys=>K ((s.ba h (some (.arr true n kd (x.put off (ys.take (min ys.length len)))))).put dst (.d (.i .i64) (min ys.length len:Nat)) [] []))
   |false=>none
  |_=>none
 |.rsl h off l len=>match s.lk h with
  |some (.rb true t x)=>match aaa 1 k,om (jb t x) off with
   |true,some a=>az (l+len<=a.n) (sA s (.i a.k) vy fun ys=>match uk (jb t x) off [.d (.ar a.n a.k) (a.x.put l (ys.take (min ys.length len)))] a.n with
    |some q=>match o0 t q with
     |some (y,[])=>K ((s.ba h (some (.rb true t y))).put dst (.d (.i .i64) (min ys.length len:Nat)) [] [])
     |_=>none
    |none=>none)
   |_,_=>none
  |_=>none
 |_=>none
theorem bDt{l p:List α}(h:off+n<=l.length)(hi:i+p.length<=n):l.take off++(((l.drop off).take n).take i++p++((l.drop off).take n).drop (i+p.length))++l.drop (off+n)=l.take (off+i)++p++l.drop (off+i+p.length):=by
 have e1:l.take (off+i)=l.take off++(l.drop off).take i:=by rw[List.take_add]
 have e2:((l.drop off).take n).take i=(l.drop off).take i:=by rw[List.take_take,Nat.min_eq_left (by omega)]
 have e3:l.drop (off+i+p.length)=((l.drop off).take n).drop (i+p.length)++l.drop (off+n):=by
  have h1:l.drop (off+i+p.length)=(l.drop off).drop (i+p.length):=by rw[abe,ab6]
  have h2:l.drop (off+n)=(l.drop off).drop n:=by rw[abe]
  rw[h1,h2];have h3:l.drop off=(l.drop off).take n++(l.drop off).drop n:=(List.take_append_drop _ _).symm;have h4:((l.drop off).take n).length=n:=by rw[aao,aat];omega
  conv=>lhs;rw[h3]
  rw[abq (by omega)]
 rw[e1,e2,e3];simp only[π]
theorem PQ[YL]{K:XS->Option R}{r:R}{len:Nat}(hy:s.er.ev yo=vy.er)(h:CI s k vy dst K hd t off len=some r)(hK:∀s',K s'=some r->KP s'.er):ze s.er k yo dst KP (.sl hd t.n off len):=by
 unfold CI at h;split at h
 ·rename_i t' xs hl;split at h
  ·rename_i hb hb2;obtain rfl:=Ty.fg hb;have hk:=θ hb2;obtain⟨h1,h⟩:=bB h;obtain⟨ys,h,hc⟩:=mS h;refine⟨hk,xs.map t'.ds,ys.map t'.ds,by rw[aU,hl,<-hk];rfl,by rw[κ];exact h1,by rw[hy];exact hc,hk▸uU t' ys,by rw[<-aaz];exact Dh t' _,?_⟩;have:=hK _ h;rw[eS,cH hl]at this;have e:(some (XB.row true t' (vj xs off len ys))).map XB.er=some (.row true k ((xs.map t'.ds).take off++(ys.map t'.ds).take (min (ys.map t'.ds).length len)++(xs.map t'.ds).drop (off+min (ys.map t'.ds).length len))):=by show some (bn.row true t'.n ((vj xs off len ys).map t'.ds))=_;unfold vj;rw[hk,aaw,aaw,aaz,aaz,aaI,κ]
   rw[e]at this;have e2:(XV.d (.i .i64) ((min ys.length len:Nat):Int)).er=.D (.I .i64 (min (ys.map t'.ds).length len:Nat)):=by rw[κ];rfl
   rw[e2]at this;exact this
  ·cases h
 ·cases h
theorem ZK[YL]{K:XS->Option R}{r:R}(hy:s.er.ev yo=vy.er)(h:Fp s k vy dst K a=some r)(hK:∀s',K s'=some r->KP s'.er):ze s.er k yo dst KP a.er:=by
 unfold Fp at h;split at h
 ·exact PQ hy h hK
 ·exact PQ hy h hK
 ·rename_i hd off len;split at h
  ·rename_i n kd x hl;split at h
   ·rename_i hb;obtain rfl:=θ hb;obtain⟨h1,h⟩:=bB h;obtain⟨ys,h,hc⟩:=mS h;refine⟨rfl,x.l.map (ib kd),ys.map (Ty.i kd).ds,by rw[aU,hl];rfl,by rw[κ,x.len];exact h1,by rw[hy];exact hc,uU (.i kd) ys,by rw[<-aaz];exact Dh (.i kd) _,?_⟩;have:=hK _ h;rw[eS,cH hl]at this;have hm:(ys.take (min ys.length len)).length=min ys.length len:=by rw[aao];omega
    have e:(some (XB.arr true n kd (x.put off (ys.take (min ys.length len))))).map XB.er=some (.row true 1 ((x.l.map (ib kd)).take off++(ys.map (Ty.i kd).ds).take (min (ys.map (Ty.i kd).ds).length len)++(x.l.map (ib kd)).drop (off+min (ys.map (Ty.i kd).ds).length len))):=by show some (bn.row true 1 ((x.put off (ys.take (min ys.length len))).l.map (ib kd)))=_;rw[bw.rl (by rw[hm];omega),aaw,aaw,hm,aaz,aaz,aaI,κ];rfl
    rw[e]at this;have e2:(XV.d (.i .i64) ((min ys.length len:Nat):Int)).er=.D (.I .i64 (min (ys.map (Ty.i kd).ds).length len:Nat)):=by rw[κ];rfl
    rw[e2]at this;exact this
   ·cases h
  ·cases h
 ·rename_i hd off l len;split at h
  ·rename_i t x hl;split at h
   ·rename_i a hb ha;obtain rfl:=θ hb;obtain⟨h1,h⟩:=bB h;obtain⟨ys,h,hc⟩:=mS h;split at h
    ·rename_i q hu;split at h
     ·rename_i y hp;obtain⟨c1,c2⟩:=vR hu;obtain⟨d1,d2⟩:=B2 ha;obtain⟨l1,e1,e2⟩:=pT hp;rw[aag]at e1;subst e1;have hm:(ys.take (min ys.length len)).length=min ys.length len:=by rw[aao];omega
      have hp1:(((ys.take (min ys.length len)).map (DV.I a.k)).map AV.D).length=min ys.length len:=by rw[κ,κ,hm]
      have e3:XV.bz [XV.d (.ar a.n a.k) (a.x.put l (ys.take (min ys.length len)))]=((((XV.bz (jb t x)).drop off).take a.n).take l++((ys.take (min ys.length len)).map (DV.I a.k)).map .D++(((XV.bz (jb t x)).drop off).take a.n).drop (l+(((ys.take (min ys.length len)).map (DV.I a.k)).map AV.D).length)):=by rw[d1,hp1];show(((a.x.put l (ys.take (min ys.length len))).l.map (DV.I a.k)).map AV.D)++[]=_;rw[aag,bw.rl (by rw[hm];omega),hm];simp only[aaw,aaz,aaI]
      have e4:=bDt (p:=((ys.take (min ys.length len)).map (DV.I a.k)).map AV.D) d2 (i:=l) (by rw[hp1];omega);rw[<-e3,<-c2,hp1,eN]at e4;have e5:t.ds y=(t.ds x).take (off+l)++(ys.take (min ys.length len)).map (DV.I a.k)++(t.ds x).drop (off+l+min ys.length len):=by refine nE ?_;rw[<-e2,e4];simp only[aaw,aaz,aaI]
      rw[eN,κ]at d2;refine⟨rfl,iq (t.ds x),ys.map (Ty.i a.k).ds,by rw[aU,hl];rfl,by rw[Aw];omega,by rw[hy];exact hc,uU (.i a.k) ys,by rw[<-aaz];exact Dh (.i a.k) _,?_⟩;have:=hK _ h;rw[eS,cH hl]at this;have e:(some (XB.rb true t y)).map XB.er=some (.row true 1 ((iq (t.ds x)).take (off+l)++(ys.map (Ty.i a.k).ds).take (min (ys.map (Ty.i a.k).ds).length len)++(iq (t.ds x)).drop (off+l+min (ys.map (Ty.i a.k).ds).length len))):=by show some (bn.row true 1 (iq (t.ds y)))=_;rw[e5,κ];unfold iq;simp only[aaw,aaz,aaI,abI];rfl
      rw[e]at this;have e6:(XV.d (.i .i64) ((min ys.length len:Nat):Int)).er=.D (.I .i64 (min (ys.map (Ty.i a.k).ds).length len:Nat)):=by rw[κ];rfl
      rw[e6]at this;exact this
     ·cases h
    ·cases h
   ·cases h
  ·cases h
 ·cases h
def CB(s:XS)(k:Nat)(zs:List DV)(dst:Option Nat)(K:XS->Option R)(h:Hd)(t:Ty)(off len:Nat):Option R:=match s.lk h with
 |some (.row true t' xs)=>match t'.beq t,aaa t'.n k,ou (zs.map .D) ((t'.ds t'.z).map .D)with
  |true,true,true=>az (off+len<=xs.length) (K ((s.ba h (some (.row true t' (xs.take off++aae len t'.z++xs.drop (off+len))))).put dst .any [] []))
  |_,_,_=>none
 |_=>none
def IV(s:XS)(k:Nat)(zs:List DV)(dst:Option Nat)(K:XS->Option R):XV->Option R
 |.slw h t len=>CB s k zs dst K h t 0 len
 |.sl h t off len=>CB s k zs dst K h t off len
 |_=>none
theorem Jr[YL]{zs:List DV}{K:XS->Option R}{r:R}{len:Nat}(h:CB s k zs dst K hd t off len=some r)(hK:∀s',K s'=some r->KP s'.er):zy s.er k zs dst KP (.sl hd t.n off len):=by
 unfold CB at h;split at h
 ·rename_i t' xs hl;split at h
  ·rename_i hb hb2 hz;obtain rfl:=Ty.fg hb;have hk:=θ hb2;have hz:=nE (xt hz);obtain⟨h1,h⟩:=bB h;refine⟨hk,xs.map t'.ds,by rw[aU,hl,<-hk];rfl,by rw[κ];exact h1,?_⟩;have:=hK _ h;rw[eS,cH hl]at this;have e:(some (XB.row true t' (xs.take off++aae len t'.z++xs.drop (off+len)))).map XB.er=some (.row true k ((xs.map t'.ds).take off++aae len zs++(xs.map t'.ds).drop (off+len))):=by show some (bn.row true t'.n ((xs.take off++aae len t'.z++xs.drop (off+len)).map t'.ds))=_;rw[hk,aaw,aaw,abW,aaz,aaI,hz]
   rw[e]at this;exact this
  ·cases h
 ·cases h
theorem Tc[YL]{zs:List DV}{K:XS->Option R}{r:R}(h:IV s k zs dst K a=some r)(hK:∀s',K s'=some r->KP s'.er):zy s.er k zs dst KP a.er:=by
 unfold IV at h;split at h
 ·exact Jr h hK
 ·exact Jr h hK
 ·cases h
theorem D2{wr:Bool}{K V:Ty}(hk:yV K=true)(y:K.T)(v:V.T)(mv:MV)(hmv:mv=sF wr V v):∀(es:List (K.T×V.T)) (hole:Option K.T) (r:Option (Nat×MV)),(hole=none\/hole=some y)->mR (dA K y) (iF wr K V es hole)=some r->
  BM (iF wr K V es hole) r (dA K y) mv=iF wr K V (nY es y v) none
 |[],hole,r,_,h=>by
  cases h;subst hmv;rfl
 |e::es,hole,r,hh,h=>by
  subst hmv;have main:∀(mv0:MV) (rest:List (AV×MV)),mR (dA K y) ((dA K e.1,mv0)::rest)=some r->(e.1=y->rest=iF wr K V es none)->(e.1≠y->mv0=sF wr V e.2/\∃hole',rest=iF wr K V es hole'/\(hole'=none\/hole'=some y))->
    BM ((dA K e.1,mv0)::rest) r (dA K y) (sF wr V v)=iF wr K V (nY (e::es) y v) none:=fun mv0 rest hf h1 h2=>by
   unfold mR at hf;rw[PH hk]at hf;have hs:nY (e::es) y v=if e.1=y then(y,v)::es else e::nY es y v:=rfl
   rw[hs];by_cases he:e.1=y
   ·rw[decide_eq_true he]at hf;simp only[Option.some.injEq]at hf;subst hf;rw[if_pos he,h1 he];rfl
   ·rw[decide_eq_false he]at hf;obtain⟨rfl,hole',rfl,hh'⟩:=h2 he;rw[if_neg he];simp only at hf;split at hf
    ·rename_i j v0 hq;cases hf;have ih:=D2 hk y v _ rfl es hole' _ hh' hq;show(dA K e.1,sF wr V e.2)::(iF wr K V es hole').set j (dA K y,sF wr V v)=(dA K e.1,sF wr V e.2)::iF wr K V (nY es y v) none;rw[<-ih];rfl
    ·rename_i hq;cases hf;have ih:=D2 hk y v _ rfl es hole' _ hh' hq;show(dA K e.1,sF wr V e.2)::(iF wr K V es hole'++[(dA K y,sF wr V v)])=(dA K e.1,sF wr V e.2)::iF wr K V (nY es y v) none;rw[<-ih];rfl
    ·cases hf
  rcases hh with rfl|rfl
  ·exact main _ _ h (fun _=>rfl) (fun _=>⟨rfl,none,rfl,.inl rfl⟩)
  ·by_cases he:e.1=y
   ·have e2:iF wr K V (e::es) (some y)=(dA K e.1,.v (AJ wr V e.2))::iF wr K V es none:=by show(if e.1=y then _ else _)=_;rw[if_pos he]
    rw[e2]at h|-;exact main _ _ h (fun _=>rfl) (fun hn=>absurd he hn)
   ·have e2:iF wr K V (e::es) (some y)=(dA K e.1,sF wr V e.2)::iF wr K V es (some y):=by show(if e.1=y then _ else _)=_;rw[if_neg he]
    rw[e2]at h|-;exact main _ _ h (fun hn=>absurd hn he) (fun _=>⟨rfl,some y,rfl,.inr rfl⟩)
def FO{α:Type}[DecidableEq α]:List α->α->List α
 |[],_=>[]
 |x::l,y=>if x=y then FO l y else x::FO l y
def Ha(V:Ty):XV->Option V.T
 |.d t x=>t.j1 V x
 |.agg cs=>match nF V with
  |true=>none
  |false=>match o0 V cs with
   |some (x,[])=>some x
   |_=>none
 |_=>none
theorem bE5[YL]{x:V.T}(h:Ha V v=some x):v.er=dA V x:=by
 unfold Ha at h;split at h
 ·obtain⟨e,rfl⟩:=Ty.cq h;subst e;rfl
 ·split at h
  ·cases h
  ·rename_i cs _ hl;split at h
   ·rename_i y hp;cases h;obtain⟨l1,e1,e2⟩:=pT hp;rw[aag]at e1;subst e1;rw[nL x hl];show AV.agg (XV.bz _)=_;rw[e2]
   ·cases h
 ·cases h
theorem Ma:∀l:List DV,AV.jq (l.map .D)=true
 |[]=>rfl
 |_::l=>Ma l
theorem aXj(x:V.T):(dA V x).lp=true:=by
 cases hl:nF V with
 |true=>cases V<;>first|rfl|(cases hl;done)
 |false=>rw[nL x hl];exact Ma _
def isO:Ty->Bool
 |.o _=>true
 |_=>false
def IK{α:Type}[DecidableEq α](hole:Option α)(y:α)(K:Option R):Option R:=match hole with
 |none=>K
 |some z=>az (z=y) K
theorem Wv{α:Type}[DecidableEq α]{hole:Option α}{y:α}{K:Option R}{r:R}(h:IK hole y K=some r):(hole=none\/hole=some y)/\K=some r:=by
 unfold IK at h;split at h
 ·exact⟨.inl rfl,h⟩
 ·obtain⟨e,h⟩:=bB h;exact⟨.inr (by rw[e]),h⟩
def DC(s:XS)(wr:Bool)(V:Ty)(vz:XV)(K:V.T->Option Hd->Option R):Option R:=match V,K with
 |.o t,K=>match vz with
  |.slw hr t' len=>match s.lk hr with
   |some (.row mt t2 xs)=>match t2.beq t'&&(!wr||mt),(Ty.sl t2).j1 (.sl t) xs with
    |true,some x=>aw len xs (K x (some hr))
    |_,_=>none
   |_=>none
  |_=>none
 |V,K=>match Ha V vz with
  |some x=>K x none
  |none=>none
theorem RZ[YL]{K:V.T->Option Hd->Option R}{r:R}(h:DC s wr V vz K=some r):∃x hr,K x hr=some r/\
  ((hr=none/\MV.v (dA V x)=sF wr V x/\vz.er=dA V x)\/∃a mt k rs b,hr=some a/\((wr=false/\sF wr V x=.o k rs)\/(wr=true/\mt=true/\sF wr V x=.ow k rs))/\vz.er=.sl a k 0 rs.length/\s.lk a=some b/\b.er=.row mt k rs):=by
 cases V with
 |o t=>
  unfold DC at h;simp only at h;split at h
  ·rename_i hr t' len;split at h
   ·rename_i mt t2 xs hl;split at h
    ·rename_i x hb hx;rw[μ]at hb;obtain⟨hb,hw⟩:=hb;obtain rfl:=Ty.fg hb;obtain⟨e,rfl⟩:=Ty.cq hx;cases e;obtain⟨e,h⟩:=zh h;refine⟨xs,some hr,h,.inr ⟨hr,mt,t.n,xs.map t.ds,_,rfl,?_,?_,hl,rfl⟩⟩
     ·cases wr with
      |false=>exact .inl ⟨rfl,rfl⟩
      |true=>exact .inr ⟨rfl,hw,rfl⟩
     show AV.sl hr t.n 0 len=_;rw[e,κ]
    ·cases h
   ·cases h
  ·cases h
 |_=>
  unfold DC at h;simp only at h;split at h
  ·rename_i x hx;exact⟨x,none,h,.inl ⟨rfl,rfl,bE5 hx⟩⟩
  ·cases h
def La(s:XS)(h:Hd)(b:XB)(hr:Option Hd)(K:XS->Option R):Option R:=match hr with
 |none=>K (s.ba h (some b))
 |some a=>match a.j9 h with
  |true=>none
  |false=>K ((s.ba a none).ba h (some b))
def LA(s:XS)(h:Hd)(wr:Bool)(K0 V:Ty)(es:List (K0.T×V.T))(hole:Option K0.T)(y:K0.T)(vz:XV)(K:XS->Option R):Option R:=
 DC s wr V vz fun x hr=>IK hole y (La s h (.mp wr K0 V (nY es y x) none none) hr K)
def I2(s:XS)(kd:KD)(vy vz:XV)(K:XS->Option R):XV->Option R
 |.mref h=>match s.lk h with
  |some (.mp wr K0 V es hole i)=>match yV K0&&ux K0.kd kd&&D6 wr i,zv K0 vy with
   |true,some y=>LA s h wr K0 V es hole y vz K
   |_,_=>none
  |_=>none
 |_=>none
theorem Xw{a:Hd}{b0:XB}(hl:s.lk a=some b0)(hn:a≠h)(b:Option XB):(s.ba a b).lk h=s.lk h:=by
 cases a with
 |B i=>cases h with
  |B j=>
   show bN (wF s.bs i b) j=bN s.bs j;rw[nJ _ _ _ _ (pD (l:=s.bs) hl),if_neg (fun e=>hn (by rw[e]))]
  |O j=>rfl
 |O i=>cases h with
  |B j=>rfl
  |O j=>
   show bN (wF s.own i b) j=bN s.own j;rw[nJ _ _ _ _ (pD (l:=s.own) hl),if_neg (fun e=>hn (by rw[e]))]
theorem Tz[YL]{K0:Ty}{es:List (K0.T×V.T)}{hole:Option K0.T}{i:Option (Hd×Option K0.T×List K0.T)}{y:K0.T}{K:XS->Option R}{r:R}(hk:yV K0=true)(hl:s.lk hd=some (.mp wr K0 V es hole i))(hio:D6 wr i=true)(h:LA s hd wr K0 V es hole y vz K=some r)(hK:∀s',K s'=some r->KP s'.er)(hz:s.er.ev zo=vz.er):
  FE s.er (s.er.ev zo) fun mv s1=>∃es it r,s.er.lk hd=some (.mp K0.kd es it)/\mR (dA K0 y) es=some r/\KP (s1.ba hd (some (.mp K0.kd (BM es r (dA K0 y) mv) none))):=by
 have hl':s.er.lk hd=some (.mp K0.kd (iF wr K0 V es hole) (A7 K0 i)):=by rw[aU,hl];show some (bn.mp _ (sr wr K0 V es hole i) _)=_;rw[WY hio]
 obtain⟨q,f1,_⟩:=rG (wr:=wr) (V:=V) hk y es hole;obtain⟨x,hr,h,hx⟩:=RZ h;obtain⟨hh,h⟩:=Wv h;rcases hx with⟨rfl,e1,e2⟩|⟨a,mt,k,rs,b,rfl,e1,e2,e3,e4⟩
 ·rw[hz,e2];refine .inl ⟨aXj x,_,_,q,hl',f1,?_⟩;have:=hK _ h;rw[cH hl]at this;rw[D2 hk y x _ e1 es hole q hh f1];have e9:(some (XB.mp wr K0 V (nY es y x) none none)).map XB.er=some (.mp K0.kd (iF wr K0 V (nY es y x) none) none):=by show some (bn.mp _ (sr wr _ _ _ _ _) _)=_;rw[LP];rfl
  rw[e9]at this;exact this
 ·unfold La at h;simp only at h;split at h
  ·cases h
  ·rename_i hne;have hne:a≠hd:=fun e=>by rw[e,Hd.dn.2 rfl]at hne;cases hne
   rw[hz,e2];have e9:(some (XB.mp wr K0 V (nY es y x) none none)).map XB.er=some (.mp K0.kd (iF wr K0 V (nY es y x) none) none):=by show some (bn.mp _ (sr wr _ _ _ _ _) _)=_;rw[LP];rfl
   have:=hK _ h;rw[cH ((Xw e3 hne none).trans hl),cH e3,e9]at this;have fin:∀mv,sF wr V x=mv->∃es' it r,s.er.lk hd=some (.mp K0.kd es' it)/\mR (dA K0 y) es'=some r/\KP ((s.er.ba a none).ba hd (some (.mp K0.kd (BM es' r (dA K0 y) mv) none))):=fun mv e1=>by refine⟨_,_,q,hl',f1,?_⟩;rw[D2 hk y x _ e1.symm es hole q hh f1];exact this
   refine .inr ⟨a,k,mt,rs,rfl,by rw[aU,e3];exact congrArg some e4,?_⟩;rcases e1 with⟨_,e1⟩|⟨_,e1',e1⟩
   ·exact .inl (fin _ e1)
   ·exact .inr ⟨e1',fin _ e1⟩
theorem bEk[YL]{kd:KD}{K:XS->Option R}{r:R}(hy:s.er.ev yo=vy.er)(hz:s.er.ev zo=vz.er)(h:I2 s kd vy vz K a=some r)(hK:∀s',K s'=some r->KP s'.er):vh s.er kd yo zo KP a.er:=by
 unfold I2 at h;split at h
 ·rename_i hd;split at h
  ·rename_i wr K0 V es hole i hl;split at h
   ·rename_i y hb hkey;rw[μ,μ]at hb;obtain⟨⟨hk,hkd⟩,hio⟩:=hb;have hkd:=Er hkd;subst hkd;have ey:=Ng hkey;refine⟨by rw[hy,ey];exact N5 hk y,?_⟩;have:=Tz hk hl hio h hK hz;rw[hy,ey];exact this
   ·cases h
  ·cases h
 ·cases h
def QH{α:Type}[DecidableEq α](y:α):Option (Hd×Option α×List α)->Option (Hd×Option α×List α)
 |none=>none
 |some (hi,_,rem)=>some (hi,none,FO rem y)
def bS6(s:XS)(kd:KD)(vy:XV)(K:XS->Option R):XV->Option R
 |.mref h=>match s.lk h with
  |some (.mp false K0 V es none i)=>match yV K0&&ux K0.kd kd,zv K0 vy with
   |true,some y=>K (s.ba h (some (.mp false K0 V (PA es y) none (QH y i))))
   |_,_=>none
  |_=>none
 |_=>none
def bTa(s:XS)(kd:KD)(dst:Option Nat)(K:XS->Option R):XV->Option R
 |.mref h=>match s.lk h with
  |some (.mp wr K0 V es hole i)=>match ux K0.kd kd&&(!wr||(i.isNone&&hole.isNone))with
   |true=>K ((s.ba h (some (.mp wr K0 V es hole (some (.O s.own.length,none,es.map (·.1)))))).put dst (.itr h (.O s.own.length)) [.it] [])
   |false=>none
  |_=>none
 |_=>none
def bSh(s:XS)(kd:KD)(z:AV)(k:Nat)(ok:Bool)(vy:XV)(dst:Option Nat)(K:XS->Option R):XV->Option R
 |.mref h=>match ok,s.lk h with
  |false,some (.mp wr K0 (.o t) es none i)=>match yV K0&&ux K0.kd kd&&ou [z] [.D (.L [])]&&aaa t.n k&&D6 wr i,zv K0 vy with
   |true,some y=>K ((s.ba h (some (.mp wr K0 (.o t) es (some y) i))).put dst (.slw (.O s.own.length) t ((gX es y).getD []).length) [.row wr t ((gX es y).getD [])] [])
   |_,_=>none
  |_,_=>none
 |_=>none
def bS5(s:XS)(dst:Option Nat)(K:XS->Option R):XV->Option R
 |.itr h hi=>match s.lk h,s.lk hi with
  |some (.mp true K0 (.o t) es none (some (hi',some cur,rem))),some _=>match yV K0&&hi.j9 hi' with
   |true=>az (¬cur∈rem)<|bc (gX es cur) fun v=>K ((s.ba h (some (.mp true K0 (.o t) es none (some (hi,none,rem))))).put dst (.cn [s8 K0 cur,.slw (.O s.own.length) t v.length]) [.row true t v] [])
   |false=>none
  |_,_=>none
 |_=>none
end
section
variable{R:Type}
def IP(vr:Hd->Option Nat)(s:XS):Nat->List (Option XB)->List (Option Hd)->List (Option Hd)
 |_,[],l=>l
 |i,m::r,l=>IP vr s (i+1) r (match GI l i,m with
  |some h,some (.box ms)=>match s.lk h with
   |some (.box cs)=>Bz vr ms cs l
   |_=>l
  |_,_=>l)
def I6:List (Option Hd)->Option (List Hd)
 |[]=>some []
 |some h::r=>match I6 r with
  |some l=>some (h::l)
  |none=>none
 |none::_=>none
def CN:List Hd->Bool
 |[]=>true
 |h::r=>!(gk h r)&&CN r
theorem N4:∀{l:List Hd},CN l=true->l.Nodup
 |[],_=>List.nodup_nil
 |h::r,e=>by unfold CN at e;rw[μ,aaY]at e;exact abk.2 ⟨fun q=>(by rw[vQ.2 q]at e;cases e.1),N4 e.2⟩
def tv(s:XS):List Hd->List (Option XB)
 |[]=>[]
 |h::r=>s.lk h::tv s r
theorem Nn[YL](s:XS):∀hs:List Hd,du (tv s hs)=hs.map s.er.lk
 |[]=>rfl
 |h::r=>by show(s.lk h).map XB.er::du (tv s r)=s.er.lk h::r.map s.er.lk;rw[aU,Nn s r]
theorem Jw(s:XS):∀(hs:List Hd) (i:Nat),bN (tv s hs) i=(hs[i]?).bind s.lk
 |[],_=>by simp[tv,bN]
 |h::r,0=>rfl
 |h::r,i+1=>by show bN (tv s r) i=_;rw[Jw s r i];simp
def Ez(s:XS):List Hd->Bool
 |[]=>true
 |h::r=>(match s.lk h with
  |some .it=>false
  |some _=>true
  |none=>false)&&Ez s r
theorem PM[YL]{s:XS}:∀{hs:List Hd},Ez s hs=true->∀h∈hs,∃b,s.lk h=some b/\b.er.qe=false
 |[],_,_,h=>by cases h
 |x::r,e,h,hh=>by
  unfold Ez at e;rw[μ]at e;rcases ω.1 hh with rfl|hh
  ·have e:=e.1;split at e
   ·cases e
   ·rename_i b hn hl;refine⟨b,hl,?_⟩;cases b with
    |it=>exact(hn rfl).elim
    |_=>rfl
   ·cases e
  ·exact PM e.2 h hh
def XB.hr:XB->List Hd
 |.box cs=>XV.p7 cs
 |_=>[]
theorem VQ[YL](b:XB):b.er.rows=b.hr:=by
 cases b with
 |box cs=>exact ES cs
 |_=>rfl
def zO(s:XS):List Hd->List Hd
 |[]=>[]
 |h::r=>(match s.lk h with
  |some b=>b.hr
  |none=>[])++zO s r
theorem K6[YL](s:XS):∀hs:List Hd,wB s.er.lk hs=zO s hs
 |[]=>rfl
 |h::r=>by
  unfold wB zO;rw[K6 s r,aU];cases s.lk h with
  |none=>rfl
  |some b=>exact congrArg (· ++_) (VQ b)
def yv(hs:List Hd):List Hd->List Hd
 |[]=>[]
 |h::r=>match gk h hs with
  |true=>yv hs r
  |false=>h::yv hs r
theorem GF(hs:List Hd):∀l:List Hd,l.filter (fun h=>decide (h∉hs))=yv hs l
 |[]=>rfl
 |h::r=>by
  rw[List.filter_cons];unfold yv;cases hq:gk h hs with
  |true=>rw[if_neg (by simp[vQ.1 hq])];exact GF hs r
  |false=>rw[if_pos (by simp only[decide_eq_true_eq];exact fun q=>by rw[vQ.2 q]at hq;cases hq),GF hs r]
def uT(ψ:Hd->Hd):List Hd->List (Option XB)->XS->XS
 |h::hs,b::bs,s=>uT ψ hs bs (s.ba h (match b with
  |some b=>some (b.cg ψ)
  |none=>none))
 |_,_,s=>s
def wa(s:XS):Hd->Prop
 |.B i=>i<s.bs.length
 |.O i=>i<s.own.length
theorem Sm{b:XB}(hl:s.lk h=some b):wa s h:=by
 cases h with
 |B i=>exact pD (l:=s.bs) hl
 |O i=>exact pD (l:=s.own) hl
theorem Zf[YL](hl:wa s h)(b:Option XB):(s.ba h b).er=s.er.ba h (b.map XB.er):=by
 cases h with
 |B i=>
  refine an.ext' (fun _=>rfl) (fun j=>?_) (fun _=>rfl) rfl;show(bN (wF s.bs i b) j).map XB.er=if j=i then b.map XB.er else(bN s.bs j).map XB.er
  rw[nJ _ _ _ _ hl];split<;>rfl
 |O i=>
  refine an.ext' (fun _=>rfl) (fun _=>rfl) (fun j=>?_) (zA _ _ _);show(bN (wF s.own i b) j).map XB.er=if j=i then b.map XB.er else(bN s.own j).map XB.er
  rw[nJ _ _ _ _ hl];split<;>rfl
theorem Vq{h':Hd}(hl:wa s h')(b:Option XB):wa (s.ba h b) h':=by
 cases h with
 |B i=>cases h' with
  |B j=>show j<(wF s.bs i b).length;rw[zA];exact hl
  |O j=>exact hl
 |O i=>cases h' with
  |B j=>exact hl
  |O j=>show j<(wF s.own i b).length;rw[zA];exact hl
theorem J4[YL](ψ:Hd->Hd):∀(hs:List Hd) (bs:List (Option XB)) (s:XS),(∀h∈hs,wa s h)->(uT ψ hs bs s).er=cT s.er ψ hs (du bs)
 |[],bs,s,_=>by unfold uT cT;rfl
 |h::hs,[],s,_=>by unfold uT cT;rfl
 |h::hs,b::bs,s,hr=>by
  have h1:=hr h aap;show(uT ψ hs bs (s.ba h _)).er=cT (s.er.ba h ((b.map XB.er).map (bn.cg ψ))) ψ hs (du bs);rw[J4 ψ hs bs _ (fun x hx=>Vq (hr x (aab _ hx)) _),Zf h1];cases b with
  |none=>rfl
  |some b=>
   show cT (s.er.ba h (some (b.cg ψ).er)) ψ hs (du bs)=_;rw[GO];rfl
def Ca(s:XS)(hs:List Hd)(vs:List XV)(dst:Option Nat)(o:XS)(bl:List XB):XS:=
 (uT (bU hs s.own.length) hs o.bs (s.put none .un [] (yv hs (nf s (XV.p7 vs++zO s hs))))).put dst ((XV.val o.env).cg (bU hs s.own.length)) (bl.map (XB.cg (bU hs s.own.length))) []
theorem YV(hl:wa s h)(fz:List Hd):wa (s.put none .un [] fz) h:=by
 cases h with
 |B i=>
  show i<(match fz with|[]=>s.bs|fz=>nn .B fz 0 s.bs).length;cases fz with
  |nil=>exact hl
  |cons x r=>show i<(nn .B (x::r) 0 s.bs).length;rw[yL];exact hl
 |O i=>
  show i<((match fz with|[]=>s.own|fz=>nn .O fz 0 s.own)++([]:List XB).map some).length;rw[ε];cases fz with
  |nil=>exact aa6 hl (abJ _ _)
  |cons x r=>
   show i<(nn .O (x::r) 0 s.own).length+_;rw[yL];exact aa6 hl (abJ _ _)
theorem Yj[YL](hr:∀h∈hs,wa s h)(vs:List XV)(dst:Option Nat)(o:XS)(bl:List XB):(Ca s hs vs dst o bl).er=hH s.er hs (XV.cz vs) dst (XV.val o.env).er (du o.bs) (bl.map XB.er):=by
 have e:pe s.er.lk hs (XV.cz vs)=yv hs (nf s (XV.p7 vs++zO s hs)):=by unfold pe;rw[GF,xj,K6,sD]
 unfold Ca hH;rw[eS,J4 _ _ _ _ (fun h hh=>YV (hr h hh) _),eS,DI,O6,e];rfl
def Oy(s:XS)(hs:List Hd)(vs:List XV)(dst:Option Nat)(K:XS->Option R)(o:XS):Option R:=match aaa o.bs.length hs.length,BL o.own,o.pv with
 |true,some bl,none=>K (Ca s hs vs dst o bl)
 |_,_,_=>none
def De(s:XS)(g:br)(vs:List XV)(dst:Option Nat)(K:XS->Option R)(hs:List Hd):Option R:=match CN hs&&sn s.own.length hs&&Ez s hs&&xw 0 g.ent.env vs,g.ent.own with
 |true,[]=>EH s (np hs) g.ent (vC vs) (tv s hs) [] fun v=>bc (iz g.ent.cj g.F v) fun r=>Cg g.out r (Oy s hs vs dst K)
 |_,_=>none
def GL(T:List br)(s:XS)(vs:List XV)(dst:Option Nat)(K:XS->Option R):XV->Option R
 |.clo fn caps=>match yf T fn (vs++caps)with
  |some g=>match I6 (IP Ci s 0 g.ent.bs (AR Ci (vC (vs++caps)) g.ent.env (A9 g.ent.bs)))with
   |some hs=>De s g (vs++caps) dst K hs
   |none=>none
  |none=>none
 |_=>none
theorem UP:∀h h' b,np hs h=some h'->s.lk h=some b->match h' with|.B i=>bN (tv s hs) i=some b|.O i=>bN [] i=some b:=fun h h' b e hl=>by have e:(pz h hs 0).map Hd.B=some h':=e;rw[ι]at e;obtain⟨i,hi,rfl⟩:=e;obtain⟨_,h2⟩:=CL hi;show bN (tv s hs) i=some b;rw[Jw,show hs[i]?=some h from h2];exact hl
theorem L5[YL]{g:br}{K:XS->Option R}{r:R}{hds:List Hd}(h:De s g vs dst K hds=some r):
  ∃v rr bl,iz g.ent.cj g.F v=some rr/\(bl.map XB.er).map some=du (fS g.out rr).own/\(fS g.out rr).pv=none/\(g.ent.fill v).env.map (fun p=>p.2.er)=AV.bq s.er.lk (np hds) (XV.cz vs)/\uN s.er.lk hds=du (g.ent.fill v).bs/\
   hds.Nodup/\sn s.er.nx hds=true/\(∀h∈hds,(s.er.lk h).isSome=true)/\(∀h∈hds,(s.er.lk h).any bn.qe=false)/\(du (fS g.out rr).bs).length=hds.length/\
   K (Ca s hds vs dst (fS g.out rr) bl)=some r/\(Ca s hds vs dst (fS g.out rr) bl).er=hH s.er hds (XV.cz vs) dst (XV.val (fS g.out rr).env).er (du (fS g.out rr).bs) (bl.map XB.er):=by
 unfold De at h;split at h
 case h_2=>cases h
 rename_i hb ho;rw[μ,μ,μ]at hb;obtain⟨⟨⟨b1,b2⟩,b3⟩,b4⟩:=hb;obtain⟨v,h,e1,e2,_⟩:=Kt UP h;obtain⟨rr,hr,h⟩:=Is h;have h:=Gm h;unfold Oy at h;split at h
 case h_2=>cases h
 rename_i bl hlen hbl hpv;have hlen:=θ hlen;have hargs:(g.ent.fill v).env.map (fun p=>p.2.er)=AV.bq s.er.lk (np hds) (XV.cz vs):=by have:=congrArg (fun l=>l.map (fun p:Nat×AV=>p.2)) e1;simp only[abI]at this;rw[Fi,<-FW (f:=fun v=>AV.conv s.er.lk (np hds) v.er) b4 (ev:=vC vs) fun i _=>by rw[aan]];exact this
 have hh:uN s.er.lk hds=du (g.ent.fill v).bs:=by rw[e2,Nn,abI];rfl
 have hlive:=PM b3;refine⟨v,rr,bl,hr,Ik hbl,hpv,hargs,hh,N4 b1,b2,fun x hx=>?_,fun x hx=>?_,?_,h,?_⟩
 ·obtain⟨b,q,_⟩:=hlive x hx;rw[aU,q];rfl
 ·obtain⟨b,q,q2⟩:=hlive x hx;rw[aU,q];exact q2
 ·show(List.map _ _).length=_;rw[κ];exact hlen
 ·rw[Yj (fun x hx=>by obtain⟨b,q,_⟩:=hlive x hx;exact Sm q)]
theorem bCm[YL]{T:List br}(hT:kU P T){K:XS->Option R}{r:R}(h:GL T s vs dst K vf=some r)(hK:∀s',K s'=some r->KP s'.er):Bp P s.er dst KP (XV.cz vs) vf.er:=by
 unfold GL at h;split at h
 case h_2=>cases h
 rename_i fn caps;split at h
 case h_2=>cases h
 rename_i g hg;obtain⟨hs,hfn⟩:=Eb hT hg;split at h
 case h_2=>cases h
 rename_i hds _;obtain⟨v,rr,bl,hr,hbl,hpv,hargs,hh,c1,c2,c3,c4,c5,hk,he⟩:=L5 h;have hcall:=hs v rr hr (bl.map XB.er) hbl;unfold tj at hcall;rw[hpv]at hcall;rw[hargs,hfn,<-hh,qF]at hcall;refine⟨hds,_,_,_,c1,c2,c3,c4,c5,hcall,?_⟩;have:=hK _ hk;rw[he,qF]at this;exact this
structure fv where
 ro:RO
 ty:Option Ty
def BI(T:List br)(s:XS)(o:fv)(K:XS->Option R):Option R:=
 match o.ro.op with
 |.store sz a x=>w1 s a fun va=>w1 s x fun vx=>match Y0 vx va with
  |true=>Im s sz vx K va
  |false=>E8 s sz vx K va
 |.appE k bytes x y=>w1 s x fun vx=>w1 s y fun vy=>Fg s o.ty k bytes vy o.ro.dst K vx
 |.app k bytes x y=>w1 s x fun vx=>w1 s y fun vy=>GZ s o.ty k bytes vy (fun v nbs fz=>K (s.put o.ro.dst v nbs fz)) vx
 |.callE f args=>w1 s f fun vf=>wL s args fun vs=>GL T s vs o.ro.dst K vf
 |.clr k zs x=>w1 s x (IV s k zs o.ro.dst K)
 |.cpy k x y=>w1 s x fun vx=>w1 s y fun vy=>Fp s k vy o.ro.dst K vx
 |.mtake kd z k ok x y=>none
 |.mput kd x y z=>w1 s x fun vx=>w1 s y fun vy=>w1 s z fun vz=>I2 s kd vy vz K vx
 |.mdel kd x y=>none
 |.rng kd x=>none
 |.entT x=>none
 |op=>xp T s o.ty op fun v nbs fz=>K (s.put o.ro.dst v nbs fz)
theorem Ie[YL]{T:List br}(hT:kU P T){o:fv}{K:XS->Option R}{r:R}(h:BI T s o K=some r)(hK:∀s',K s'=some r->KP s'.er):pE P s.er o.ro KP:=by
 have hput:∀v nbs fz,K (s.put o.ro.dst v nbs fz)=some r->KP (s.er.put o.ro.dst v.er (nbs.map XB.er) fz):=fun v nbs fz h=>by rw[<-eS];exact hK _ h
 unfold BI at h;unfold pE;split at h
 ·rename_i sz a x e;obtain⟨h,e1⟩:=aP h;obtain⟨h,e2⟩:=aP h;rw[e];show pU s.er sz (s.er.ev x) KP (s.er.ev a)\/pU (s.er.put none .un [] (ja s.er.lk (AV.rows (s.er.ev x)))) sz (AV.conv s.er.lk (fun _=>none) (s.er.ev x)) KP (s.er.ev a);split at h
  ·right;rw[e1];exact UG e2 h hK
  ·left;rw[e1];exact Ud e2 h hK
 ·rename_i k bytes x y e;obtain⟨h,e1⟩:=aP h;obtain⟨h,e2⟩:=aP h;rw[e];show sY s.er k bytes y o.ro.dst KP (s.er.ev x);rw[e1];exact VB e2 h hK
 ·rename_i k bytes x y e;obtain⟨h,e1⟩:=aP h;obtain⟨h,e2⟩:=aP h;rw[e];show∃es,s.er.ev x=.fl es/\_;rw[e1];exact bJd e2 h (KP:=fun a nbs fz=>KP (s.er.put o.ro.dst a nbs fz)) hput
 ·rename_i f args e;obtain⟨h,e1⟩:=aP h;obtain⟨vs,h,e2⟩:=wc h;rw[e];show Bp P s.er o.ro.dst KP (args.map s.er.ev) (s.er.ev f);rw[e1,e2];exact bCm hT h hK
 ·rename_i k zs x e;obtain⟨h,e1⟩:=aP h;rw[e];show zy s.er k zs o.ro.dst KP (s.er.ev x);rw[e1];exact Tc h hK
 ·rename_i k x y e;obtain⟨h,e1⟩:=aP h;obtain⟨h,e2⟩:=aP h;rw[e];show ze s.er k y o.ro.dst KP (s.er.ev x);rw[e1];exact ZK e2 h hK
 ·cases h
 ·rename_i kd x y z e;obtain⟨h,e1⟩:=aP h;obtain⟨h,e2⟩:=aP h;obtain⟨h,e3⟩:=aP h;rw[e];show vh s.er kd y z KP (s.er.ev x);rw[e1];exact bEk e2 e3 h hK
 ·cases h
 ·cases h
 ·cases h
 ·rename_i n1 n2 n3 n4 n5 n6 n7 n8 n9 n10 n11;have:=Uj hT h (KP:=fun a nbs fz=>KP (s.er.put o.ro.dst a nbs fz)) hput;split
  ·rename_i e;exact absurd e (n1 _ _ _)
  ·rename_i e;exact absurd e (n2 _ _ _ _)
  ·rename_i e;exact absurd e (n4 _ _)
  ·rename_i e;exact absurd e (n5 _ _ _)
  ·rename_i e;exact absurd e (n6 _ _ _)
  ·rename_i e;exact absurd e (n7 _ _ _ _ _ _)
  ·rename_i e;exact absurd e (n8 _ _ _ _)
  ·rename_i e;exact absurd e (n9 _ _ _)
  ·rename_i e;exact absurd e (n10 _ _)
  ·rename_i e;exact absurd e (n11 _)
  ·exact this
def pO(s:XS)(t:Nat)(q:Bool):XS:={s with env:=(t,.d .b q)::s.env}
theorem kS[YL]{t:Nat}{c:Bool}(h:aR s.env t=.d .b c)(e:c=q):(pO s t q).er=s.er:=by
 subst e;refine an.ext' (fun i=>?_) (fun _=>rfl) (fun _=>rfl) rfl;show(if aaa i t=true then XV.d .b c else aR s.env i).er=(aR s.env i).er;by_cases hi:i=t
 ·rw[if_pos (by rw[abn];exact hi),hi,h]
 ·rw[if_neg (by rw[abn];exact hi)]
def o9(T:List br):List fv->XS->(XS->Option R)->Option R
 |[],s,K=>K s
 |o::r,s,K=>match o.ro.guard with
  |none=>BI T s o fun s'=>o9 T r s' K
  |some (t,want)=>match aR s.env t with
   |.d .b c=>match want with
    |true=>bf c (BI T (pO s t true) o fun s'=>o9 T r s' K) (o9 T r ((pO s t false).put o.ro.dst .un [] []) K)
    |false=>bf c (o9 T r ((pO s t true).put o.ro.dst .un [] []) K) (BI T (pO s t false) o fun s'=>o9 T r s' K)
   |.un=>o9 T r (s.put o.ro.dst .un [] []) K
   |_=>none
theorem lQ[YL]{P:Program}{T:List br}(hT:kU P T){r:R}:∀{os:List fv} {s:XS} {K:XS->Option R},o9 T os s K=some r->∀{KP:an->Prop},(∀s',K s'=some r->KP s'.er)->lH P (os.map fv.ro) s.er KP
 |[],s,K,h,KP,hK=>hK _ h
 |o::os,s,K,h,KP,hK=>by
  unfold o9 at h;show lH P (o.ro::os.map fv.ro) s.er KP;unfold lH;split at h
  ·rename_i hg;rw[hg];exact Ie hT h fun s' h=>lQ hT h hK
  ·rename_i t want hg;rw[hg];split at h
   ·rename_i c hc;have ht:s.er.env t=.D (.B c):=by show(aR s.env t).er=_;rw[hc];rfl
    show match s.er.env t with
     |.D (.B c)=>(c=want->_)/\(¬c=want->_)
     |.D (.C (.tuple _))=>_
     |_=>False
    rw[ht];split at h
    ·rcases uu h with⟨e,h⟩|⟨e,h⟩
     ·have:=Ie hT h (KP:=fun s'=>lH P (os.map fv.ro) s' KP) fun s' h=>lQ hT h hK;rw[kS hc e]at this;exact⟨fun _=>this,fun h=>absurd e h⟩
     ·have:=lQ hT h hK;rw[eS,kS hc e]at this;exact⟨fun h=>aaU (e.symm.trans h),fun _=>this⟩
    ·rcases uu h with⟨e,h⟩|⟨e,h⟩
     ·have:=lQ hT h hK;rw[eS,kS hc e]at this;exact⟨fun h=>aaU (e.symm.trans h),fun _=>this⟩
     ·have:=Ie hT h (KP:=fun s'=>lH P (os.map fv.ro) s' KP) fun s' h=>lQ hT h hK;rw[kS hc e]at this;exact⟨fun _=>this,fun h=>absurd e h⟩
   ·rename_i hc;have ht:s.er.env t=.D (.C undef):=by show(aR s.env t).er=_;rw[hc];rfl
    have:=lQ hT h hK;rw[eS]at this;show match s.er.env t with
     |.D (.B c)=>(c=want->_)/\(¬c=want->_)
     |.D (.C (.tuple _))=>_
     |_=>False
    rw[ht];exact this
   ·cases h
def Cz:Option XB->Option XB->Bool
 |some (.arr _ n _ _),some (.arr _ m _ _)=>aaa n m
 |some (.rb _ t _),some (.rb _ t' _)=>t.beq t'
 |_,_=>false
theorem Tf[YL]{c:Option XB}(h:Cz b c=true):dv false (b.map XB.er) (c.map XB.er):=by
 unfold Cz at h;split at h
 ·rename_i mt n k x mt' m k' y;have h:=θ h;subst h;show ni (some (bn.row mt' 1 (y.l.map (ib k'))))=ni (some (bn.row mt 1 (x.l.map (ib k))));unfold ni;simp only[κ,x.len,y.len]
 ·rename_i mt t x mt' t' y;obtain rfl:=Ty.fg h;show ni (some (bn.row mt' 1 (iq (t.ds y))))=ni (some (bn.row mt 1 (iq (t.ds x))));unfold ni;simp only[Aw,Ty.fk]
 ·cases h
def Db(s s':XS):List Hd->Bool
 |[]=>true
 |h::r=>Cz (s.lk h) (s'.lk h)&&Db s s' r
theorem Qi[YL]{s s':XS}:∀{hs:List Hd},Db s s' hs=true->yu false hs s.er s'.er
 |[],_=>fun _ h=>by cases h
 |h::r,e=>by
  have e:(Cz (s.lk h) (s'.lk h)&&Db s s' r)=true:=e;rw[μ]at e;intro x hx;rcases ω.1 hx with rfl|hx
  ·rw[aU,aU];exact Tf e.1
  ·exact Qi e.2 x hx
def sf:XV->Option Hd
 |.apt h _=>some h
 |.asl h _ _=>some h
 |.rpt h _=>some h
 |.rpa h _ _=>some h
 |.rsl h _ _ _=>some h
 |.ptr h _=>some h
 |.pa h _ _=>some h
 |.ept h _ _ _=>some h
 |.epa h _ _ _ _=>some h
 |.slw h _ _=>some h
 |.sl h _ _ _=>some h
 |_=>none
theorem zq[YL](e:sf v=some h):v.er.mu=some h:=by unfold sf at e;split at e<;>first|exact e|cases e
def HO(hs:List Hd)(s:XS)(op:bu):Bool:=match op.mw with
 |none=>true
 |some x=>match sf (s.ev x)with
  |some h=>gk h hs
  |none=>Ec x
theorem Yc[YL](e:sf v=none):v.er.mu=none:=by
 cases v<;>first|rfl|(cases e;done)|skip
 rename_i t x;cases t<;>rfl
theorem Gx[YL]{op:bu}(h:HO hs s op=true):B0 hs op s.er.ev:=by
 unfold HO at h;unfold B0;split at h
 ·rename_i e;rw[e];trivial
 ·rename_i x e;rw[e];split at h
  ·rename_i hd hx;intro h' e';rw[ui s rfl,zq hx]at e';cases e';exact vQ.1 h
  ·rename_i hx;intro h' e';rw[ui s rfl,Yc hx]at e';cases e'
def CH(s:XS)(x:Operand)(K:List Hd):List Hd:=match sf (s.ev x)with
 |some h=>match gk h K with
  |true=>K
  |false=>h::K
 |none=>K
def Hc:List XV->Nat->Option XV
 |[],_=>none
 |v::_,0=>some v
 |.d t _::r,off+1=>match ac0 t.n (off+1)with
  |true=>Hc r (off+1-t.n)
  |false=>none
 |_::r,off+1=>Hc r off
def Wc(s:XS)(ag:Option Nat)(dst:Option Nat)(x:Operand):XS:=match ag,s.ev x with
 |none,.ptr h off=>match s.lk h with
  |some (.box cs)=>match Hc cs off with
   |some v=>s.put dst v [] []
   |none=>s
  |_=>s
 |_,_=>s
def yS(s:XS):List fv->List Hd
 |[]=>[]
 |o::r=>match o.ro.op with
  |.mv x=>yS (s.put o.ro.dst (s.ev x) [] []) r
  |.nilcS x=>CH s x (yS (s.put o.ro.dst (s.ev x) [] []) r)
  |.loadS ag x=>CH s x (yS (Wc s ag o.ro.dst x) r)
  |.faddrS _ x=>CH s x (yS (s.put o.ro.dst (s.ev x) [] []) r)
  |.iaddr _ x _=>yS (s.put o.ro.dst (s.ev x) [] []) r
  |.faddr _ x=>yS (s.put o.ro.dst (s.ev x) [] []) r
  |.iaddrA _ _ x _=>yS (s.put o.ro.dst (s.ev x) [] []) r
  |op=>match op.mw with
   |some x=>CH s x (yS s r)
   |none=>yS s r
def EG(v w:XV)(K:Option R):Option R:=match v,w with
 |.d t x,.d t' y=>match t'.j1 t y with
  |some y=>az (x=y) K
  |none=>none
 |.slw h t n,.slw h' t' n'=>match h.j9 h',t.beq t' with
  |true,true=>az (n=n') K
  |_,_=>none
 |.ptr h o,.ptr h' o'=>match h.j9 h',aaa o o' with
  |true,true=>K
  |_,_=>none
 |.apt h o,.apt h' o'=>match h.j9 h',aaa o o' with
  |true,true=>K
  |_,_=>none
 |.rpt h o,.rpt h' o'=>match h.j9 h',aaa o o' with
  |true,true=>K
  |_,_=>none
 |.mref h,.mref h'=>match h.j9 h' with
  |true=>K
  |false=>none
 |.fln _,.fln _=>K
 |.nl _,.nl _=>K
 |.sc,.sc=>K
 |.c x,.c y=>match AT x y with
  |true=>K
  |false=>none
 |_,_=>none
theorem K1[YL]{w:XV}{K:Option R}{r:R}(h:EG v w K=some r):(v.fc=w.fc/\v.er=w.er)/\K=some r:=by
 unfold EG at h;split at h
 ·split at h
  ·rename_i y hy;obtain⟨e,rfl⟩:=Ty.cq hy;subst e;obtain⟨rfl,h⟩:=bB h;exact⟨⟨rfl,rfl⟩,by assumption⟩
  ·cases h
 ·split at h
  ·rename_i h1 h2;obtain rfl:=Hd.dn.1 h1;obtain rfl:=Ty.fg h2
   replace h:=bB h
   obtain⟨e,h⟩:=h;subst e;exact⟨⟨rfl,rfl⟩,h⟩
  ·cases h
 ·split at h
  ·rename_i h1 h2;obtain rfl:=Hd.dn.1 h1;obtain rfl:=θ h2;exact⟨⟨rfl,rfl⟩,h⟩
  ·cases h
 ·split at h
  ·rename_i h1 h2;obtain rfl:=Hd.dn.1 h1;obtain rfl:=θ h2;exact⟨⟨rfl,rfl⟩,h⟩
  ·cases h
 ·split at h
  ·rename_i h1 h2;obtain rfl:=Hd.dn.1 h1;obtain rfl:=θ h2;exact⟨⟨rfl,rfl⟩,h⟩
  ·cases h
 ·split at h
  ·rename_i h1;obtain rfl:=Hd.dn.1 h1;exact⟨⟨rfl,rfl⟩,h⟩
  ·cases h
 ·exact⟨⟨rfl,rfl⟩,h⟩
 ·exact⟨⟨rfl,rfl⟩,h⟩
 ·exact⟨⟨rfl,rfl⟩,h⟩
 ·split at h
  ·rename_i h1;obtain rfl:=MQ h1;exact⟨⟨rfl,rfl⟩,h⟩
  ·cases h
 ·cases h
def DK:List XV->List XV->Option R->Option R
 |[],[],K=>K
 |v::vs,w::ws,K=>EG v w (DK vs ws K)
 |_,_,_=>none
theorem L1[YL]{r:R}:∀{vs ws:List XV} {K:Option R},DK vs ws K=some r->XV.cz vs=XV.cz ws/\K=some r
 |[],[],_,h=>⟨rfl,h⟩
 |v::vs,w::ws,K,h=>by
  obtain⟨⟨_,e⟩,h⟩:=K1 (K:=DK vs ws K) h;obtain⟨e2,h⟩:=L1 h;exact⟨by show v.er::XV.cz vs=w.er::XV.cz ws;rw[e,e2],h⟩
 |[],_::_,_,h=>by cases h
 |_::_,[],_,h=>by cases h
def IU(v w:XV)(K:Option R):Option R:=match v,w with
 |.clo f vs,.clo f' ws=>match aaa f f' with
  |true=>DK vs ws K
  |false=>none
 |v,w=>EG v w K
theorem VS[YL]{w:XV}{K:Option R}{r:R}(h:IU v w K=some r):v.fc=w.fc/\K=some r:=by
 unfold IU at h;split at h
 ·split at h
  ·rename_i hf;obtain rfl:=θ hf;obtain⟨e,h⟩:=L1 h;exact⟨by show[AV.clo _ (XV.cz _)]=[AV.clo _ (XV.cz _)];rw[e],h⟩
  ·cases h
 ·obtain⟨⟨e,_⟩,h⟩:=K1 h;exact⟨e,h⟩
def Eh:List XV->List XV->Option R->Option R
 |[],[],K=>K
 |v::vs,w::ws,K=>IU v w (Eh vs ws K)
 |_,_,_=>none
theorem Jy[YL]{r:R}:∀{vs ws:List XV} {K:Option R},Eh vs ws K=some r->XV.bz vs=XV.bz ws/\K=some r
 |[],[],_,h=>⟨rfl,h⟩
 |v::vs,w::ws,K,h=>by
  obtain⟨e,h⟩:=VS (K:=Eh vs ws K) h;obtain⟨e2,h⟩:=Jy h;exact⟨by show v.fc++XV.bz vs=w.fc++XV.bz ws;rw[e,e2],h⟩
 |[],_::_,_,h=>by cases h
 |_::_,[],_,h=>by cases h
def IX(b c:Option XB)(K:Option R):Option R:=match b,c with
 |some (.box vs),some (.box ws)=>Eh vs ws K
 |some (.row _ t xs),some (.row _ t' ys)=>match(Ty.sl t').j1 (.sl t) ys with
  |some ys=>az (xs=ys) K
  |none=>none
 |some (.arr _ n k x),some (.arr _ n' k' y)=>match(Ty.ar n' k').j1 (.ar n k) y with
  |some y=>az (x=y) K
  |none=>none
 |some (.rb _ t x),some (.rb _ t' y)=>match t'.j1 t y with
  |some y=>az (x=y) K
  |none=>none
 |_,_=>none
theorem bI5[YL]{c:Option XB}{K:Option R}{r:R}(h:IX b c K=some r):(b.map XB.er).map bn.kf=(c.map XB.er).map bn.kf/\K=some r:=by
 unfold IX at h;split at h
 ·obtain⟨e,h⟩:=Jy h;exact⟨congrArg (fun l=>some (bn.box l)) e,h⟩
 ·split at h
  ·rename_i ys hy;obtain⟨e,hy⟩:=Ty.cq hy;cases e;cases hy
   replace h:=bB h
   obtain⟨e,h⟩:=h;cases e;exact⟨rfl,h⟩
  ·cases h
 ·split at h
  ·rename_i y hy;obtain⟨e,hy⟩:=Ty.cq hy;cases e;cases hy
   replace h:=bB h
   obtain⟨e,h⟩:=h;cases e;exact⟨rfl,h⟩
  ·cases h
 ·split at h
  ·rename_i y hy;obtain⟨e,hy⟩:=Ty.cq hy;subst e;cases hy
   replace h:=bB h
   obtain⟨e,h⟩:=h;cases e;exact⟨rfl,h⟩
  ·cases h
 ·cases h
def Cs(s s':XS):List Hd->Option R->Option R
 |[],K=>K
 |h::r,K=>IX (s.lk h) (s'.lk h) (Cs s s' r K)
theorem Kh[YL]{s s':XS}{r:R}:∀{hs:List Hd} {K:Option R},Cs s s' hs K=some r->yu true hs s.er s'.er/\K=some r
 |[],_,h=>⟨fun _ h=>(by cases h),h⟩
 |x::hs,K,h=>by
  obtain⟨e,h⟩:=bI5 (K:=Cs s s' hs K) h;obtain⟨e2,h⟩:=Kh h;refine⟨fun y hy=>?_,h⟩;rcases ω.1 hy with rfl|hy
  ·show(s'.er.lk y).map bn.kf=(s.er.lk y).map bn.kf;rw[aU,aU,e]
  ·exact e2 y hy
def Fk(ld:Bool)(s s':XS)(hs:List Hd)(K:Option R):Option R:=match ld with
 |true=>Cs s s' hs K
 |false=>match Db s s' hs with
  |true=>K
  |false=>none
theorem Qs[YL]{ld:Bool}{K:Option R}{r:R}(h:Fk ld s s' hs K=some r):yu ld hs s.er s'.er/\K=some r:=by
 unfold Fk at h;split at h
 ·exact Kh h
 ·split at h
  ·rename_i e;exact⟨Qi e,h⟩
  ·cases h
def B7(s:XS)(o:fv)(K:XS->Option R):Option R:=match o.ro.op with
 |.loadS ag x=>w1 s x fun v=>match sf v with
  |some _=>DP s ag (fun a=>K (s.put o.ro.dst a [] [])) v
  |none=>none
 |.faddrS off x=>w1 s x fun v=>match sf v,uP s v with
  |some _,true=>Dj off (fun a=>K (s.put o.ro.dst a [] [])) v
  |_,_=>none
 |.lenS str x=>w1 s x fun v=>match sf v,uP s v,yg str v with
  |some _,true,some m=>K (s.put o.ro.dst (.d (.i .i64) (m:Int)) [] [])
  |_,_,_=>none
 |.sllS k x lo hi mx=>w1 s x fun v=>match sf v,uP s v with
  |some _,true=>zn s k lo hi mx (fun a=>K (s.put o.ro.dst a [] [])) v
  |_,_=>none
 |.nilcS x=>w1 s x fun v=>match sf v,uP s v with
  |some _,true=>Ed (fun a=>K (s.put o.ro.dst a [] [])) v
  |_,_=>none
 |_=>none
theorem Dq(s:XS)(dst:Option Nat)(v:XV)(h:Hd):(s.put dst v [] []).lk h=s.lk h:=by
 cases h with
 |B i=>rfl
 |O i=>show bN (s.own++[]) i=bN s.own i;rw[aag]
theorem FL[YL]{o:fv}{K:XS->Option R}{r:R}(h:B7 s o K=some r)(hK:∀s',(∀h,s'.lk h=s.lk h)->K s'=some r->KP s'.er):pE P s.er o.ro KP:=by
 have hput:∀v,K (s.put o.ro.dst v [] [])=some r->KP (s.er.put o.ro.dst v.er [] []):=fun v h=>by have:=hK _ (Dq s _ v) h;rw[eS]at this;exact this
 unfold B7 at h;split at h
 ·rename_i ag x e;obtain⟨h,e1⟩:=aP h;split at h
  ·rename_i hd hh;unfold pE;rw[e];show(s.er.ev x).mu.isSome=true/\rO s.er.lk ag _ (s.er.ev x);rw[e1,zq hh];exact⟨rfl,Gg h fun v h=>hput v h⟩
  ·cases h
 ·rename_i off x e;obtain⟨h,e1⟩:=aP h;split at h
  ·rename_i hd hh hl;unfold pE;rw[e];show(s.er.ev x).mu.isSome=true/\AV.live s.er.lk (s.er.ev x)=true/\_;rw[e1,zq hh];exact⟨rfl,iV hl,K7 h (KP:=fun a=>KP (s.er.put o.ro.dst a [] [])) fun v h=>hput v h⟩
  ·cases h
 ·rename_i str x e;obtain⟨h,e1⟩:=aP h;split at h
  ·rename_i hd m hh hl hm;unfold pE;rw[e];show(s.er.ev x).mu.isSome=true/\AV.live s.er.lk (s.er.ev x)=true/\_;rw[e1,zq hh];exact⟨rfl,iV hl,m,GY hm,hput _ h⟩
  ·cases h
 ·rename_i k x lo hi mx e;obtain⟨h,e1⟩:=aP h;split at h
  ·rename_i hd hh hl;unfold pE;rw[e];show(s.er.ev x).mu.isSome=true/\AV.live s.er.lk (s.er.ev x)=true/\mI k s.er.ev lo hi mx _ (s.er.ev x);rw[e1,zq hh];exact⟨rfl,iV hl,DU h fun v h=>hput v h⟩
  ·cases h
 ·rename_i x e;obtain⟨h,e1⟩:=aP h;split at h
  ·rename_i hd hh hl;unfold pE;rw[e];show(s.er.ev x).mu.isSome=true/\AV.live s.er.lk (s.er.ev x)=true/\_;rw[e1,zq hh];exact⟨rfl,iV hl,Qk h (KP:=fun a=>KP (s.er.put o.ro.dst a [] [])) fun v h=>hput v h⟩
  ·cases h
 ·cases h
def Fh(s:XS)(o:fv)(K:XS->Option R):Option R:=match o.ro.guard with
 |none=>B7 s o K
 |some (t,want)=>match aR s.env t with
  |.d .b c=>match want with
   |true=>bf c (B7 (pO s t true) o K) (K ((pO s t false).put o.ro.dst .un [] []))
   |false=>bf c (K ((pO s t true).put o.ro.dst .un [] [])) (B7 (pO s t false) o K)
  |.un=>K (s.put o.ro.dst .un [] [])
  |_=>none
theorem UY[YL]{o:fv}{K:XS->Option R}{r:R}(h:Fh s o K=some r)(hK:∀s',(∀h,s'.lk h=s.lk h)->K s'=some r->KP s'.er):lH P [o.ro] s.er KP:=by
 unfold Fh at h;unfold lH;split at h
 ·rename_i hg;rw[hg];exact FL h hK
 ·rename_i t want hg;rw[hg];split at h
  ·rename_i c hc;have ht:s.er.env t=.D (.B c):=by show(aR s.env t).er=_;rw[hc];rfl
   show match s.er.env t with
    |.D (.B c)=>(c=want->_)/\(¬c=want->_)
    |.D (.C (.tuple _))=>_
    |_=>False
   rw[ht];split at h
   ·rcases uu h with⟨e,h⟩|⟨e,h⟩
    ·have:=FL (P:=P) h fun s' e=>hK s' e;rw[kS hc e]at this;exact⟨fun _=>this,fun h=>absurd e h⟩
    ·have:=hK _ (fun x=>Dq (pO s t false) _ _ x) h;rw[eS,kS hc e]at this;exact⟨fun h=>aaU (e.symm.trans h),fun _=>this⟩
   ·rcases uu h with⟨e,h⟩|⟨e,h⟩
    ·have:=hK _ (fun x=>Dq (pO s t true) _ _ x) h;rw[eS,kS hc e]at this;exact⟨fun h=>aaU (e.symm.trans h),fun _=>this⟩
    ·have:=FL (P:=P) h fun s' e=>hK s' e;rw[kS hc e]at this;exact⟨fun _=>this,fun h=>absurd e h⟩
  ·rename_i hc;have ht:s.er.env t=.D (.C undef):=by show(aR s.env t).er=_;rw[hc];rfl
   show match s.er.env t with
    |.D (.B c)=>(c=want->_)/\(¬c=want->_)
    |.D (.C (.tuple _))=>_
    |_=>False
   rw[ht];have:=hK _ (fun x=>Dq s _ _ x) h;rw[eS]at this;exact this
  ·cases h
def Z1:bu->Bool
 |.loadS _ _=>true
 |.faddrS _ _=>true
 |.nilcS _=>true
 |.lenS _ _=>true
 |.sllS _ _ _ _ _=>true
 |_=>false
def En:Bool->List fv->Bool
 |true,[]=>true
 |_,_=>false
theorem Yi{l:Bool}{os:List fv}(h:En l os=true):¬(l=false\/os.map fv.ro≠[]):=by
 unfold En at h;split at h
 ·simp
 ·cases h
def yj(T:List br)(ld:Bool)(hs:List Hd)(lst:Bool):List fv->XS->(XS->Option R)->Option R
 |[],s,K=>K s
 |o::r,s,K=>match HO hs s o.ro.op with
  |true=>match Z1 o.ro.op with
   |true=>Fh s o fun s'=>yj T ld hs lst r s' K
   |false=>match o.ro.op.ht,En lst r with
    |true,false=>o9 T [o] s fun s'=>Fk ld s s' hs (yj T ld hs lst r s' K)
    |_,_=>o9 T [o] s fun s'=>yj T ld hs lst r s' K
  |false=>none
theorem Dv[YL]{P:Program}{T:List br}(hT:kU P T){ld:Bool}{hs:List Hd}{lst:Bool}{r:R}:∀{os:List fv} {s:XS} {K:XS->Option R},yj T ld hs lst os s K=some r->∀{KP:an->Prop},(∀s',K s'=some r->KP s'.er)->DG P ld hs lst (os.map fv.ro) s.er KP
 |[],s,K,h,KP,hK=>hK _ h
 |o::os,s,K,h,KP,hK=>by
  unfold yj at h;split at h
  ·rename_i e;split at h
   ·refine⟨Gx e,UY h fun s' e2 h=>⟨fun _ _ x hx=>?_,Dv hT h hK⟩⟩;rw[aU,aU,e2];exact dv.refl _ _
   ·split at h
    ·refine⟨Gx e,lQ (os:=[o]) hT h fun s' h=>?_⟩;obtain⟨e2,h⟩:=Qs h;exact⟨fun _ _=>e2,Dv hT h hK⟩
    ·rename_i hn;refine⟨Gx e,lQ (os:=[o]) hT h fun s' h=>⟨fun e1 e2=>?_,Dv hT h hK⟩⟩;cases e3:En lst os with
     |true=>exact absurd e2 (Yi e3)
     |false=>exact absurd e3 (hn e1)
  ·cases h
theorem AV.qf{ψ:Hd->Hd}:∀(a:AV),AV.flat (AV.cg ψ a)=AV.flat a:=by
 intro a;apply AV.rec (motive_1:=fun a=>AV.flat (AV.cg ψ a)=AV.flat a) (motive_2:=fun as=>AV.dj (AV.dh ψ as)=AV.dj as)
 all_goals intros
 all_goals simp_all[AV.flat,AV.cg,AV.dj,AV.dh]
def w9(T:List br)(dr:Bool):List fv->XS->(XS->Option R)->(Value->XS->Option R)->Option R
 |[],s,K,_=>K s
 |o::r,s,K,Kp=>match o.ro.op with
  |.callP f args=>match o.ro.guard with
   |none=>w1 s f fun vf=>wL s args fun vs=>HB T s vs (fun v nbs fz=>match dr,wh v,nbs with
    |false,_,_=>w9 T dr r (s.put o.ro.dst v nbs fz) K Kp
    |true,true,[]=>w9 T dr r (s.put o.ro.dst v nbs fz) K Kp
    |true,_,_=>none) (fun pv=>Kp pv (s.put none .any [] [])) vf
   |some _=>none
  |.ny x=>match o.ro.guard with
   |none=>w1 s x fun v=>match v with
    |.c (.iface t u)=>Kp (.iface t u) s
    |_=>none
   |some _=>none
  |_=>o9 T [o] s fun s'=>w9 T dr r s' K Kp
theorem zR[YL]{P:Program}{T:List br}(hT:kU P T){dr:Bool}{r:R}{Pn:Value->an->Prop}:∀{os:List fv} {s:XS} {K:XS->Option R} {Kp:Value->XS->Option R},w9 T dr os s K Kp=some r->∀{KP:an->Prop},(∀s',K s'=some r->KP s'.er)->(∀pv s',Kp pv s'=some r->Pn pv s'.er)->rQ P dr (os.map fv.ro) s.er KP Pn
 |[],s,K,_,h,KP,hK,_=>hK _ h
 |o::os,s,K,Kp,h,KP,hK,hP=>by
  unfold w9 at h;show rQ P dr (o.ro::os.map fv.ro) s.er KP Pn;unfold rQ;split at h
  ·rename_i f args e;rw[e];split at h
   ·rename_i hg;refine⟨hg,?_⟩;obtain⟨h,e1⟩:=aP h;obtain⟨vs,h,e2⟩:=wc h;obtain⟨fn,caps,h1,h2⟩:=bBg hT h (KP:=fun a nbs fz=>(dr=true->AV.flat a=true/\nbs=[])/\rQ P dr (os.map fv.ro) (s.er.put o.ro.dst a nbs fz) KP Pn) fun v nbs fz h=>by
     rw[<-eS];split at h
     ·exact⟨fun h=>aaU h,zR hT h hK hP⟩
     ·exact⟨fun _=>⟨(Hg v).trans (by assumption),rfl⟩,zR hT h hK hP⟩
     ·cases h
    refine⟨fn,caps,e1.trans h1,?_⟩;rw[e2];rcases h2 with⟨rr,nbs,h2,h3,h4⟩|⟨pv,h2,h3⟩
    ·exact .inl ⟨rr,nbs,fun hd=>by
      obtain⟨a1,a2⟩:=h3 hd;rw[AV.qf]at a1;exact⟨a1,abQ.1 a2⟩,h2,h4⟩
    ·refine .inr ⟨pv,h2,?_⟩;have:=hP _ _ h3;rw[eS]at this;exact this
   ·cases h
  ·rename_i x e;rw[e];split at h
   ·rename_i hg;refine⟨hg,?_⟩;obtain⟨h,e1⟩:=aP h;split at h
    ·rename_i t u hv;rw[hv]at e1;exact⟨t,u,e1,hP _ _ h⟩
    ·cases h
   ·cases h
  ·rename_i n1 n2;split
   ·rename_i f args e;exact absurd e (n1 f args)
   ·rename_i x e;exact absurd e (n2 x)
   ·exact lQ (os:=[o]) hT h fun s' h=>zR hT h hK hP
def Dm:List fv->XS->XS
 |[],s=>s
 |o::os,s=>Dm os (s.put o.ro.dst .any [] [])
theorem MM[YL]:∀(os:List fv) (s:XS),(Dm os s).er=ss (os.map fv.ro) s.er
 |[],_=>rfl
 |o::os,s=>by show(Dm os _).er=ss (os.map fv.ro) (s.er.put o.ro.dst .any [] []);rw[MM os,eS];rfl
end
section
variable{R:Type}
end
section
variable{R:Type}
instance oe:(ts:List Ty)->DecidableEq (qo ts)
 |[]=>inferInstanceAs (DecidableEq Unit)
 |[t]=>t.wo
 |t::t2::ts=>@instDecidableEqProd _ _ t.wo (oe (t2::ts))
instance Bs:(l:List XS)->DecidableEq (RT l)
 |[]=>inferInstanceAs (DecidableEq Unit)
 |[m]=>oe m.cj
 |m::m2::l=>@instDecidableEqSum _ _ (oe m.cj) (Bs (m2::l))
inductive XC where
 |skip
 |reg (dr:Bool) (os:List fv)
 |regS (lst:Bool) (os:List fv)
 |regP (os:List fv)
 |regDP (os:List fv)
 |regN (os:List fv)
 |regM (os:List fv) (x:MA)
 |seq (a b:XC)
 |join (pure:Bool) (m:XS) (a b:XC)
 |cond (c:Operand) (a b:XC)
 |block (id:Nat) (b:XC)
 |loop (m:XS) (b:XC)
 |exit (id:Nat)
 |scope (b:XC)
 |ret
 |regY (os:List fv)
 |rangeF (N0:Nat) (g:Operand) (ps:Array Tmp) (ca cb:Code) (f N2:Nat) (a b it:XC)
 |spl (t m:Nat) (c:XC)
 |bad (rc:bo)
def XC.rc:XC->bo
 |.skip=>.skip
 |.reg dr os=>.reg dr (os.map fv.ro)
 |.regS lst os=>.regS lst (os.map fv.ro)
 |.regP os=>.regP (os.map fv.ro)
 |.regDP os=>.regDP (os.map fv.ro)
 |.regN os=>.regN (os.map fv.ro)
 |.regM os x=>.regM (os.map fv.ro) x
 |.seq a b=>.seq a.rc (.wkr b.rc)
 |.join _ _ a b=>.seq a.rc (.wkr b.rc)
 |.cond c a b=>.cond c a.rc b.rc
 |.block id b=>.block id b.rc
 |.loop _ b=>.loop b.rc
 |.exit id=>.exit id
 |.scope b=>.scope b.rc
 |.ret=>.ret
 |.regY os=>.regY (os.map fv.ro)
 |.rangeF N0 g ps ca cb _ _ _ _ _=>.vn N0 (.rangeFunc g ps ca cb)
 |.spl _ _ c=>c.rc
 |.bad rc=>rc
def XC.Wf(P:Program):XC->Prop
 |.seq a b=>a.Wf P/\b.Wf P
 |.join _ _ a b=>a.Wf P/\b.Wf P
 |.cond _ a b=>a.Wf P/\b.Wf P
 |.block _ b=>b.Wf P
 |.loop _ b=>b.Wf P
 |.scope b=>b.Wf P
 |.spl _ _ c=>c.Wf P
 | .rangeF N0 g _ ca cb f N2 a b it => (∃ fl flB fn c2, P.funcs[f]? = some fn /\ fn.body = some c2 /\ (fn.name == "runtime.NumGoroutine") = false /\ P.follows .mixedOrders = true /\ aH P fl N2 c2 = some it.rc /\ aH P flB N0 ca = some a.rc /\ aH P flB N0 cb = some b.rc /\
   fn.results=#[]/\g.mg N0=true/\fn.ntmps=N2)/\a.Wf P/\b.Wf P/\it.Wf P
 |_=>True
def Ac(f:XS->Option R)(K:Exit->XS->Option R):Exit->XS->Option R
 |.normal,s=>f s
 |e,s=>K e s
def HV(id:Nat)(K:Exit->XS->Option R):Exit->XS->Option R
 |.exit i,s=>match aaa i id with
  |true=>K .normal s
  |false=>K (.exit i) s
 |e,s=>K e s
def Lb(K:Exit->XS->Option R):Exit->XS->Option R
 |.goto _,_=>none
 |e,s=>K e s
def zL{α β:Type}(a:Option β):Option (β⊕α):=match a with
 |some r=>some (.inl r)
 |none=>none
def rz{α β:Type}(a:Option (β⊕α))(f:α->Option β):Option β:=match a with
 |some (.inl r)=>some r
 |some (.inr x)=>f x
 |none=>none
theorem Mj{β:Type}{a:Option β}{r:β⊕α}(h:zL a=some r):∃x,a=some x/\r=.inl x:=by
 unfold zL at h;split at h
 ·cases h;exact⟨_,rfl,rfl⟩
 ·cases h
theorem SF{β:Type}{a:Option (β⊕α)}{f:α->Option β}{r:β}(h:rz a f=some r):a=some (.inl r)\/∃x,a=some (.inr x)/\f x=some r:=by
 unfold rz at h;split at h
 ·cases h;exact .inl rfl
 ·exact .inr ⟨_,rfl,h⟩
 ·cases h
def L4(m:XS)(K:Exit->XS->Option R):Exit->XS->Option (R⊕qo m.cj)
 |.normal,s=>rd m s fun v=>some (.inr (ln m.cj v))
 |e,s=>zL (K e s)
def MF(m:XS):Exit->XS->Option (qo m.cj)
 |.normal,s=>rd m s fun v=>some (ln m.cj v)
 |_,_=>none
def G4(s:XS)(c:Operand)(q:Bool):XS:=match c with
 |.tmp t=>pO s t q
 |_=>s
def aN(ts:List Ty)(f:ke ts R->ke ts R):Nat->ke ts R
 |0=>cuN ts
 |n+1=>f (aN ts f n)
where cuN (ts:List Ty):ke ts R:=kj ts fun _=>none
theorem RW(ts:List Ty)(v:cn ts):iz ts (aN.cuN (R:=R) ts) v=none:=by show iz ts (kj ts _) v=none;rw[fH]
structure YX where
 plain:Bool
 f:{R:Type}->[DecidableEq R]->List XV->XS->(Bool->XS->Option R)->Option R
def E5:YX:=⟨true,fun _ _ _=>none⟩
def pI:YX:=⟨false,fun _ _ _=>none⟩
def BZ(s:XS)(o:fv):Option (List XV):=match o.ro.op with
 |.callE f args=>match s.ev f with
  |.yld=>some (args.map s.ev)
  |_=>none
 |_=>none
def xD[DecidableEq R](T:List br)(Y:YX):List fv->XS->(XS->Option R)->Option R
 |[],s,K=>K s
 |o::r,s,K=>match BZ s o with
  |none=>o9 T [o] s fun s'=>xD T Y r s' K
  |some args=>match o.ro.guard with
   |none=>Y.f args s fun c s'=>xD T Y r (s'.put o.ro.dst (.d .b c) [] []) K
   |some (t,want)=>match aR s.env t with
    |.d .b x=>match want with
     |true=>bf x (Y.f args s fun c s'=>xD T Y r (s'.put o.ro.dst (.d .b c) [] []) K) (xD T Y r (s.put o.ro.dst .un [] []) K)
     |false=>bf x (xD T Y r (s.put o.ro.dst .un [] []) K) (Y.f args s fun c s'=>xD T Y r (s'.put o.ro.dst (.d .b c) [] []) K)
    |.un=>xD T Y r (s.put o.ro.dst .un [] []) K
    |_=>none
mutual
def XV.na:XV->Bool
 |.yld=>false
 |.agg cs=>XV.k8 cs
 |.cn cs=>XV.k8 cs
 |.clo _ cs=>XV.k8 cs
 |_=>true
def XV.k8:List XV->Bool
 |[]=>true
 |v::r=>v.na&&XV.k8 r
end
def XB.na:XB->Bool
 |.box cs=>XV.k8 cs
 |_=>true
def Ey:List (Nat×XV)->Bool
 |[]=>true
 |(_,v)::r=>v.na&&Ey r
def xy:List (Option XB)->Bool
 |[]=>true
 |none::r=>xy r
 |some b::r=>b.na&&xy r
def XS.na(s:XS):Bool:=Ey s.env&&xy s.bs&&xy s.own
def yz(n:Nat):List (Nat×XV)->List (Nat×XV)
 |[]=>[]
 |(k,v)::r=>(n+k,v)::yz n r
def qv(n:Nat):List (Nat×XV)->List (Nat×XV)
 |[]=>[]
 |(k,v)::r=>match ac0 n k with
  |true=>(k-n,v)::qv n r
  |false=>qv n r
def ng(n:Nat):List (Nat×XV)->List (Nat×XV)
 |[]=>[]
 |(k,v)::r=>match adp k n with
  |true=>(k,v)::ng n r
  |false=>ng n r
def vg(n:Nat):List (Nat×XV)->List (Nat×XV)
 |[]=>[]
 |(k,v)::r=>match aaa k n with
  |true=>vg n r
  |false=>(k,v)::vg n r
def Af:Nat->Nat->List XV->List (Nat×XV)
 |_,0,_=>[]
 |k,n+1,[]=>(k,.un)::Af (k+1) n []
 |k,n+1,v::vs=>(k,v)::Af (k+1) n vs
def CF:List Nat->List XV->List (Nat×XV)->List (Nat×XV)
 |p::ps,x::xs,l=>CF ps xs ((p,x)::l)
 |_,_,l=>l
def E7(N2:Nat)(caps:List XV)(s:XS):XS:={s with env:=Af 0 N2 (.yld::caps)++(N2,.gst .go)::yz (N2+1) s.env}
def AX(N0 N2:Nat)(s:XS):XS:={s with env:=vg N0 (qv (N2+1) s.env)}
def Jm(N0 N2:Nat)(ps:List Nat)(args:List XV)(s:XS):XS:={s with env:=ng N0 (CF ps args (qv (N2+1) s.env))++yz (N0+1) s.env}
def wC(N0 N2:Nat)(c:GX)(s:XS):XS:={s with env:=(N2,.gst c)::qv (N0+1) s.env}
def Ur(f:XS->Option R):Exit->XS->Option R
 |.normal,s=>f s
 |_,_=>none
def JO(N0 N2:Nat)(K:Bool->XS->Option R):Exit->XS->Option R
 |.normal,s=>K true (wC N0 N2 .go s)
 |.exit id,s=>K false (wC N0 N2 (.exit id) s)
 |.ret,s=>K false (wC N0 N2 .ret s)
 |_,_=>none
def C1(N0 N2:Nat)(K:Exit->XS->Option R)(s:XS):Option R:=match(AX N0 N2 s).na,aR s.env N2 with
 |true,.gst .go=>K .normal (AX N0 N2 s)
 |true,.gst (.exit id)=>K (.exit id) (AX N0 N2 s)
 |true,.gst .ret=>K .ret (AX N0 N2 s)
 |_,_=>none
def Rq(N0 N2:Nat)(K:Exit->XS->Option R):Exit->XS->Option R
 |.normal,s=>C1 N0 N2 K s
 |.ret,s=>C1 N0 N2 K s
 |_,_=>none
def Ap(K:Nat->Option R)(j:Int):Nat->Nat->Option R
 |_,0=>none
 |i,n+1=>bf (decide (j=(i:Int))) (K i) (Ap K j (i+1) n)
theorem Oh{K:Nat->Option R}{j:Int}{r:R}:∀{n i:Nat},Ap K j i n=some r->∃t:Nat,j=(t:Int)/\K t=some r
 |0,i,e=>by cases e
 |n+1,i,e=>by
  unfold Ap at e;by_cases hj:j=(i:Int)
  ·rw[decide_eq_true hj]at e;exact⟨i,hj,e⟩
  ·rw[decide_eq_false hj]at e;have e:Ap K j (i+1) n=some r:=e;exact Oh e
def Iw(s:XS)(t:Nat)(k:IntKind)(i:Nat):XS:={s with env:=(t,.d (.i k) (i:Int))::s.env}
theorem YO[YL]{t:Nat}{k:IntKind}(h:aR s.env t=.d (.i k) j)(e:j=(i:Int)):(Iw s t k i).er=s.er:=by
 subst e;refine an.ext' (fun u=>?_) (fun _=>rfl) (fun _=>rfl) rfl;show(if aaa u t=true then XV.d (.i k) (i:Int)else aR s.env u).er=(aR s.env u).er;by_cases hi:u=t
 ·rw[if_pos (by rw[abn];exact hi),hi,h]
 ·rw[if_neg (by rw[abn];exact hi)]
def fC(N:Nat)(T:List br):XC->YX->{R:Type}->[DecidableEq R]->XS->(Exit->XS->Option R)->Option R
 |.skip,_,_,_,s,K=>K .normal s
 |.reg _ os,_,_,_,s,K=>o9 T os s (K .normal)
 |.regP os,_,_,_,s,K=>w9 T false os s (K .normal) fun v s'=>K (.panic [{v:=v,recovered:=false}]) s'
 |.regDP os,_,_,_,s,K=>w9 T true os s (K .normal) fun v s'=>K (.panic [{v:=v,recovered:=false}]) (Dm os s')
 |.regS lst os,_,_,_,s,K=>yj T (Hx (os.map fv.ro)) (yS s os) lst os s (K .normal)
 |.regN _,_,_,_,_,_=>none
 |.regM _ _,_,_,_,_,_=>none
 |.regY os,Y,_,_,s,K=>xD T Y os s (K .normal)
 |.rangeF N0 g ps _ _ f N2 a b it,Y,_,_,s,K=>match Y.plain,s.ev g with
  |true,.clo f' caps=>match aaa f f',XV.k8 caps,s.na,adp caps.length N2 with
   | true,true,true,true=>fC N T it ⟨false,fun args s K=>match aaa args.length ps.toList.length,aR s.env N2 with
     |true,.gst .go=>fC N T a pI (Jm N0 N2 ps.toList args s) (Ur fun s'=>fC N T b pI s' (JO N0 N2 K))
     |_,_=>none⟩ (E7 N2 caps s) (Rq N0 N2 K)
   |_,_,_,_=>none
  |_,_=>none
 |.seq a b,Y,_,_,s,K=>fC N T a Y s (Ac (fun s'=>fC N T b Y s' K) K)
 |.join true m a b,Y,_,_,s,K=>bc (fC N T a Y (R:=qo m.cj) s (MF m)) fun v=>fC N T b Y (m.fill (nc m.cj v)) K
 |.join false m a b,Y,R,_,s,K=>rz (fC N T a Y (R:=R⊕qo m.cj) s (L4 m K)) fun v=>fC N T b Y (m.fill (nc m.cj v)) K
 |.cond c a b,Y,_,_,s,K=>w1 s c fun v=>match v with
  |.d .b x=>bf x (fC N T a Y (G4 s c true) K) (fC N T b Y (G4 s c false) K)
  |.ab=>DY (fC N T a Y s K) (fC N T b Y s K)
  |_=>none
 |.block id b,Y,_,_,s,K=>fC N T b Y s (HV id K)
 |.loop m b,Y,_,_,s,K=>rd m s fun v=>iz m.cj (aN m.cj (fun rec=>kj m.cj fun v=>fC N T b Y (m.fill v) (Ac (fun s'=>rd m s' (iz m.cj rec)) K)) N) v
 |.exit id,_,_,_,s,K=>K (.exit id) s
 |.scope b,Y,_,_,s,K=>fC N T b Y s (Lb K)
 |.ret,_,_,_,s,K=>K .ret s
 |.spl t m c,Y,_,_,s,K=>match aR s.env t with
  |.d (.i k) j=>Ap (fun i=>fC N T c Y (Iw s t k i) K) j 0 m
  |_=>none
 |.bad _,_,_,_,_,_=>none
theorem Mp[YL]{c:Operand}{x:Bool}(h:s.ev c=.d .b x)(e:x=q):(G4 s c q).er=s.er:=by
 cases c with
 |tmp t=>exact kS h e
 |_=>rfl
mutual
theorem PF(x y:YL):∀{v:XV},v.na=true->@XV.er x v=@XV.er y v
 |.agg cs,h=>congrArg AV.agg (Dr x y h)
 |.cn cs,h=>congrArg AV.cn (yt x y h)
 |.clo f cs,h=>congrArg (AV.clo f) (yt x y h)
 |.yld,h=>by cases h
 |.d _ _,_|.any,_|.un,_|.ab,_|.ptr _ _,_|.ept _ _ _ _,_|.apt _ _,_|.rpt _ _,_|.rpa _ _ _,_|.rsl _ _ _ _,_|.pa _ _ _,_|.epa _ _ _ _ _,_|.mref _,_|.itr _ _,_|.rop _ _ _,_|.fl _ _,_|.fln _,_|.nl _,_|.sl _ _ _ _,_|.asl _ _ _,_|.slw _ _ _,_|.sc,_|.c _,_|.gst _,_=>rfl
theorem Wy(x y:YL):∀{v:XV},v.na=true->@XV.fc x v=@XV.fc y v
 |.agg cs,h=>Dr x y h
 |.cn cs,h=>congrArg (fun l=>[AV.cn l]) (yt x y h)
 |.clo f cs,h=>congrArg (fun l=>[AV.clo f l]) (yt x y h)
 |.yld,h=>by cases h
 |.d _ _,_|.any,_|.un,_|.ab,_|.ptr _ _,_|.ept _ _ _ _,_|.apt _ _,_|.rpt _ _,_|.rpa _ _ _,_|.rsl _ _ _ _,_|.pa _ _ _,_|.epa _ _ _ _ _,_|.mref _,_|.itr _ _,_|.rop _ _ _,_|.fl _ _,_|.fln _,_|.nl _,_|.sl _ _ _ _,_|.asl _ _ _,_|.slw _ _ _,_|.sc,_|.c _,_|.gst _,_=>rfl
theorem yt(x y:YL):∀{l:List XV},XV.k8 l=true->@XV.cz x l=@XV.cz y l
 |[],_=>rfl
 |v::l,h=>by have h:(v.na&&XV.k8 l)=true:=h;rw[μ]at h;show@XV.er x v::@XV.cz x l=@XV.er y v::@XV.cz y l;rw[PF x y h.1,yt x y h.2]
theorem Dr(x y:YL):∀{l:List XV},XV.k8 l=true->@XV.bz x l=@XV.bz y l
 |[],_=>rfl
 |v::l,h=>by have h:(v.na&&XV.k8 l)=true:=h;rw[μ]at h;show@XV.fc x v++@XV.bz x l=@XV.fc y v++@XV.bz y l;rw[Wy x y h.1,Dr x y h.2]
end
theorem ME(x y:YL)(i:Nat):∀{l:List (Nat×XV)},Ey l=true->@XV.er x (aR l i)=@XV.er y (aR l i)
 |[],_=>rfl
 |(k,v)::l,h=>by
  have h:(v.na&&Ey l)=true:=h;rw[μ]at h;show@XV.er x (if aaa i k=true then v else aR l i)=@XV.er y (if aaa i k=true then v else aR l i);split
  ·exact PF x y h.1
  ·exact ME x y i h.2
theorem Q3(x y:YL):∀{b:XB},b.na=true->@XB.er x b=@XB.er y b
 |.box cs,h=>congrArg bn.box (Dr x y h)
 |.row _ _ _,_|.rb _ _ _,_|.arr _ _ _ _,_|.mp _ _ _ _ _ _,_|.it,_|.sb _ _ _,_=>rfl
theorem CS(x y:YL):∀{l:List (Option XB)} {i:Nat},xy l=true->(bN l i).map (@XB.er x)=(bN l i).map (@XB.er y)
 |[],_,_=>rfl
 |none::l,0,_=>rfl
 |some b::l,0,h=>by
  have h:(b.na&&xy l)=true:=h;rw[μ]at h;show some (@XB.er x b)=some (@XB.er y b);rw[Q3 x y h.1]
 |none::l,i+1,h=>CS x y (l:=l) (i:=i) h
 |some b::l,i+1,h=>by have h:(b.na&&xy l)=true:=h;rw[μ]at h;exact CS x y (l:=l) (i:=i) h.2
theorem Dk(x y:YL)(h:s.na=true):@XS.er x s=@XS.er y s:=by
 unfold XS.na at h;rw[μ,μ]at h;unfold XS.er;congr 1
 ·funext i;exact ME x y i h.1.1
 ·funext i;exact CS x y h.1.2
 ·funext i;exact CS x y h.2
theorem Sa[YL]{l:Nat}(h:v.er=.yld l):v=.yld:=by
 cases v with
 |yld=>rfl
 |d t x=>exfalso;cases t<;>cases h
 |_=>exfalso;cases h
theorem VH[YL]{o:fv}{args:List XV}(h:BZ s o=some args):wz s.er o.ro=some (YL.l,XV.cz args):=by
 unfold BZ at h;unfold wz;split at h
 ·rename_i f as e;rw[e];show(match s.er.ev f with|.yld l=>some (l,as.map s.er.ev)|_=>none)=_;split at h
  ·rename_i e2;cases h;have:s.er.ev f=.yld YL.l:=by rw[ui s rfl,e2];rfl
   rw[this];show some (YL.l,as.map s.er.ev)=_;congr 2
   induction as with
   |nil=>rfl
   |cons a as ih=>
    show s.er.ev a::as.map s.er.ev=(s.ev a).er::XV.cz (as.map s.ev);rw[ui s rfl];congr 1;clear e ih this
    induction as with
    |nil=>rfl
    |cons b as ih=>
     show s.er.ev b::as.map s.er.ev=(s.ev b).er::XV.cz (as.map s.ev);rw[ui s rfl,ih]
  ·cases h
 ·cases h
theorem XY[YL]{o:fv}(h:BZ s o=none):wz s.er o.ro=none:=by
 unfold BZ at h;unfold wz;split
 ·rename_i f as e;rw[e]at h;simp only at h;split
  ·rename_i l e2;rw[ui s rfl]at e2;rw[Sa e2]at h;cases h
  ·rfl
 ·rfl
def jy[YL](Yx:YX)(Y:Yh):Prop:=(Yx.plain=true->Y.plain=true)/\∀{R:Type} [DecidableEq R] {r:R} {args:List XV} {s:XS} {K:Bool->XS->Option R},Yx.f args s K=some r->∀{KP:Bool->an->Prop},(∀c s',K c s'=some r->KP c s'.er)->Y.f YL.l (XV.cz args) s.er KP
theorem jy.no[YL]:jy E5 zd:=⟨fun h=>h,fun h=>by cases h⟩
theorem jy.body[YL]:jy pI jQ:=⟨fun h=>h,fun h=>by cases h⟩
theorem Cf[YL]{P:Program}{T:List br}(hT:kU P T){Yx:YX}{Y:Yh}(hY:jy Yx Y)[DecidableEq R]{r:R}:∀{os:List fv} {s:XS} {K:XS->Option R},xD T Yx os s K=some r->∀{KP:an->Prop},(∀s',K s'=some r->KP s'.er)->qZ P Y (os.map fv.ro) s.er KP
 |[],s,K,h,KP,hK=>hK _ h
 |o::os,s,K,h,KP,hK=>by
  unfold xD at h;show qZ P Y (o.ro::os.map fv.ro) s.er KP;unfold qZ;split at h
  ·rename_i e;rw[XY e];exact lQ (os:=[o]) hT h fun s' h=>Cf hT hY h hK
  ·rename_i args e;rw[VH e];have go:∀{h0:Unit},(Yx.f args s fun c s'=>xD T Yx os (s'.put o.ro.dst (.d .b c) [] []) K)=some r->Y.f YL.l (XV.cz args) s.er fun c s'=>qZ P Y (os.map fv.ro) (s'.put o.ro.dst (.D (.B c)) [] []) KP:=fun h=>hY.2 h fun c s' h=>by have:=Cf hT hY h hK;rw[eS]at this;exact this
   have un:∀{h0:Unit},xD T Yx os (s.put o.ro.dst .un [] []) K=some r->qZ P Y (os.map fv.ro) (s.er.put o.ro.dst .un [] []) KP:=fun h=>by have:=Cf hT hY h hK;rw[eS]at this;exact this
   simp only;split at h
   ·rename_i hg;rw[hg];exact go (h0:=()) h
   ·rename_i t want hg;rw[hg];simp only;split at h
    ·rename_i x hx;have ht:s.er.env t=.D (.B x):=by show(aR s.env t).er=_;rw[hx];rfl
     rw[ht];split at h
     ·rcases uu h with⟨e,h⟩|⟨e,h⟩
      ·exact⟨fun _=>go (h0:=()) h,fun h=>absurd e h⟩
      ·exact⟨fun h=>aaU (e.symm.trans h),fun _=>un (h0:=()) h⟩
     ·rcases uu h with⟨e,h⟩|⟨e,h⟩
      ·exact⟨fun h=>aaU (e.symm.trans h),fun _=>un (h0:=()) h⟩
      ·exact⟨fun _=>go (h0:=()) h,fun h=>absurd e h⟩
    ·rename_i hx;have ht:s.er.env t=.D (.C (.tuple #[])):=by show(aR s.env t).er=_;rw[hx];rfl
     rw[ht];exact un (h0:=()) h
    ·cases h
theorem EK(n t:Nat):∀l,aR (yz n l) t=if n<=t then aR l (t-n)else .any
 |[]=>by show XV.any=if _ then XV.any else _;split<;>rfl
 |(k,v)::l=>by
  show(if aaa t (n+k)=true then v else aR (yz n l) t)=if n<=t then(if aaa (t-n) k=true then v else aR l (t-n))else .any
  rw[EK n t l];by_cases h:n<=t
  ·rw[if_pos h,if_pos h];have:aaa t (n+k)=aaa (t-n) k:=by rw[aa9,abn,abn];omega
   rw[this]
  ·rw[if_neg h,if_neg h,if_neg];rw[abn];omega
theorem Bj(n t:Nat):∀l,aR (qv n l) t=aR l (n+t)
 |[]=>rfl
 |(k,v)::l=>by
  show aR (match ac0 n k with|true=>(k-n,v)::qv n l|false=>qv n l) t=if aaa (n+t) k=true then v else aR l (n+t)
  cases h:ac0 n k with
  |true=>
   show(if aaa t (k-n)=true then v else aR (qv n l) t)=_;have h:=abf h;have:aaa t (k-n)=aaa (n+t) k:=by rw[aa9,abn,abn];omega
   rw[this,Bj n t l]
  |false=>
   show aR (qv n l) t=_;rw[Bj n t l,if_neg];intro e;have:=θ e;have:ac0 n k=true:=Nat.ble_eq_true_of_le (by omega);rw[h]at this;cases this
theorem FQ(n t:Nat):∀l,aR (vg n l) t=if t=n then .any else aR l t
 |[]=>by show XV.any=if _ then _ else XV.any;split<;>rfl
 |(k,v)::l=>by
  show aR (match aaa k n with|true=>vg n l|false=>(k,v)::vg n l) t=if t=n then .any else(if aaa t k=true then v else aR l t)
  cases h:aaa k n with
  |true=>
   have h:=θ h;show aR (vg n l) t=_;rw[FQ n t l];by_cases e:t=n
   ·rw[if_pos e,if_pos e]
   ·rw[if_neg e,if_neg e,if_neg (fun q=>e ((θ q).trans h))]
  |false=>
   show(if aaa t k=true then v else aR (vg n l) t)=_;rw[FQ n t l];by_cases e:t=n
   ·rw[if_pos e,if_pos e,if_neg];intro q;have:=θ q;rw[<-this,e,acL]at h;cases h
   ·rw[if_neg e,if_neg e]
theorem Hp(n t:Nat)(r:List (Nat×XV))(hr:t<=n->aR r t=.any):∀l,aR (ng n l++r) t=if t<n then aR l t else aR r t
 |[]=>by
  show aR r t=if t<n then XV.any else _
  split
  ·exact hr (by omega)
  ·rfl
 |(k,v)::l=>by
  show aR ((match adp k n with|true=>(k,v)::ng n l|false=>ng n l)++r) t=if t<n then(if aaa t k=true then v else aR l t)else _
  cases h:adp k n with
  |true=>
   show(if aaa t k=true then v else aR (ng n l++r) t)=_;rw[Hp n t r hr l];have h:=abf h;by_cases e:t<n
   ·rw[if_pos e,if_pos e]
   ·rw[if_neg e,if_neg e,if_neg];intro q;have:=θ q;omega
  |false=>
   show aR (ng n l++r) t=_;rw[Hp n t r hr l];by_cases e:t<n
   ·rw[if_pos e,if_pos e,if_neg];intro q;have:=θ q;have:adp k n=true:=Nat.ble_eq_true_of_le (by omega);rw[h]at this;cases this
   ·rw[if_neg e,if_neg e]
theorem Ir(t:Nat)(r:List (Nat×XV)):∀(n k:Nat) (vs:List XV),aR (Af k n vs++r) t=if k<=t/\t<k+n then vs.getD (t-k) .un else aR r t
 |0,k,vs=>by
  show aR r t=_;rw[if_neg (by omega)]
 |n+1,k,[]=>by
  show(if aaa t k=true then XV.un else aR (Af (k+1) n []++r) t)=_;rw[Ir t r n (k+1) []];by_cases e:t=k
  ·rw[if_pos (by rw[e,acL]),if_pos (by omega)];simp
  ·rw[if_neg (fun q=>e (θ q))];by_cases h:k+1<=t/\t<k+1+n
   ·rw[if_pos h,if_pos (by omega)];simp
   ·rw[if_neg h,if_neg (by omega)]
 |n+1,k,v::vs=>by
  show(if aaa t k=true then v else aR (Af (k+1) n vs++r) t)=_;rw[Ir t r n (k+1) vs];by_cases e:t=k
  ·rw[if_pos (by rw[e,acL]),if_pos (by omega),e,Nat.sub_self];rfl
  ·rw[if_neg (fun q=>e (θ q))];by_cases h:k+1<=t/\t<k+1+n
   ·rw[if_pos h,if_pos (by omega)];have:t-k=(t-(k+1))+1:=by omega
    rw[this];rfl
   ·rw[if_neg h,if_neg (by omega)]
theorem Lg[YL]:∀(l:List XV) (i:Nat),(l.getD i .un).er=(XV.cz l).getD i .un
 |[],i=>by simp only[XV.cz,List.getD_nil];rfl
 |v::l,0=>rfl
 |v::l,i+1=>by have:=Lg l i;simpa[XV.cz]using this
theorem LJ[YL](t:Nat):∀(ps:List Nat) (xs:List XV) (l:List (Nat×XV)),(aR (CF ps xs l) t).er=we ps (XV.cz xs) (fun i=>(aR l i).er) t
 |[],xs,l=>by cases xs<;>rfl
 |p::ps,[],l=>rfl
 |p::ps,x::xs,l=>by
  show(aR (CF ps xs ((p,x)::l)) t).er=we ps (XV.cz xs) (gb (fun i=>(aR l i).er) p x.er) t;rw[LJ t ps xs];congr 1;funext i;show(if aaa i p=true then x else aR l i).er=if i=p then x.er else(aR l i).er
  by_cases e:i=p
  ·rw[if_pos e,if_pos (by rw[e,acL])]
  ·rw[if_neg e,if_neg (fun q=>e (θ q))]
theorem Ck[YL]{env:List (Nat×XV)}{f:Nat->AV}(h:∀t,(aR env t).er=f t):({s with env:=env}:XS).er=s.er.withEnv f:=by unfold XS.er an.withEnv;congr 1;funext t;exact h t
theorem WC[YL](N2:Nat)(caps:List XV)(s:XS):(E7 N2 caps s).er=By N2 YL.l (XV.cz caps) s.er:=Ck fun t=>by
 rw[Ir];show _=if t<N2 then _ else if t=N2 then _ else(aR s.env (t-N2-1)).er
 by_cases h:t<N2
 ·rw[if_pos (by omega),if_pos h,Nat.sub_zero,Lg];rfl
 ·rw[if_neg (by omega),if_neg h];show(if aaa t N2=true then XV.gst .go else aR (yz (N2+1) s.env) t).er=_;by_cases e:t=N2
  ·rw[if_pos e,if_pos (by rw[e,acL])];rfl
  ·rw[if_neg e,if_neg (fun q=>e (θ q)),EK,if_pos (by omega),Nat.sub_add_eq]
theorem VZ[YL](N0 N2:Nat)(s:XS):(AX N0 N2 s).er=Aj N0 N2 s.er:=Ck fun t=>by
 rw[FQ,Bj];show _=if t=N0 then AV.any else(aR s.env (N2+1+t)).er
 split<;>rfl
theorem QE[YL](N0 N2:Nat)(ps:List Nat)(args:List XV)(s:XS):(Jm N0 N2 ps args s).er=Gn N0 N2 ps (XV.cz args) s.er:=Ck fun t=>by
 rw[Hp _ _ _ (fun h=>by rw[EK,if_neg (by omega)])];show _=if t<N0 then _ else if t=N0 then AV.any else(aR s.env (t-N0-1)).er
 by_cases h:t<N0
 ·rw[if_pos h,if_pos h,LJ];congr 1;funext i;rw[Bj];rfl
 ·rw[if_neg h,if_neg h,EK];by_cases e:t=N0
  ·rw[if_pos e,if_neg (by omega)];rfl
  ·rw[if_neg e,if_pos (by omega),Nat.sub_add_eq]
theorem Iv[YL](N0 N2:Nat)(c:GX)(s:XS):(wC N0 N2 c s).er=Bf N0 N2 c.code s.er:=Ck fun t=>by
 show(if aaa t N2=true then XV.gst c else aR (qv (N0+1) s.env) t).er=if t=N2 then AV.gst c.code else(aR s.env (N0+1+t)).er
 by_cases e:t=N2
 ·rw[if_pos e,if_pos (by rw[e,acL])];rfl
 ·rw[if_neg e,if_neg (fun q=>e (θ q)),Bj]
theorem H7[YL]:∀(l:List XV),(XV.cz l).length=l.length
 |[]=>rfl
 |_::l=>congrArg (· +1) (H7 l)
def BG(P:Program)(N:Nat)(T:List br)(c:XC):Prop:=∀(y:YL) (Yx:YX) (Y:Yh),jy Yx Y->∀{R:Type} [DecidableEq R] {r:R} {s:XS} {K:Exit->XS->Option R},fC N T c Yx s K=some r->∀{Q:Exit->an->Prop},(∀e s',K e s'=some r->Q e s'.er)->gD P Y c.rc Q s.er
theorem bAn{T:List br}{N0:Nat}{g:Operand}{ps:Array Tmp}{ca cb:Code}{f N2:Nat}{a b it:XC}(hw:XC.Wf P (.rangeF N0 g ps ca cb f N2 a b it))(ha:BG P N T a)(hb:BG P N T b)(hi:BG P N T it):BG P N T (.rangeF N0 g ps ca cb f N2 a b it):=fun y Yx Y hY R _ r s K h Q hK=>by
 obtain⟨⟨fl,flB,fn,c2,q1,q2,q3,q4,q5,q6,q7,q8,q9,q10⟩,_⟩:=hw;subst q10;unfold fC at h;split at h
 case h_2=>cases h
 rename_i f' caps hp hg;split at h
 case h_2=>cases h
 rename_i hf hcc hcl hlt;have hf:=θ hf;subst hf;have hlt:caps.length+1<=fn.ntmps:=abf hlt;refine bF6 (f:=f) (fn:=fn) (caps:=XV.cz caps) fl flB q1 q2 q3 q4 q5 q6 q7 q8 q9 (by rw[ui s rfl,hg];rfl) (by rw[H7];exact hlt) (hY.1 hp) fun l=>?_;obtain⟨y2,hy2⟩:∃y2:YL,y2=⟨l⟩:=⟨_,rfl⟩;have hl:@YL.l y2=l:=by rw[hy2];rfl
 have e1:By fn.ntmps l (@XV.cz y caps) (@XS.er y s)=@XS.er y2 (E7 fn.ntmps caps s):=by rw[@WC y2,hl];exact congr (congrArg _ (yt y y2 hcc)) (Dk y y2 hcl)
 rw[e1];refine hi y2 _ (F0 P a.rc b.rc N0 fn.ntmps l ps.toList) ⟨(fun h=>aaU h),fun{R} _ {r args s K} h KP hK=>?_⟩ h fun e s' h=>?_
 ·simp only at h;split at h
  case h_2=>cases h
  rename_i h1 h2;refine⟨hl,by rw[H7];exact θ h1,by show(aR s.env fn.ntmps).er=_;rw[h2];rfl,?_⟩;rw[<-@QE y2];refine ha y2 pI jQ (@jy.body y2) h fun e s' h=>?_;cases e with
  |normal=>
   refine hb y2 pI jQ (@jy.body y2) (show fC N T b pI s' (JO N0 fn.ntmps K)=some r from h) fun e s' h=>?_;cases e with
   |normal=>
    have:=hK _ _ (show K true (wC N0 fn.ntmps .go s')=some r from h);rw[@Iv y2]at this;exact this
   |exit id=>
    have:=hK _ _ (show K false (wC N0 fn.ntmps (.exit id) s')=some r from h);rw[@Iv y2]at this;exact this
   |ret=>
    have:=hK _ _ (show K false (wC N0 fn.ntmps .ret s')=some r from h);rw[@Iv y2]at this;exact this
   |_=>cases h
  |_=>cases h
 ·have key:∀{h0:Unit},C1 N0 fn.ntmps K s'=some r->Bu Q (Aj N0 fn.ntmps (@XS.er y2 s')) ((@XS.er y2 s').env fn.ntmps):=fun h=>by
   unfold C1 at h;rw[<-@VZ y2];show Bu Q _ (@XV.er y2 (aR s'.env fn.ntmps));split at h
   ·rename_i hc hq;rw[hq,<-Dk y y2 hc];exact hK _ _ h
   ·rename_i hc hq;rw[hq,<-Dk y y2 hc];exact hK _ _ h
   ·rename_i hc hq;rw[hq,<-Dk y y2 hc];exact hK _ _ h
   ·cases h
  cases e with
  |normal=>exact⟨.inl rfl,key (h0:=()) h⟩
  |ret=>exact⟨.inr rfl,key (h0:=()) h⟩
  |_=>cases h
theorem cL{P:Program}{N:Nat}{T:List br}(hT:kU P T):∀{c:XC},c.Wf P->BG P N T c
 |.skip,hw,y,Yx,Y,hY,R,_,r,s,K,h,Q,hK=>hK _ _ h
 |.reg _ os,hw,y,Yx,Y,hY,R,_,r,s,K,h,Q,hK=>lQ hT h (KP:=Q .normal) fun s' h=>hK _ _ h
 |.regP os,hw,y,Yx,Y,hY,R,_,r,s,K,h,Q,hK=>zR hT h (KP:=Q .normal) (fun s' h=>hK _ _ h) fun v s' h=>hK _ _ h
 | .regDP os,hw,y,Yx,Y,hY,R,_,r,s,K,h,Q,hK=>zR hT h (KP:=Q .normal) (fun s' h=>hK _ _ h) fun v s' h=>by
   have:=hK _ _ h;rw[MM]at this;exact this
 |.regN os,hw,y,Yx,Y,hY,R,_,r,s,K,h,Q,hK=>by cases h
 |.regM os x,hw,y,Yx,Y,hY,R,_,r,s,K,h,Q,hK=>by cases h
 |.regS _ os,hw,y,Yx,Y,hY,R,_,r,s,K,h,Q,hK=>⟨yS s os,Dv hT h (KP:=Q .normal) fun s' h=>hK _ _ h⟩
 |.regY os,hw,y,Yx,Y,hY,R,_,r,s,K,h,Q,hK=>Cf hT hY h (KP:=Q .normal) fun s' h=>hK _ _ h
 |.rangeF ..,hw,y,Yx,Y,hY,R,_,r,s,K,h,Q,hK=>bAn hw (cL hT hw.2.1) (cL hT hw.2.2.1) (cL hT hw.2.2.2) y Yx Y hY h hK
 |.seq a b,hw,y,Yx,Y,hY,R,_,r,s,K,h,Q,hK=>by
  refine cL hT (c:=a) hw.1 y Yx Y hY h (Q:=yJ (gD P Y (.wkr b.rc) Q) Q) fun e s' h=>?_;cases e with
  |normal=>exact⟨s'.er,Wk.refl _,cL hT (c:=b) hw.2 y Yx Y hY h hK⟩
  |_=>exact hK _ _ h
 |.join true m a b,hw,y,Yx,Y,hY,R,_,r,s,K,h,Q,hK=>by
  obtain⟨x,h1,h2⟩:=Is (show bc (fC N T a Yx (R:=qo m.cj) s (MF m)) (fun v=>fC N T b Yx (m.fill (nc m.cj v)) K)=some r from h);refine cL hT (c:=a) hw.1 y Yx Y hY h1 (Q:=yJ (gD P Y (.wkr b.rc) Q) Q) fun e s' h=>?_;cases e with
  |normal=>
   obtain⟨v,hv,hw'⟩:=AG (show rd m s' _=some x from h);cases hv;rw[vU]at h2;exact⟨_,hw',cL hT (c:=b) hw.2 y Yx Y hY h2 hK⟩
  |_=>cases h
 |.join false m a b,hw,y,Yx,Y,hY,R,_,r,s,K,h,Q,hK=>by
  rcases SF (show rz (fC N T a Yx (R:=R⊕qo m.cj) s (L4 m K)) (fun v=>fC N T b Yx (m.fill (nc m.cj v)) K)=some r from h)with h1|⟨x,h1,h2⟩
  ·refine cL hT (c:=a) hw.1 y Yx Y hY h1 (Q:=yJ (gD P Y (.wkr b.rc) Q) Q) fun e s' h=>?_;cases e with
   |normal=>
    obtain⟨v,hv,_⟩:=AG (show rd m s' _=_ from h);cases hv
   |_=>
    obtain⟨y,hy,e⟩:=Mj (show zL _=_ from h);cases e;exact hK _ _ hy
  ·refine cL hT (c:=a) hw.1 y Yx Y hY h1 (Q:=yJ (gD P Y (.wkr b.rc) Q) Q) fun e s' h=>?_;cases e with
   |normal=>
    obtain⟨v,hv,hw'⟩:=AG (show rd m s' _=_ from h);cases hv;rw[vU]at h2;exact⟨_,hw',cL hT (c:=b) hw.2 y Yx Y hY h2 hK⟩
   |_=>
    obtain⟨y,hy,e⟩:=Mj (show zL _=_ from h);cases e
 |.spl t m c,hw,y,Yx,Y,hY,R,_,r,s,K,h,Q,hK=>by
  have h:(match aR s.env t with
   |.d (.i k) j=>Ap (fun i=>fC N T c Yx (Iw s t k i) K) j 0 m
   |_=>none)=some r:=h
  split at h
  ·rename_i k j hj;obtain⟨i,e,h⟩:=Oh h;have q:=cL hT (c:=c) hw y Yx Y hY h hK;rw[YO hj e]at q;exact q
  ·cases h
 |.cond c a b,hw,y,Yx,Y,hY,R,_,r,s,K,h,Q,hK=>by
  obtain⟨h,e1⟩:=aP (show w1 s c _=some r from h);show D0 (gD P Y a.rc Q s.er) (gD P Y b.rc Q s.er) (s.er.ev c);rw[e1];split at h
  ·rename_i x hx;rw[hx];rcases uu h with⟨e,h⟩|⟨e,h⟩
   ·have:=cL hT (c:=a) hw.1 y Yx Y hY h hK;rw[Mp hx e]at this;exact⟨fun _=>this,fun h=>aaU (e.symm.trans h)⟩
   ·have:=cL hT (c:=b) hw.2 y Yx Y hY h hK;rw[Mp hx e]at this;exact⟨fun h=>aaU (e.symm.trans h),fun _=>this⟩
  ·rename_i hx;rw[hx];obtain⟨h1,h2⟩:=Y8 h;exact⟨cL hT (c:=a) hw.1 y Yx Y hY h1 hK,cL hT (c:=b) hw.2 y Yx Y hY h2 hK⟩
  ·cases h
 |.block id b,hw,y,Yx,Y,hY,R,_,r,s,K,h,Q,hK=>by
  refine cL hT (c:=b) hw y Yx Y hY (show fC N T b Yx s (HV id K)=some r from h) (Q:=It id Q) fun e s' h=>?_;cases e with
  |exit i=>
   unfold HV at h;simp only at h;show if i=id then Q .normal s'.er else Q (.exit i) s'.er
   split at h
   ·rename_i hb;rw[if_pos (θ hb)];exact hK _ _ h
   ·rename_i hb;rw[if_neg (fun e=>by rw[e]at hb;simp at hb)];exact hK _ _ h
  |_=>exact hK _ _ h
 |.loop m b,hw,y,Yx,Y,hY,R,_,r,s,K,h,Q,hK=>by
  obtain⟨v0,h,hw'⟩:=AG (show rd m s _=some r from h);refine .inl ⟨fun n s1=>∃v,iz m.cj (aN m.cj (fun rec=>kj m.cj fun v=>fC N T b Yx (m.fill v) (Ac (fun s'=>rd m s' (iz m.cj rec)) K)) n) v=some r/\s1=(m.fill v).er,N,_,hw',⟨v0,h,rfl⟩,?_⟩;rintro n s1 ⟨v,hv,rfl⟩;cases n with
  |zero=>rw[show aN m.cj _ 0=aN.cuN m.cj from rfl,RW]at hv;cases hv
  |succ n=>
   rw[show aN m.cj _ (n+1)=kj m.cj _ from rfl,fH]at hv;refine cL hT (c:=b) hw y Yx Y hY hv (Q:=yJ _ Q) fun e s' h=>?_;cases e with
   |normal=>
    obtain⟨v',h,hw'⟩:=AG (show rd m s' _=some r from h);exact⟨n,_,Nat.lt_succ_self n,hw',v',h,rfl⟩
   |_=>exact hK _ _ h
 |.exit id,hw,y,Yx,Y,hY,R,_,r,s,K,h,Q,hK=>hK _ _ h
 |.scope b,hw,y,Yx,Y,hY,R,_,r,s,K,h,Q,hK=>by
  refine cL hT (c:=b) hw y Yx Y hY (show fC N T b Yx s (Lb K)=some r from h) (Q:=Lm Q) fun e s' h=>?_;cases e with
  |goto _=>cases h
  |_=>exact hK _ _ h
 |.ret,hw,y,Yx,Y,hY,R,_,r,s,K,h,Q,hK=>hK _ _ h
 |.bad _,hw,y,Yx,Y,hY,R,_,r,s,K,h,Q,hK=>by cases h
def xP:List RO->List (Option Ty)->List fv
 |[],_=>[]
 |ro::r,[]=>⟨ro,none⟩::xP r []
 |ro::r,t::ts=>⟨ro,t⟩::xP r ts
theorem pA:∀(r:List RO) (ts:List (Option Ty)),(xP r ts).map fv.ro=r
 |[],_=>rfl
 |ro::r,[]=>congrArg (ro::·) (pA r [])
 |ro::r,_::ts=>congrArg (ro::·) (pA r ts)
def Ew:List Ty->Ty
 |[]=>.u
 |[t]=>t
 |t::r=>.p t (Ew r)
def MD(f:TypeId->Option Ty):List TypeId->Option (List Ty)
 |[]=>some []
 |t::r=>match f t,MD f r with
  |some a,some l=>some (a::l)
  |_,_=>none
def u5(P:Program):Nat->TypeId->Option Ty
 |0,_=>none
 |n+1,t=>match P.underlying t with
  |some (.int k)=>some (.i k)
  |some .bool=>some .b
  |some .string=>some .s
  |some (.slice e)=>(u5 P n e).map .sl
  |some (.array len e)=>match u5 P n e with
   |some (.i k)=>some (.ar len k)
   |some (.ar m k)=>match ac0 8 len with
    |true=>some (.w (Ew (aae len (.ar m k))))
    |false=>some (.ar (len*m) k)
   |some t=>some (.w (Ew (aae len t)))
   |none=>none
  |some (.struct fs)=>(MD (u5 P n) (fs.toList.map (·.type))).map fun l=>.w (Ew l)
  |_=>none
def zG(P:Program)(o:Oper):Option Ty:=match o.op with
 |.alloc T=>u5 P 20 T
 |.box T _=>u5 P 20 T
 |.makeMap T _=>match P.underlying T with
  |some (.map k e)=>match u5 P 20 k,u5 P 20 e with
   |some k,some (.sl t)=>some (.p k (.o t))
   |some k,some t=>some (.p k t)
   |_,_=>none
  |_=>none
 |_=>u5 P 20 o.type
structure j0 where
 at_:Nat
 pure:Bool
 m:XS
def AD:List j0->Nat->Option j0
 |[],_=>none
 |a::r,n=>match aaa a.at_ n with
  |true=>some a
  |false=>AD r n
def XC.mq:XC->Nat
 |.seq a b=>a.mq+b.mq+1
 |.join _ _ a b=>a.mq+b.mq+1
 |.cond _ a b=>a.mq+b.mq
 |.block _ b=>b.mq
 |.loop _ b=>b.mq+1
 |.scope b=>b.mq
 |.bad _=>1
 |_=>0
def Zz:XS:=⟨[],[],[]⟩
def Iu(P:Program)(d:Nat):List Oper->Option Ty
 |[]=>none
 |o::r=>match o.dst with
  |some d'=>match aaa d' d with
   |true=>zG P o
   |false=>Iu P d r
  |none=>Iu P d r
def NF(P:Program)(ops:List Oper):List RO->List (Option Ty)
 |[]=>[]
 |ro::r=>(match ro.dst with
  |some d=>Iu P d ops
  |none=>none)::NF P ops r
def mW(P:Program):Code->bo->XC
 |.skip,.skip=>.skip
 |.region _ ops _,.reg dr ros=>.reg dr (xP ros (ops.toList.map (zG P)))
 |.region _ ops _,.regP ros=>.regP (xP ros (ops.toList.map (zG P)))
 |.region _ ops _,.regDP ros=>.regDP (xP ros (NF P ops.toList ros))
 |.region _ ops _,.regS lst ros=>.regS lst (xP ros (ops.toList.map (zG P)))
 |.region _ ops _,.regN ros=>.regN (xP ros (ops.toList.map (zG P)))
 |.region _ ops _,.regY ros=>.regY (xP ros (ops.toList.map (zG P)))
 |.region _ ops _,.regM ros x=>.regM (xP ros (ops.toList.map (zG P))) x
 |.seq a b,.seq x (.wkr y)=>.seq (mW P a x) (mW P b y)
 |.cond _ a b,.cond c x y=>.cond c (mW P a x) (mW P b y)
 |.block _ b,.block id x=>.block id (mW P b x)
 |.loop b,.loop x=>.loop Zz (mW P b x)
 |.exit _,.exit id=>.exit id
 |.scope b,.scope x=>.scope (mW P b x)
 |.ret,.ret=>.ret
 |_,.skip=>.skip
 |_,rc=>.bad rc
theorem CK(P:Program):∀(c:Code) (rc:bo),(mW P c rc).rc=rc:=by
 intro c
 induction c with
 |seq a b ih1 ih2=>
  intro rc;unfold mW;split<;>first
   |rfl
   |(rename_i e;cases e;show bo.seq (mW P _ _).rc (.wkr (mW P _ _).rc)=_;rw[ih1,ih2];done)
   |(rename_i e;cases e;done)
   |(rename_i e _;cases e;done)
 |cond c0 a b ih1 ih2=>
  intro rc;unfold mW;split<;>first
   |rfl
   |(rename_i e;cases e;show bo.cond _ (mW P _ _).rc (mW P _ _).rc=_;rw[ih1,ih2];done)
   |(rename_i e;cases e;done)
   |(rename_i e _;cases e;done)
 |block id b ih=>
  intro rc;unfold mW;split<;>first
   |rfl
   |(rename_i e;cases e;show bo.block _ (mW P _ _).rc=_;rw[ih];done)
   |(rename_i e;cases e;done)
   |(rename_i e _;cases e;done)
 |loop b ih=>
  intro rc;unfold mW;split<;>first
   |rfl
   |(rename_i e;cases e;show bo.loop (mW P _ _).rc=_;rw[ih];done)
   |(rename_i e;cases e;done)
   |(rename_i e _;cases e;done)
 |scope b ih=>
  intro rc;unfold mW;split<;>first
   |rfl
   |(rename_i e;cases e;show bo.scope (mW P _ _).rc=_;rw[ih];done)
   |(rename_i e;cases e;done)
   |(rename_i e _;cases e;done)
 |region id ops dr=>
  intro rc;cases rc<;>first|rfl|(show bo.reg _ ((xP _ _).map fv.ro)=_;rw[pA];done)|(show bo.regP ((xP _ _).map fv.ro)=_;rw[pA];done)|(show bo.regDP ((xP _ _).map fv.ro)=_;rw[pA];done)|(show bo.regS _ ((xP _ _).map fv.ro)=_;rw[pA];done)|(show bo.regN ((xP _ _).map fv.ro)=_;rw[pA];done)|(show bo.regY ((xP _ _).map fv.ro)=_;rw[pA];done)|(show bo.regM ((xP _ _).map fv.ro) _=_;rw[pA];done)
 |_=>intro rc;cases rc<;>rfl
def nU(A:List j0):Nat->XC->XC
 |n,.seq a b=>match AD A n with
  |some x=>.join x.pure x.m (nU A (n+1) a) (nU A (n+1+a.mq) b)
  |none=>.seq (nU A (n+1) a) (nU A (n+1+a.mq) b)
 |n,.cond c a b=>.cond c (nU A n a) (nU A (n+a.mq) b)
 |n,.block id b=>.block id (nU A n b)
 |n,.loop m b=>match AD A n with
  |some x=>.loop x.m (nU A (n+1) b)
  |none=>.loop m (nU A (n+1) b)
 |n,.scope b=>.scope (nU A n b)
 |_,c=>c
theorem kD(A:List j0):∀(c:XC) (n:Nat),(nU A n c).rc=c.rc
 |.seq a b,n=>by
  unfold nU;split
  ·show bo.seq (nU A _ a).rc (.wkr (nU A _ b).rc)=_;rw[kD A a,kD A b];rfl
  ·show bo.seq (nU A _ a).rc (.wkr (nU A _ b).rc)=_;rw[kD A a,kD A b];rfl
 |.cond c a b,n=>by show bo.cond c (nU A _ a).rc (nU A _ b).rc=_;rw[kD A a,kD A b];rfl
 |.block id b,n=>by show bo.block id (nU A _ b).rc=_;rw[kD A b];rfl
 |.loop m b,n=>by
  unfold nU;split
  ·show bo.loop (nU A _ b).rc=_;rw[kD A b];rfl
  ·show bo.loop (nU A _ b).rc=_;rw[kD A b];rfl
 |.scope b,n=>by show bo.scope (nU A _ b).rc=_;rw[kD A b];rfl
 |.join _ _ _ _,_=>rfl
 |.spl _ _ _,_=>rfl
 |.skip,_=>rfl
 |.reg _ _,_=>rfl
 |.regS _ _,_=>rfl
 |.regP _,_=>rfl
 |.regDP _,_=>rfl
 |.regN _,_=>rfl
 |.regY _,_=>rfl
 |.regM _ _,_=>rfl
 |.rangeF ..,_=>rfl
 |.exit _,_=>rfl
 |.ret,_=>rfl
 |.bad _,_=>rfl
theorem BW(P:Program):∀(c:Code) (rc:bo),(mW P c rc).Wf P:=by
 intro c
 induction c with
 |seq a b ih1 ih2=>
  intro rc;unfold mW;split<;>first
   |trivial
   |(rename_i e;cases e;exact⟨ih1 _,ih2 _⟩)
   |(rename_i e;cases e;done)
   |(rename_i e _;cases e;done)
 |cond c0 a b ih1 ih2=>
  intro rc;unfold mW;split<;>first
   |trivial
   |(rename_i e;cases e;exact⟨ih1 _,ih2 _⟩)
   |(rename_i e;cases e;done)
   |(rename_i e _;cases e;done)
 |block id b ih=>
  intro rc;unfold mW;split<;>first
   |trivial
   |(rename_i e;cases e;exact ih _)
   |(rename_i e;cases e;done)
   |(rename_i e _;cases e;done)
 |loop b ih=>
  intro rc;unfold mW;split<;>first
   |trivial
   |(rename_i e;cases e;exact ih _)
   |(rename_i e;cases e;done)
   |(rename_i e _;cases e;done)
 |scope b ih=>
  intro rc;unfold mW;split<;>first
   |trivial
   |(rename_i e;cases e;exact ih _)
   |(rename_i e;cases e;done)
   |(rename_i e _;cases e;done)
 |_=>intro rc;cases rc<;>trivial
theorem kJ(P:Program)(A:List j0):∀(c:XC) (n:Nat),c.Wf P->(nU A n c).Wf P
 |.seq a b,n,h=>by
  unfold nU;split
  ·exact⟨kJ P A a _ h.1,kJ P A b _ h.2⟩
  ·exact⟨kJ P A a _ h.1,kJ P A b _ h.2⟩
 |.cond c a b,n,h=>⟨kJ P A a _ h.1,kJ P A b _ h.2⟩
 |.block id b,n,h=>kJ P A b n h
 |.loop m b,n,h=>by
  unfold nU;split
  ·exact kJ P A b (n+1) h
  ·exact kJ P A b (n+1) h
 |.scope b,n,h=>kJ P A b n h
 |.join _ _ _ _,_,h=>h
 |.spl _ _ _,_,h=>h
 |.skip,_,h=>h
 |.reg _ _,_,h=>h
 |.regS _ _,_,h=>h
 |.regP _,_,h=>h
 |.regDP _,_,h=>h
 |.regN _,_,h=>h
 |.regY _,_,h=>h
 |.regM _ _,_,h=>h
 |.rangeF ..,_,h=>h
 |.exit _,_,h=>h
 |.ret,_,h=>h
 |.bad _,_,h=>h
def Nu:List (Nat×Nat×List Nat)->Nat->Option (Nat×List Nat)
 |[],_=>none
 |(p,f)::r,n=>match aaa p n with
  |true=>some f
  |false=>Nu r n
def K5(P:Program)(fn:Func)(g:Operand)(N0:Nat):Bool:= !(fn.name== "runtime.NumGoroutine")&&P.follows .mixedOrders&&aaa fn.results.size 0&&g.mg N0
def OQ(P:Program)(fl:List Nat)(A:List j0)(n N0:Nat)(g:Operand)(ps:Array Tmp)(ca cb:Code)(f:Nat)(fl2:List Nat)(rc:bo):XC:=match P.funcs[f]?with
 |some fn=>match fn.body with
  |some c2=>match aH P fl2 fn.ntmps c2,aH P fl N0 ca,aH P fl N0 cb,K5 P fn g N0 with
   |some it,some a,some b,true=>.rangeF N0 g ps ca cb f fn.ntmps (nU A (100000*(n+1)+30000) (mW P ca a)) (nU A (100000*(n+1)+60000) (mW P cb b)) (nU A (100000*(n+1)) (mW P c2 it))
   |_,_,_,_=>.bad rc
  |none=>.bad rc
 |none=>.bad rc
def C0(P:Program)(fl:List Nat)(A:List j0)(n:Nat)(q:Option (Nat×List Nat))(rc:bo):XC:=match rc,q with
 |.vn N0 (.rangeFunc g ps ca cb),some (f,fl2)=>OQ P fl A n N0 g ps ca cb f fl2 rc
 |rc,_=>.bad rc
theorem Ug(P:Program)(fl:List Nat)(A:List j0)(n:Nat)(q:Option (Nat×List Nat))(rc:bo):(C0 P fl A n q rc).rc=rc/\(C0 P fl A n q rc).Wf P:=by
 unfold C0;split
 case h_2=>exact⟨rfl,trivial⟩
 unfold OQ;split
 case h_2=>exact⟨rfl,trivial⟩
 rename_i fn hf;split
 case h_2=>exact⟨rfl,trivial⟩
 rename_i c2 hc;split
 case h_2=>exact⟨rfl,trivial⟩
 rename_i it a b h1 h2 h3 h4;refine⟨rfl,⟨_,fl,fn,c2,hf,hc,?_,?_,by rw[kD,CK];exact h1,by rw[kD,CK];exact h2,by rw[kD,CK];exact h3,?_,?_,rfl⟩,kJ P A _ _ (BW P _ _),kJ P A _ _ (BW P _ _),kJ P A _ _ (BW P _ _)⟩<;>unfold K5 at h4<;>simp only[μ,aaY]at h4
 ·exact h4.1.1.1
 ·exact h4.1.1.2
 ·exact Array.eq_empty_of_size_eq_zero (θ h4.1.2)
 ·exact h4.2
def xm(b:Nat):List Nat->Nat->Option (Nat×Nat)
 |[],_=>none
 |x::r,n=>match aaa (x/1000000000000000) b,aaa (x%1000000000000000/10000000) n with
  |true,true=>some (x%10000000/1000,x%1000)
  |_,_=>xm b r n
def Am(o:Option (Nat×Nat))(c:XC):XC:=match o with
 |some (t,m)=>.spl t m c
 |none=>c
theorem LN(P:Program)(o:Option (Nat×Nat))(c:XC):(Am o c).rc=c.rc/\(c.Wf P->(Am o c).Wf P):=by
 cases o with
 |none=>exact⟨rfl,id⟩
 |some p=>exact⟨rfl,id⟩
def AF(A:List j0)(n:Nat)(a b:XC):XC:=match AD A n with
 |some x=>.join x.pure x.m a b
 |none=>.seq a b
theorem bH9(P:Program)(A:List j0)(n:Nat)(a b:XC):(AF A n a b).rc=.seq a.rc (.wkr b.rc)/\(a.Wf P->b.Wf P->(AF A n a b).Wf P):=by
 unfold AF;split
 ·exact⟨rfl,fun h1 h2=>⟨h1,h2⟩⟩
 ·exact⟨rfl,fun h1 h2=>⟨h1,h2⟩⟩
def xV(P:Program)(fl:List Nat)(F:List (Nat×Nat×List Nat))(A:List j0):Nat->XC->XC
 |n,.seq a b=>Am (xm 8 fl n) (AF A n (Am (xm 7 fl n) (xV P fl F A (n+1) a)) (xV P fl F A (n+1+a.mq) b))
 |n,.cond c a b=>.cond c (xV P fl F A n a) (xV P fl F A (n+a.mq) b)
 |n,.block id b=>.block id (xV P fl F A n b)
 |n,.loop m b=>match AD A n with
  |some x=>.loop x.m (xV P fl F A (n+1) b)
  |none=>.loop m (xV P fl F A (n+1) b)
 |n,.scope b=>.scope (xV P fl F A n b)
 |n,.bad rc=>C0 P fl A n (Nu F n) rc
 |_,c=>c
theorem qD(P:Program)(fl:List Nat)(F:List (Nat×Nat×List Nat))(A:List j0):∀(c:XC) (n:Nat),c.Wf P->(xV P fl F A n c).rc=c.rc/\(xV P fl F A n c).Wf P
 |.seq a b,n,h=>by
  have h1:=qD P fl F A a (n+1) h.1;have h2:=qD P fl F A b (n+1+a.mq) h.2;have h3:=LN P (xm 7 fl n) (xV P fl F A (n+1) a);have h4:=bH9 P A n (Am (xm 7 fl n) (xV P fl F A (n+1) a)) (xV P fl F A (n+1+a.mq) b);have h5:=LN P (xm 8 fl n) (AF A n (Am (xm 7 fl n) (xV P fl F A (n+1) a)) (xV P fl F A (n+1+a.mq) b));exact⟨h5.1.trans (by rw[h4.1,h3.1,h1.1,h2.1];rfl),h5.2 (h4.2 (h3.2 h1.2) h2.2)⟩
 |.cond c a b,n,h=>by
  have h1:=qD P fl F A a n h.1;have h2:=qD P fl F A b (n+a.mq) h.2;exact⟨by show bo.cond c _ _=_;rw[h1.1,h2.1];rfl,h1.2,h2.2⟩
 |.block id b,n,h=>by
  have h1:=qD P fl F A b n h;exact⟨by show bo.block id _=_;rw[h1.1];rfl,h1.2⟩
 |.loop m b,n,h=>by
  have h1:=qD P fl F A b (n+1) h;unfold xV;split
  ·exact⟨by show bo.loop _=_;rw[h1.1];rfl,h1.2⟩
  ·exact⟨by show bo.loop _=_;rw[h1.1];rfl,h1.2⟩
 |.scope b,n,h=>by
  have h1:=qD P fl F A b n h;exact⟨by show bo.scope _=_;rw[h1.1];rfl,h1.2⟩
 |.bad rc,n,_=>Ug P fl A n _ rc
 |.join _ _ _ _,_,h=>⟨rfl,h⟩
 |.spl _ _ _,_,h=>⟨rfl,h⟩
 |.skip,_,h=>⟨rfl,h⟩
 |.reg _ _,_,h=>⟨rfl,h⟩
 |.regS _ _,_,h=>⟨rfl,h⟩
 |.regP _,_,h=>⟨rfl,h⟩
 |.regDP _,_,h=>⟨rfl,h⟩
 |.regN _,_,h=>⟨rfl,h⟩
 |.regY _,_,h=>⟨rfl,h⟩
 |.regM _ _,_,h=>⟨rfl,h⟩
 |.rangeF ..,_,h=>⟨rfl,h⟩
 |.exit _,_,h=>⟨rfl,h⟩
 |.ret,_,h=>⟨rfl,h⟩
def ry(P:Program)(fl:List Nat)(F:List (Nat×Nat×List Nat))(A:List j0)(c:Code)(rc:bo):XC:=xV P fl F A 0 (mW P c rc)
theorem yy(P:Program)(fl:List Nat)(F:List (Nat×Nat×List Nat))(A:List j0)(c:Code)(rc:bo):(ry P fl F A c rc).rc=rc:=by unfold ry;rw[(qD P fl F A _ 0 (BW P c rc)).1,CK]
theorem zb(P:Program)(fl:List Nat)(F:List (Nat×Nat×List Nat))(A:List j0)(c:Code)(rc:bo):(ry P fl F A c rc).Wf P:=(qD P fl F A _ 0 (BW P c rc)).2
end
section
variable{R:Type}
theorem Wk.any{s s':an}(hb:∀i,s'.bs i=s.bs i)(ho:∀i,s'.own i=s.own i)(hn:s'.nx=s.nx)(he:∀t,s'.env t=s.env t\/s'.env t=.any):Wk s s':=fun E a w ⟨G,m,h⟩=>by
 have hlk:s'.lk=s.lk:=by funext x;cases x with|B i=>exact hb i|O i=>exact ho i
 refine⟨G,m,hlk▸h.ew,fun t=>?_,h.size,h.defers,?_,fun i hi=>h.fresh i (hn▸hi),h.frame,h.base,h.own,h.qq,fun i hi=>(ho i).trans (h.iv i (hn▸hi))⟩
 ·rcases he t with e|e
  ·rw[e];exact h.env t
  ·rw[e];unfold AV.aq;trivial
 ·rcases he E.N with e|e
  ·rw[e];exact h.ki
  ·rw[e];exact E.qw _ _ h.ki
def ot:Nat->List XV->List (Nat×XV)
 |_,[]=>[]
 |n,v::vs=>(n,v)::ot (n+1) vs
theorem yC:∀(vs:List XV) (n t:Nat),aR (ot n vs) t=if n<=t then vC vs (t-n)else .any
 |[],n,t=>by
  show XV.any=_;split
  ·cases t-n<;>rfl
  ·rfl
 |v::vs,n,t=>by
  show(if aaa t n=true then v else aR (ot (n+1) vs) t)=_;rw[yC vs (n+1) t];by_cases h:t=n
  ·rw[if_pos (by rw[abn];exact h),if_pos (by omega),show t-n=0 by omega];rfl
  ·rw[if_neg (by rw[abn];exact h)];by_cases h2:n+1<=t
   ·rw[if_pos h2,if_pos (by omega),show t-n=(t-(n+1))+1 by omega];rfl
   ·rw[if_neg h2,if_neg (by omega)]
def nz:Nat->Nat->List Nat
 |_,0=>[]
 |n,k+1=>n::nz (n+1) k
theorem J9:∀(k n i:Nat),(nz n k)[i]?=if i<k then some (n+i)else none
 |0,n,i=>by simp[nz]
 |k+1,n,0=>by simp[nz]
 |k+1,n,i+1=>by
  show(nz (n+1) k)[i]?=_;rw[J9 k (n+1) i];by_cases h:i<k
  ·rw[if_pos h,if_pos (by omega),show n+1+i=n+(i+1) by omega]
  ·rw[if_neg h,if_neg (by omega)]
theorem DX{j:Nat}:j∈nz n k↔n<=j/\j<n+k:=by
 induction k generalizing n with
 |zero=>simp[nz]
 |succ k ih=>
  show j∈n::nz (n+1) k↔_;rw[ω,ih];omega
theorem OO:∀(k n:Nat),(nz n k).Nodup
 |0,_=>List.nodup_nil
 |k+1,n=>abk.2 ⟨fun h=>by have:=(DX.1 h).1;omega,OO k (n+1)⟩
theorem P0:∀(k n:Nat),(nz n k).length=k
 |0,_=>rfl
 |k+1,n=>congrArg (· +1) (P0 k (n+1))
def zp(ψ:Hd->Hd):List XV->List XV
 |[]=>[]
 |v::vs=>v.cg ψ::zp ψ vs
def uh(ψ:Hd->Hd):List (Option XB)->List (Option XB)
 |[]=>[]
 |none::r=>none::uh ψ r
 |some b::r=>some (b.cg ψ)::uh ψ r
theorem DM[YL](ψ:Hd->Hd):∀(l:List (Option XB)) (i:Nat),(bN (uh ψ l) i).map XB.er=((bN l i).map XB.er).map (bn.cg ψ)
 |[],_=>rfl
 |none::_,0=>rfl
 |some b::_,0=>congrArg some (GO ψ b)
 |none::r,i+1=>DM ψ r i
 |some _::r,i+1=>DM ψ r i
def x8:Nat->List (Option XB)->List (Option XB)
 |_,[]=>[]
 |0,_::r=>none::x8 0 r
 |d+1,b::r=>b::x8 d r
def tr:Nat->List (Option XB)->List (Option XB)
 |0,l=>l
 |_+1,[]=>[]
 |d+1,_::r=>tr d r
theorem IT:∀(d:Nat) (l:List (Option XB)) (i:Nat),bN (x8 d l) i=if i<d then bN l i else none
 |0,[],_=>rfl
 |d+1,[],i=>by show none=if i<d+1 then none else none;split<;>rfl
 |0,_::r,0=>rfl
 |0,_::r,i+1=>by
  show bN (x8 0 r) i=_;rw[IT 0 r i];simp
 |d+1,b::r,0=>rfl
 |d+1,b::r,i+1=>by
  show bN (x8 d r) i=_;rw[IT d r i];by_cases h:i<d
  ·rw[if_pos h,if_pos (by omega)];rfl
  ·rw[if_neg h,if_neg (by omega)]
theorem KT:∀(d:Nat) (l:List (Option XB)) (i:Nat),bN (tr d l) i=bN l (d+i)
 |0,l,i=>by rw[aan];rfl
 |d+1,[],i=>by
  show none=bN [] _;cases d+1+i<;>rfl
 |d+1,b::r,i=>by show bN (tr d r) i=_;rw[KT d r i,show d+1+i=(d+i)+1 by omega];rfl
theorem L2:∀(d:Nat) (l:List (Option XB)),(tr d l).length=l.length-d
 |0,l=>rfl
 |d+1,[]=>by simp[tr]
 |d+1,b::r=>by show(tr d r).length=_;rw[L2 d r];simp
def FG(d:Nat)(s:XS):XS:=
 let ψ:=vK (nz d (s.bs.length-d))
 {env:=ot 0 (zp ψ (vY s.env)),bs:=uh ψ (x8 d s.bs),own:=uh ψ (tr d s.bs)}
theorem Kn[YL](ψ:Hd->Hd):∀(vs:List XV) (i:Nat),i<vs.length->(vC (zp ψ vs) i).er=AV.cg ψ (vC vs i).er
 |[],_,h=>by simp at h
 |v::_,0,_=>DI ψ v
 |_::vs,i+1,h=>Kn ψ vs i (by simpa using h)
theorem On(ψ:Hd->Hd):∀vs:List XV,(zp ψ vs).length=vs.length
 |[]=>rfl
 |_::vs=>congrArg (· +1) (On ψ vs)
theorem OG:∀(vs:List XV) (i:Nat),vs.length<=i->vC vs i=.any
 |[],i,_=>by cases i<;>rfl
 |_::_,0,h=>by simp at h
 |_::vs,i+1,h=>OG vs i (by simpa using h)
theorem Ke{α:Type}(f:XV->α):∀l:List (Nat×XV),(vY l).map f=l.map fun p=>f p.2
 |[]=>rfl
 |p::l=>congrArg (f p.2::·) (Ke f l)
theorem Ip(ψ:Hd->Hd):∀l:List (Option XB),(uh ψ l).length=l.length
 |[]=>rfl
 |none::l=>congrArg (· +1) (Ip ψ l)
 |some _::l=>congrArg (· +1) (Ip ψ l)
theorem K4[YL](d:Nat)(s:XS):Wk (entry (s.env.map fun p=>p.2.er) (du s.bs)) (FG d s).er:=by
 have h1:=XN (s.env.map fun p=>p.2.er) (du s.bs) (nz d (s.bs.length-d)) (OO _ _);refine h1.trans (Wk.any (fun i=>?_) (fun i=>?_) ?_ fun t=>?_)
 ·show(bN (uh _ (x8 d s.bs)) i).map XB.er=if i∈nz d (s.bs.length-d)then none else(((du s.bs)[i]?).join).map _
  rw[DM,IT,oW];by_cases hd:i<d
  ·rw[if_pos hd,if_neg (fun h=>by have:=(DX.1 h).1;omega)]
  ·rw[if_neg hd];by_cases h2:i<s.bs.length
   ·rw[if_pos (DX.2 ⟨by omega,by omega⟩)];rfl
   ·rw[if_neg (fun h=>by have:=(DX.1 h).2;omega),Ei _ _ (by omega)]
 ·show(bN (uh _ (tr d s.bs)) i).map XB.er=((nz d (s.bs.length-d))[i]?).bind fun j=>(((du s.bs)[j]?).join).map _;rw[DM,KT,J9];by_cases h:i<s.bs.length-d
  ·rw[if_pos h];show _=(((du s.bs)[d+i]?).join).map _;rw[oW]
  ·rw[if_neg h,Ei _ _ (by omega)];rfl
 ·show(uh _ (tr d s.bs)).length=(nz d (s.bs.length-d)).length;rw[Ip,L2,P0]
 ·show(aR (ot 0 (zp _ (vY s.env))) t).er=(AV.dh _ (s.env.map fun p=>p.2.er)).getD t .un\/(aR (ot 0 (zp _ (vY s.env))) t).er=.any;rw[yC,if_pos (aba _),Nat.sub_zero];by_cases h:t<(vY s.env).length
  ·left;rw[Kn _ _ _ h,Et,<-Ke XV.er];congr 1;have:∀(l:List XV) (i:Nat),i<l.length->(vC l i).er=(l.map XV.er).getD i .un:=fun l=>by
    induction l with
    |nil=>intro i h;simp at h
    |cons v l ih=>
     intro i h;cases i with
     |zero=>rfl
     |succ i=>
      have:=ih i (by simpa using h);show(vC l i).er=(v.er::l.map XV.er).getD (i+1) .un;rw[this,adm]
   exact this _ _ h
  ·right;rw[OG _ _ (by rw[On];omega)];rfl
def Fu(s:XS):ee->Option XV
 |.tmp t=>some (aR s.env t)
 |.cell ag t=>match aR s.env t with
  |.ptr h off=>match s.lk h with
   |some (.box cs)=>ug ag cs off some
   |_=>none
  |.apt h 0=>match s.lk h,ag with
   |some (.arr _ n k x),some m=>match aaa m n with
    |true=>some (.d (.ar n k) x)
    |false=>none
   |_,_=>none
  |.rpt h off=>match s.lk h,ag with
   |some (.rb _ t x),some m=>ug (some m) (jb t x) off some
   |_,_=>none
  |_=>none
def vI(s:XS):List ee->Option (List XV)
 |[]=>some []
 |r::rs=>match Fu s r,vI s rs with
  |some v,some vs=>some (v::vs)
  |_,_=>none
theorem Rp[YL]{r:ee}(h:Fu s r=some v):tX s.er r=some v.er:=by
 unfold Fu at h;split at h
 ·cases h;rfl
 ·rename_i ag t;split at h
  ·rename_i hd off ht;split at h
   ·rename_i cs hl;obtain⟨v',h1,h2⟩:=zw h;cases h1;have e1:s.er.env t=.ptr hd off:=by show(aR s.env t).er=_;rw[ht];rfl
    have e2:s.er.lk hd=some (.box (XV.bz cs)):=by rw[aU,hl];rfl
    simp only[tX,e1,e2];cases ag with
    |none=>exact h2
    |some n=>
     obtain⟨h3,h4⟩:=h2;simp only;rw[if_pos h3,h4]
   ·cases h
  ·rename_i hd ht;split at h
   ·rename_i mt n k x m hl;split at h
    ·rename_i hb;obtain rfl:=θ hb;cases h;have e1:s.er.env t=.eptr hd 1 0 0:=by show(aR s.env t).er=_;rw[ht];rfl
     have e2:s.er.lk hd=some (.row mt 1 (x.l.map (ib k))):=by rw[aU,hl];rfl
     simp only[tX,e1,e2];have hx:=x.len;rw[if_pos ⟨trivial,trivial,trivial,by rw[κ];omega⟩,List.drop_zero,aav (by rw[κ];omega),Dp];rfl
    ·cases h
   ·cases h
  ·rename_i hd off ht;split at h
   ·rename_i mt t2 x m hl;obtain⟨v',h1,h2,h3⟩:=zw h;cases h1;have e1:s.er.env t=.eptr hd 1 off 0:=by show(aR s.env t).er=_;rw[ht];rfl
    have e2:s.er.lk hd=some (.row mt 1 (iq (t2.ds x))):=by rw[aU,hl];rfl
    rw[eN]at h2 h3;rw[κ]at h2;simp only[tX,e1,e2];rw[if_pos ⟨trivial,trivial,trivial,by rw[Aw];exact h2⟩,Fj,Ho,h3,aaz,aaI]
   ·cases h
  ·cases h
theorem MJ[YL]{s:XS}:∀{rs:List ee} {vs:List XV},vI s rs=some vs->nM s.er rs=some (XV.cz vs)
 |[],vs,h=>by cases h;rfl
 |r::rs,vs,h=>by
  unfold vI at h;split at h
  ·rename_i v vs' h1 h2;cases h;show(match tX s.er r,nM s.er rs with|some a,some as=>some (a::as)|_,_=>none)=_;rw[Rp h1,MJ h2];rfl
  ·cases h
def se:List (Nat×XV)->List ee->XS->XS
 |(_,m)::ms,r::rs,s=>match m,r with
  |.slw _ t _,.tmp n=>match aR s.env n with
   |.fln _=>se ms rs (s.put (some n) (.slw (.O s.own.length) t 0) [.row true t []] [])
   |.sl h t 0 len=>se ms rs (CJ s n h t len)
   |_=>se ms rs s
  |_,_=>se ms rs s
 |_,_,s=>s
theorem BY[YL]:∀(ms:List (Nat×XV)) (rs:List ee) (s:XS),Wk s.er (se ms rs s).er
 |[],_,s=>by unfold se;exact Wk.refl _
 |_::_,[],s=>by unfold se;exact Wk.refl _
 |(_,m)::ms,r::rs,s=>by
  unfold se;split
  ·split
   ·rename_i h;refine Wk.trans ?_ (BY ms rs _);rw[eS];exact an.o7 s.er _ _ (by show(aR s.env _).er=_;rw[h];rfl)
   ·rename_i h;exact(Kw h).trans (BY ms rs _)
   ·exact BY ms rs s
  ·exact BY ms rs s
def Cx(rs:List ee)(s:XS)(n:Nat):XV:=match vI s rs with
 |some vs=>vC vs n
 |none=>.any
def P8(rs:List ee)(m:XS)(n:Nat)(s:XS):Bool:=match vI s rs with
 |some vs=>xw 0 m.env vs&&aaa s.bs.length n
 |none=>false
def Mu(rs:List ee)(m s:XS):NZ:=⟨s,AR sx (Cx rs s) m.env (A9 m.own)⟩
def Ax(rs:List ee)(m s:XS):NZ:=Ep sx 0 m.own (Dl sx 0 m.bs (Mu rs m (se m.env rs s)))
def A4(rs:List ee)(m:XS)(n:Nat)(K:cn m.cj->Option R)(st:NZ):Option R:=match P8 rs m n st.s with
 |true=>CY m (Cx rs) st K
 |false=>none
def y7:Hd->Hd->Bool
 |.B i,.B j=>aaa i j
 |.O _,.O _=>true
 |_,_=>false
def O8:List XV->List XV->Bool
 |[],_=>true
 |_::_,[]=>false
 |m::ms,v::vs=>(match m,v with
  |.ptr h _,.ptr h' _=>y7 h h'
  |.apt h _,.apt h' _=>y7 h h'
  |.rpt h _,.rpt h' _=>y7 h h'
  |_,_=>true)&&O8 ms vs
def Tp(rs:List ee)(m s:XS):Bool:=match vI s rs with
 |some vs=>BH (vY m.env) vs&&O8 (vY m.env) vs
 |none=>false
def pc(rs:List ee)(n:Nat):(l:List XS)->XS->(RT l->Option R)->Option R
 |[],_,_=>none
 |[m],s,K=>A4 rs m n (fun v=>K (ln m.cj v)) (Ax rs m s)
 |m::m2::l,s,K=>match Tp rs m s with
  |true=>A4 rs m n (fun v=>K (.inl (ln m.cj v))) (Ax rs m s)
  |false=>pc rs n (m2::l) s fun r=>K (.inr r)
def AE:Value->Value->Bool
 |.iface t (.agg a),.iface t' (.agg c)=>aaa t t'&&(a.isEmpty&&c.isEmpty)
 |_,_=>false
theorem Fz{v:Value}(h:AE v w=true):v=w:=by
 unfold AE at h;split at h
 ·rename_i t a t' c;rw[μ,μ]at h;obtain⟨h1,h2,h3⟩:=h;rw[θ h1,Array.isEmpty_iff.1 h2,Array.isEmpty_iff.1 h3]
 ·cases h
def Az(pv:Value):(l:List XS)->(RT l->Option R)->Option R
 |[],_=>none
 |[m],K=>match m.pv,m.own,u3 m.cj []with
  |some w,[],some v=>match AE w pv with
   |true=>K (ln m.cj v)
   |false=>none
  |_,_,_=>none
 |m::m2::l,K=>match m.pv,m.own,u3 m.cj []with
  |some w,[],some v=>match AE w pv with
   |true=>K (.inl (ln m.cj v))
   |false=>Az pv (m2::l) fun r=>K (.inr r)
  |_,_,_=>Az pv (m2::l) fun r=>K (.inr r)
def Na(rs:List ee)(n:Nat)(out:List XS):Exit->XS->Option (RT out)
 |.normal,s=>pc rs n out s some
 |.ret,s=>pc rs n out s some
 |_,_=>none
def H5(rs:List ee)(out:List XS):Exit->XS->Option (RT out)
 |.normal,s=>pc rs 0 out s some
 |.ret,s=>pc rs 0 out s some
 |.panic [⟨v,false,false⟩],_=>Az v out some
 |_,_=>none
def wx:List XS->Bool
 |[]=>false
 |o::l=>o.pv.isSome||wx l
def WL[YL]:List XV->AV
 |[v]=>v.er
 |vs=>.cn (XV.cz vs)
theorem WS[YL](h:nM s.er rs=some (XV.cz vs)):Bc s.er rs=some (WL vs):=by
 unfold Bc;rw[h]
 match vs with
 |[]=>rfl
 |[_]=>rfl
 |_::_::_=>rfl
theorem Rr(h:xw 0 m.env vs=true)(v:cn m.cj):(m.fill v).pv=none:=by
 unfold XS.pv;split
 ·rename_i k u he;have he:(pf _ m.env _).1=[(k,.c u)]:=he;generalize m.env=l at h he;cases l with
  |nil=>cases he
  |cons p l=>
   obtain⟨k0,v0⟩:=p;cases vs with
   |nil=>cases h
   |cons a vs=>
    have h:(aaa k0 0&&xw 1 l vs)=true:=h;rw[μ]at h;have h1:=θ h.1;have h2:=congrArg (fun l=>l.map Prod.fst) he;have h2:k0::_=[k]:=h2;have:k0=k:=(List.cons.inj h2).1;rw[<-this,h1]
 ·rfl
theorem Mh[YL]{K:cn m.cj->Option R}{r:R}(h:A4 rs m n K (Ax rs m s)=some r):∃v,K v=some r/\(m.fill v).pv=none/\∀(e:Exit),(e=.normal\/e=.ret)->∀nbs:List bn,nbs.map some=du (m.fill v).own->
  tZ n rs (XV.val (m.fill v).env).er (du (m.fill v).bs) nbs e s.er:=by
 unfold A4 at h;split at h
 case h_2=>cases h
 rename_i hok;obtain⟨v,sl,h,hr⟩:=Ly h;have hw:Wk s.er (Ax rs m s).s.er:=(BY m.env rs s).trans ((Gb sx m.bs 0 (Mu rs m (se m.env rs s))).trans (FH sx _ _ _));generalize(Ax rs m s)=st at hok hr hw;unfold P8 at hok;split at hok
 case h_2=>cases hok
 rename_i vs hvs;rw[μ]at hok;obtain⟨hk,hb⟩:=hok;refine⟨v,h,Rr hk v,fun e he nbs hn=>⟨st.s.er,hw,he,sl,?_⟩⟩;have hb:=θ hb;have hres:Cx rs st.s=vC vs:=by funext i;unfold Cx;rw[hvs]
 have henv:(m.fill v).env.map (fun p=>p.2.er)=vs.map fun v=>AV.conv st.s.er.lk (jx sl) v.er:=by have:=congrArg (fun l=>l.map (fun p:Nat×AV=>p.2)) hr.env;simp only[abI]at this;rw[hres]at this;rw[<-FW (f:=fun v=>AV.conv st.s.er.lk (jx sl) v.er) hk (ev:=vC vs) fun i _=>by rw[aan]];exact this
 refine⟨_,hr.nd,WS (MJ hvs),?_,?_,?_⟩
 ·generalize hf:(m.fill v).env=fe at henv;have hl:∀l:List (Nat×XV),XV.cz (l.map (·.2))=l.map fun p=>p.2.er:=fun l=>by
   induction l with
   |nil=>rfl
   |cons p l ih=>show p.2.er::XV.cz (l.map (·.2))=_;rw[ih];rfl
  cases vs with
  |nil=>cases fe with
   |nil=>rfl
   |cons p fe=>cases henv
  |cons a vs=>cases fe with
   |nil=>cases henv
   |cons p fe=>cases vs with
    |nil=>cases fe with
     |nil=>exact(List.head_eq_of_cons_eq henv).symm
     |cons p2 fe=>exact absurd (congrArg List.length henv) (by simp)
    |cons a2 vs=>cases fe with
     |nil=>exact absurd (congrArg List.length henv) (by simp)
     |cons p2 fe=>
      show AV.cn (AV.bq _ _ (XV.cz (a::a2::vs)))=AV.cn (XV.cz ((p::p2::fe).map (·.2)));rw[Fi,<-henv,hl]
 ·rw[hr.bs];apply abN;intro i;rw[aac,aac];by_cases hi:i<n
  ·rw[List.getElem?_range hi];have h2:=oW st.s.bs i;have hl:i<(du st.s.bs).length:=by show i<(List.map _ _).length;rw[κ];omega
   rw[ν hl]at h2|-;have h2:(du st.s.bs)[i]=(bN st.s.bs i).map XB.er:=h2;rw[h2];rfl
  ·rw[aay (by rw[List.length_range];omega),aay (by show(List.map _ _).length<=i;rw[κ];omega)];rfl
 ·rw[hn,hr.own];have:∀l:List Nat,(du (rV st.s l)).map (fun b=>b.map (bn.conv st.s.er.lk (jx sl)))=l.map fun j=>(st.s.er.own j).map (bn.conv st.s.er.lk (jx sl)):=fun l=>by
   induction l with
   |nil=>rfl
   |cons j l ih=>show _::List.map _ (du (rV st.s l))=_::_;rw[ih];rfl
  exact(this sl).symm
theorem qO[YL]{rs:List ee}{n:Nat}:∀{l:List XS} {s:XS} {K:RT l->Option R} {r:R},pc rs n l s K=some r->∃x,K x=some r/\(fS l x).pv=none/\∀(e:Exit),(e=.normal\/e=.ret)->∀nbs:List bn,nbs.map some=du (fS l x).own->
  tZ n rs (XV.val (fS l x).env).er (du (fS l x).bs) nbs e s.er
 |[],_,_,_,h=>by cases h
 |[m],s,K,r,h=>by
  obtain⟨v,h,hp,hv⟩:=Mh (show A4 rs m n (fun v=>K (ln m.cj v)) (Ax rs m s)=some r from h);refine⟨ln m.cj v,h,?_⟩;have e:fS [m] (ln m.cj v)=m.fill v:=by show m.fill (nc m.cj (ln m.cj v))=_;rw[vU]
  rw[e];exact⟨hp,hv⟩
 |m::m2::l,s,K,r,h=>by
  unfold pc at h;split at h
  ·obtain⟨v,h,hp,hv⟩:=Mh h;refine⟨.inl (ln m.cj v),h,?_⟩;have e:fS (m::m2::l) (.inl (ln m.cj v))=m.fill v:=by show m.fill (nc m.cj (ln m.cj v))=_;rw[vU]
   rw[e];exact⟨hp,hv⟩
  ·obtain⟨x,h,hx⟩:=qO (l:=m2::l) h;exact⟨.inr x,h,hx⟩
def CA(N:Nat)(P:Program)(T:List br)(fl:List Nat)(F:List (Nat×Nat×List Nat))(A:List j0)(d:Nat)(fn:Func)(c:Code)(ent:XS)(out:List XS):ke ent.cj (RT out):=
 match aH P fl fn.ntmps c,fF P fn.ntmps fn.results.toList with
 |some rc,some rs=>match wx out,ent.bs with
  |false,_=>kj ent.cj fun v=>fC N T (ry P fl F A c rc) E5 (FG d (ent.fill v)) (Na rs ent.bs.length out)
  |true,[]=>kj ent.cj fun v=>fC N T (ry P fl F A c rc) pI (FG d (ent.fill v)) (H5 rs out)
  |_,_=>kj ent.cj fun _=>none
 |_,_=>kj ent.cj fun _=>none
theorem DD(len:Hd->Nat):∀(l:List (Nat×XV)) (q:List DS),(pf len l q).1.length=l.length
 |[],_=>rfl
 |(_,_)::l,q=>congrArg (· +1) (DD len l _)
theorem vM(len:Hd->Nat):∀(l:List (Option XB)) (q:List DS),(rX len l q).1.length=l.length
 |[],_=>rfl
 |none::l,q=>congrArg (· +1) (vM len l _)
 |some _::l,q=>congrArg (· +1) (vM len l _)
theorem Kq(h:m.pv=some w)(v:cn m.cj):(m.fill v).pv=some w:=by
 unfold XS.pv at h;split at h
 ·rename_i k u he;split at h
  ·rename_i hk;cases h;have:(m.fill v).env=[(k,.c w)]:=by show(pf _ m.env _).1=_;rw[he];rfl
   unfold XS.pv;rw[this];show(match aaa k 1000000 with|true=>some w|false=>none)=some w;rw[hk]
  ·cases h
 ·cases h
theorem Cj(h:m.own=[])(v:cn m.cj):(m.fill v).own=[]:=by show(rX _ m.own _).1=[];rw[h];rfl
theorem GD{pv:Value}:∀{l:List XS} {K:RT l->Option R} {r:R},Az pv l K=some r->∃x,K x=some r/\(fS l x).pv=some pv/\(fS l x).own=[]
 |[],_,_,h=>by cases h
 |[m],K,r,h=>by
  unfold Az at h;split at h
  case h_2=>cases h
  rename_i w v hw ho ht;split at h
  case h_2=>cases h
  rename_i he;refine⟨_,h,?_⟩;have e:fS [m] (ln m.cj v)=m.fill v:=by show m.fill (nc m.cj (ln m.cj v))=_;rw[vU]
  rw[e,<-Fz he];exact⟨Kq hw v,Cj ho v⟩
 |m::m2::l,K,r,h=>by
  unfold Az at h;split at h
  ·rename_i w v hw ho ht;split at h
   ·rename_i he;refine⟨_,h,?_⟩;have e:fS (m::m2::l) (.inl (ln m.cj v))=m.fill v:=by show m.fill (nc m.cj (ln m.cj v))=_;rw[vU]
    rw[e,<-Fz he];exact⟨Kq hw v,Cj ho v⟩
   ·obtain⟨x,h,hx⟩:=GD (l:=m2::l) h;exact⟨.inr x,h,hx⟩
  ·obtain⟨x,h,hx⟩:=GD (l:=m2::l) h;exact⟨.inr x,h,hx⟩
abbrev ny(v:Value):Exit:=.panic [{v:=v,recovered:=false}]
theorem St{len:Hd->Nat}{u:Value}:∀{v:XV} {l:List DS},(XV.lf len v l).1=.c u->v=.c u:=by
 intro v l h;cases v with
 |d t x=>
  cases l with
  |nil=>cases h
  |cons p l=>
   obtain⟨t',x'⟩:=p;have h:s8 t' x'=.c u:=h;unfold s8 at h;split at h<;>cases h
 |c w=>exact h
 |sl hd t o n=>match l,h with
  |[],h=>cases h
  |[_],h=>cases h
  |_::_::_,h=>cases h
 |_=>cases h
theorem JK{v:cn m.cj}(h:(m.fill v).pv=some w):m.pv=some w:=by
 unfold XS.pv at h;split at h
 case h_2=>cases h
 rename_i k u he;have he:(pf _ m.env _).1=[(k,.c u)]:=he;revert he;cases hm:m.env with
 |nil=>intro he;cases he
 |cons p l=>
  obtain⟨k0,v0⟩:=p;cases l with
  |nil=>
   intro he;have he:[(k0,_)]=[(k,XV.c u)]:=he;have h1:=(Prod.mk.inj (List.cons.inj he).1);have h2:=St h1.2;have h3:=h1.1;subst h2 h3;unfold XS.pv;rw[hm];exact h
  |cons q l=>
   obtain⟨k1,v1⟩:=q;intro he;exact absurd (congrArg List.length he) (by simp[pf])
theorem He:∀{l:List XS} {r:RT l},wx l=false->(fS l r).pv=none
 |[],_,_=>rfl
 |[m],r,h=>by
  have h:(m.pv.isSome||false)=false:=h;rw[Bool.or_false]at h;show(m.fill _).pv=none;cases hp:(m.fill (nc m.cj r)).pv with
  |none=>rfl
  |some w=>rw[JK hp]at h;cases h
 |m::m2::l,.inl r,h=>by
  have h:(m.pv.isSome||wx (m2::l))=false:=h;rw[Bool.or_eq_false_iff]at h;show(m.fill _).pv=none;cases hp:(m.fill (nc m.cj r)).pv with
  |none=>rfl
  |some w=>rw[JK hp]at h;cases h.1
 |m::m2::l,.inr r,h=>by have h:(m.pv.isSome||wx (m2::l))=false:=h;rw[Bool.or_eq_false_iff]at h;exact He (l:=m2::l) h.2
def tw[YL](rs:List ee)(o:XS)(nbs:List bn):Exit->an->Prop:=fun e s=>match o.pv with
 |some pv=>e=ny pv
 |none=>tZ 0 rs (XV.val o.env).er (du o.bs) nbs e s
theorem Xt[YL]{r:RT out}{e:Exit}(h:H5 rs out e s=some r)(hnbs:nbs.map some=du (fS out r).own):tw rs (fS out r) nbs e s.er:=by
 unfold H5 at h;split at h
 ·obtain⟨x,hx,hp,hq⟩:=qO h;cases hx;unfold tw;rw[hp];exact hq _ (.inl rfl) nbs hnbs
 ·obtain⟨x,hx,hp,hq⟩:=qO h;cases hx;unfold tw;rw[hp];exact hq _ (.inr rfl) nbs hnbs
 ·obtain⟨x,hx,hp,_⟩:=GD h;cases hx;unfold tw;rw[hp]
 ·cases h
theorem x9.ju(fl:List Nat){rc:bo}{args:List AV}{pv:Value}{o:Option (AV×List bn)}{bs':List (Option bn)}(s0:an)
  (hf:P.funcs[f]?=some fn) (hb:fn.body=some c) (hname:(fn.name== "runtime.NumGoroutine")=false) (hm:P.follows .mixedOrders=true) (hrc:aH P fl fn.ntmps c=some rc) (hrs:fF P fn.ntmps fn.results.toList=some rs)
  (hn:args.length<=fn.ntmps) (hw0:Wk (entry args []) s0) (h:gD P jQ rc (fun e s=>match o with
   |some p=>tZ 0 rs p.1 bs' p.2 e s
   |none=>e=ny pv) s0):match o with
   |some p=>de P f args [] p.1 bs' p.2
   |none=>wj P f args pv:=by
 have hrs0:=CU hrs;cases o with
 |some p=>
  refine fun w G m vs hS hO hA=>.inl ⟨⟨fn,hf,by rw[hb];rfl,hname⟩,DE (r:=none) (n:=0) (callsIn_of_wp hf hb (oC none f) ?_)⟩;have hent:=xU true hn hS hO hA;have hsim0:=hw0 _ _ _ ⟨G,m,hent⟩;refine wpIn_mono (bA hm hrc none jQ _ _ _ _ _ mz.body rfl h hsim0) fun e a' w' ⟨s00,⟨s,hw,hq⟩,hA0⟩=>?_;obtain⟨G1,m1,hA'⟩:=hw _ _ _ hA0;obtain⟨v,hv,hp⟩:=Au (bs:=[]) hrs0 rfl rfl rfl rfl hS hA' hq;have hd:a'.defers=[]:=(dG.1 hA'.defers).2.2 rfl;rcases hq.1 with rfl|rfl<;>exact⟨hd,v,hv,v,rfl,hp⟩
 |none=>
  refine fun w G m vs hS hO hA=>⟨⟨fn,hf,by rw[hb];rfl,hname⟩,DE (r:=none) (n:=0) (callsIn_of_wp hf hb (oC none f) ?_)⟩;have hent:=xU true hn hS hO hA;have hsim0:=hw0 _ _ _ ⟨G,m,hent⟩;refine wpIn_mono (bA hm hrc none jQ _ _ _ _ _ mz.body rfl h hsim0) fun e a' w' ⟨s,hq,G1,m1,hA'⟩=>?_;have hq:e=.panic [{v:=pv,recovered:=false}]:=hq;subst hq;have hd:a'.defers=[]:=(dG.1 hA'.defers).2.2 rfl;exact⟨hd,rfl,bIf (P:=P) rfl rfl rfl rfl hS hA' rfl rfl⟩
theorem KN(N:Nat){T:List br}(hT:kU P T)(fl:List Nat)(A:List j0)(d:Nat)(RF:List (Nat×Nat×List Nat)){F:ke ent.cj (RT out)}(hf:P.funcs[f]?=some fn)(hb:fn.body=some c)(hname:(fn.name== "runtime.NumGoroutine")=false)(hm:P.follows .mixedOrders=true)
  (hn:ent.env.length<=fn.ntmps) (hF:∀a,iz ent.cj F a=iz ent.cj (CA N P T fl RF A d fn c ent out) a):aF P ⟨f,ent,out,F⟩:=by
 intro _ v r h nbs hnbs;have h:iz ent.cj F v=some r:=h;rw[hF]at h;unfold CA at h;split at h
 case h_2=>rw[fH]at h;cases h
 rename_i rc rs hrc hrs;have hlen:(du (ent.fill v).bs).length=ent.bs.length:=by show(List.map _ (rX _ ent.bs _).1).length=_;rw[κ,vM]
 have hargs:((ent.fill v).env.map fun p=>p.2.er).length<=fn.ntmps:=by show(List.map _ (pf _ ent.env _).1).length<=_;rw[κ,DD];exact hn
 show tj P f _ _ (fS out r) nbs;split at h
 ·rw[fH]at h;rename_i hany;have hpv:(fS out r).pv=none:=He hany;unfold tj;rw[hpv];refine de.ju fl _ hf hb hname hm hrc hrs hargs (K4 d (ent.fill v)) ?_;have:=cL hT (zb P fl RF A c rc) _ E5 zd jy.no h (Q:=tZ ent.bs.length rs (XV.val (fS out r).env).er (du (fS out r).bs) nbs) fun e s' h=>by
   cases e with
   |normal=>
    obtain⟨x,hx,_,hq⟩:=qO (show pc rs ent.bs.length out s' some=some r from h);cases hx;exact hq _ (.inl rfl) nbs hnbs
   |ret=>
    obtain⟨x,hx,_,hq⟩:=qO (show pc rs ent.bs.length out s' some=some r from h);cases hx;exact hq _ (.inr rfl) nbs hnbs
   |_=>cases h
  rw[yy]at this;rw[hlen];exact this
 ·rename_i hbs;rw[fH]at h;have hb0:du (ent.fill v).bs=[]:=by rw[H0 hbs];rfl
  have hrun:=cL hT (zb P fl RF A c rc) _ pI jQ jy.body h (Q:=tw rs (fS out r) nbs) fun e s' h=>Xt h hnbs;rw[yy]at hrun;rw[hb0];have hwk:=K4 d (ent.fill v);rw[hb0]at hwk;unfold tj;cases hp:(fS out r).pv with
  |none=>
   refine x9.ju fl (pv:=.nilIface) (o:=some ((XV.val (fS out r).env).er,nbs)) _ hf hb hname hm hrc hrs hargs hwk ?_;have e:tw rs (fS out r) nbs=tZ 0 rs (XV.val (fS out r).env).er (du (fS out r).bs) nbs:=by funext e s;unfold tw;rw[hp]
   rw[e]at hrun;exact hrun
  |some pv=>
   intro _;refine x9.ju fl (pv:=pv) (o:=none) (bs':=[]) _ hf hb hname hm hrc hrs hargs hwk ?_;have e:tw rs (fS out r) nbs=fun e _=>e=ny pv:=by funext e s;unfold tw;rw[hp]
   rw[e]at hrun;exact hrun
 ·rw[fH]at h;cases h
theorem QS(N:Nat){T:List br}(hT:kU P T)(fl:List Nat)(A:List j0)(d:Nat){F:ke ent.cj (RT out)}(hf:P.funcs[f]?=some fn)(hb:fn.body=some c)(hname:(fn.name== "runtime.NumGoroutine")=false)(hm:P.follows .mixedOrders=true)
  (hn:ent.env.length<=fn.ntmps) (hF:∀a,iz ent.cj F a=iz ent.cj (CA N P T fl [] A d fn c ent out) a):aF P ⟨f,ent,out,F⟩:=KN N hT fl A d [] hf hb hname hm hn hF
theorem tc{a:br}{T:List br}(h:aF P a)(t:kU P T):kU P (a::T):=⟨h,t⟩
theorem tn:kU P []:=trivial
theorem xf(N:Nat){T:List br}(hT:kU P T)(fl:List Nat)(A:List j0)(d:Nat){F:ke ent.cj (RT out)}(hf:P.funcs[f]?=some fn)(hb:fn.body=some c)(hk:(!(fn.name== "runtime.NumGoroutine")&&(P.follows .mixedOrders&&ac0 ent.env.length fn.ntmps))=true)(hF:∀a,iz ent.cj F a=iz ent.cj (CA N P T fl [] A d fn c ent out) a):aF P ⟨f,ent,out,F⟩:=by simp only[μ,aaY]at hk;exact QS N hT fl A d hf hb hk.1 hk.2.1 (abf hk.2.2) hF
def dd(t:Ty):XV:=.d t t.z
end
section
variable{R:Type}
def yE(P:Program)(u u1:FrameMode)(g:br):Prop:=∀[YL] (v:cn g.ent.cj) (r:RT g.out),iz g.ent.cj g.F v=some r->(fS g.out r).own=[]->
 pw P g.fn ((g.ent.fill v).env.map fun p=>p.2.er) (du (g.ent.fill v).bs) u u1 (du (fS g.out r).bs)
def Lo(t:Nat)(pv:Value)(s:XS):XS:={env:=(t,.c pv)::ot 0 (vY s.env),bs:=s.bs,own:=[]}
def JE(s:XS):XS:={env:=ot 0 (vY s.env),bs:=s.bs,own:=[]}
theorem PO[YL](l:List (Nat×XV))(t:Nat):(aR (ot 0 (vY l)) t).er=(l.map fun p=>p.2.er).getD t .un\/(aR (ot 0 (vY l)) t).er=.any:=by
 rw[yC,if_pos (aba _),Nat.sub_zero];have:∀(l:List (Nat×XV)) (i:Nat),(vC (vY l) i).er=(l.map fun p=>p.2.er).getD i .un\/(vC (vY l) i).er=.any:=fun l=>by
  induction l with
  |nil=>intro i;exact .inr rfl
  |cons v l ih=>
   intro i;cases i with
   |zero=>exact .inl rfl
   |succ i=>
    rcases ih i with h|h
    ·left;show(vC (vY l) i).er=(v.2.er::l.map fun p=>p.2.er).getD (i+1) .un;rw[h,adm]
    ·exact .inr h
 exact this l t
theorem Xp[YL](s:XS):Wk (entry (s.env.map fun p=>p.2.er) (du s.bs)) (JE s).er:=by refine Wk.any (fun i=>?_) (fun i=>rfl) rfl fun t=>PO s.env t;show(bN s.bs i).map XB.er=((du s.bs)[i]?).join;rw[oW]
theorem WO[YL](t:Nat)(pv:Value)(s:XS):Wk (BC (s.env.map fun p=>p.2.er) (du s.bs) t pv) (Lo t pv s).er:=by
 have e:BC (s.env.map fun p=>p.2.er) (du s.bs) t pv={env:=fun i=>if i=t then .D (.C pv)else(s.env.map fun p=>p.2.er).getD i .un,bs:=fun i=>((du s.bs)[i]?).join,own:=fun _=>none,nx:=0}:=by
  refine an.ext' (fun i=>?_) (fun i=>?_) (fun i=>?_) rfl
  ·show gb _ t _ i=_;unfold gb;rfl
  ·rfl
  ·rfl
 rw[e];refine Wk.any (fun i=>?_) (fun i=>rfl) rfl fun i=>?_
 ·show(bN s.bs i).map XB.er=((du s.bs)[i]?).join;rw[oW]
 ·show(if aaa i t then XV.c pv else aR (ot 0 (vY s.env)) i).er=_\/_;show(if aaa i t then XV.c pv else aR (ot 0 (vY s.env)) i).er=(if i=t then AV.D (DV.C pv)else(List.map (fun p=>p.snd.er) s.env).getD i AV.un)\/(if aaa i t then XV.c pv else aR (ot 0 (vY s.env)) i).er=.any;by_cases h:i=t
  ·left;rw[if_pos (by rw[abn];exact h),if_pos h];rfl
  ·rw[if_neg (by rw[abn];exact h),if_neg h];exact PO s.env i
def bS8:Code->Option (Nat×Code)
 |.seq (.region _ ops false) rest=>match ops.toList with
  |[o]=>match o.dst with
   |some t=>some (t,rest)
   |none=>none
  |_=>none
 |_=>none
def NG(N:Nat)(P:Program)(T:List br)(fl:List Nat)(A:List j0)(pv:Value)(t:Nat)(fn:Func)(rest:Code)(ent:XS)(out:List XS):ke ent.cj (RT out):=
 match aH P fl fn.ntmps rest,fF P fn.ntmps fn.results.toList with
 |some rc,some rs=>kj ent.cj fun v=>fC N T (ry P fl [] A rest rc) pI (Lo t pv (ent.fill v)) (Na rs ent.bs.length out)
 |_,_=>kj ent.cj fun _=>none
theorem Mz(N:Nat){T:List br}(hT:kU P T)(fl:List Nat)(A:List j0){id t:Nat}{o:Oper}{cl:Call}{rest:Code}{pv:Value}{F:ke ent.cj (RT out)}
  (hf:P.funcs[f]?=some fn) (hb:fn.body=some (.seq (.region id #[o] false) rest)) (hname:(fn.name== "runtime.NumGoroutine")=false)
  (ho:o.op=.call cl) (hcl:cl.callee=.builtin .recover) (hca:cl.args=#[]) (hog:o.guard=none) (hot:o.dst=some t) (ht:t<fn.ntmps) (hm:P.follows .mixedOrders=true) (hrec:ER u u1 pv)
  (hn:ent.env.length<=fn.ntmps) (hF:∀a,iz ent.cj F a=iz ent.cj (NG N P T fl A pv t fn rest ent out) a):yE P u u1 ⟨f,ent,out,F⟩:=by
 intro _ v r h hown;have h:iz ent.cj F v=some r:=h;rw[hF]at h;unfold NG at h;split at h
 case h_2=>rw[fH]at h;cases h
 rename_i rc rs hrc hrs;rw[fH]at h;have hlen:(du (ent.fill v).bs).length=ent.bs.length:=by show(List.map _ (rX _ ent.bs _).1).length=_;rw[κ,vM]
 have hargs:((ent.fill v).env.map fun p=>p.2.er).length<=fn.ntmps:=by show(List.map _ (pf _ ent.env _).1).length<=_;rw[κ,DD];exact hn
 have hown:(fS out r).own=[]:=hown;refine pw.uc fl (r:=(XV.val (fS out r).env).er) hf hb hname ho hcl hca hog hot ht hm hrc hrs hargs hrec (WO t pv (ent.fill v)) ?_;rw[hlen];have:=cL hT (zb P fl [] A rest rc) _ pI jQ jy.body h (Q:=tZ ent.bs.length rs (XV.val (fS out r).env).er (du (fS out r).bs) []) fun e s' h=>by
  cases e with
  |normal=>
   obtain⟨x,hx,_,hq⟩:=qO (show pc rs ent.bs.length out s' some=some r from h);cases hx;exact hq _ (.inl rfl) [] (by rw[hown];rfl)
  |ret=>
   obtain⟨x,hx,_,hq⟩:=qO (show pc rs ent.bs.length out s' some=some r from h);cases hx;exact hq _ (.inr rfl) [] (by rw[hown];rfl)
  |_=>cases h
 rw[yy]at this;exact this
def Qc(N:Nat)(vs:List XV)(s:XS):XS:={s with env:=ng N s.env++ot (N+1) vs}
theorem HR(N:Nat)(l2:List (Nat×XV))(h2:∀i,i<N->aR l2 i=.any):∀(l:List (Nat×XV)) (i:Nat),i<N->aR (ng N l++l2) i=aR l i
 |[],i,h=>h2 i h
 |(k,v)::l,i,h=>by
  unfold ng;split
  ·show(if aaa i k then v else aR (ng N l++l2) i)=if aaa i k then v else aR l i
   rw[HR N l2 h2 l i h]
  ·rename_i hk;have hk:¬k<N:=fun h=>by rw[show adp k N=true by rw[Nat.blt_eq];exact h]at hk;cases hk
   show aR (ng N l++l2) i=if aaa i k then v else aR l i
   rw[HR N l2 h2 l i h,if_neg (by rw[abn];omega)]
theorem Ff(N:Nat)(l2:List (Nat×XV)):∀(l:List (Nat×XV)) (i:Nat),N<=i->aR (ng N l++l2) i=aR l2 i
 |[],i,h=>rfl
 |(k,v)::l,i,h=>by
  unfold ng;split
  ·rename_i hk;have hk:k<N:=by rwa[Nat.blt_eq]at hk
   show(if aaa i k then v else aR (ng N l++l2) i)=_;rw[if_neg (by rw[abn];omega),Ff N l2 l i h]
  ·exact Ff N l2 l i h
theorem Qg[YL]:∀(vs:List XV) (i:Nat),(vC vs i).er=(XV.cz vs).getD i .any
 |[],i=>by cases i<;>rfl
 |v::vs,0=>rfl
 |v::vs,i+1=>by show(vC vs i).er=(v.er::XV.cz vs).getD (i+1) .any;rw[Qg vs i,adm]
theorem WH[YL](N:Nat)(vs:List XV)(s:XS):(Qc N vs s).er=BD N (XV.cz vs) s.er:=by
 refine an.ext' (fun i=>?_) (fun i=>rfl) (fun i=>rfl) rfl;show(aR (ng N s.env++ot (N+1) vs) i).er=if i<N then(aR s.env i).er else if i=N then .any else(XV.cz vs).getD (i-N-1) .any
 by_cases h:i<N
 ·rw[if_pos h,HR N _ (fun j hj=>by rw[yC,if_neg (by omega)]) _ i h]
 ·rw[if_neg h,Ff N _ _ i (by omega),yC];by_cases h2:i=N
  ·rw[if_pos h2,if_neg (by omega)];rfl
  ·rw[if_neg h2,if_pos (by omega),Qg];rw[Nat.sub_sub]
def BR(N:Nat)(s:XS):Nat->List XV
 |0=>[]
 |n+1=>BR N s n++[aR s.env (N+1+n)]
theorem F6[YL](N:Nat)(s:XS):∀n,XV.cz (BR N s n)=qg N s.er n
 |0=>rfl
 |n+1=>by show XV.cz (BR N s n++[_])=qg N s.er n++[_];rw[qF,F6 N s n];rfl
def Bo:List XS->Bool
 |[]=>true
 |m::l=>(match m.own with
  |[]=>true
  |_=>false)&&Bo l
theorem P3:∀{l:List XS} (r:RT l),Bo l=true->(fS l r).own=[]
 |[],_,_=>rfl
 |[m],r,h=>by
  have h:((match m.own with|[]=>true|_=>false)&&true)=true:=h;rw[abY]at h;split at h
  ·rename_i ho;exact Cj ho _
  ·cases h
 |m::m2::l,.inl r,h=>by
  have h:((match m.own with|[]=>true|_=>false)&&Bo (m2::l))=true:=h;rw[μ]at h;obtain⟨h,_⟩:=h;split at h
  ·rename_i ho;exact Cj ho _
  ·cases h
 |m::m2::l,.inr r,h=>by have h:((match m.own with|[]=>true|_=>false)&&Bo (m2::l))=true:=h;rw[μ]at h;exact P3 (l:=m2::l) r h.2
def NJ(g:br)(N k:Nat)(s:XS)(K:XS->Option R):Option R:=match Bo g.out,I6 (IP Ci s 0 g.ent.bs (AR Ci (vC (BR N s k)) g.ent.env (A9 g.ent.bs)))with
 |true,some hs=>De s g (BR N s k) none K hs
 |_,_=>none
def BT(g:br)(N k:Nat)(rs:List ee)(n:Nat)(out:List XS)(s:XS):Option (RT out):=NJ g N k s fun s'=>pc rs n out s' some
def MC(gr gp:br)(pv:Value)(N k:Nat)(rs:List ee)(n:Nat)(out:List XS):Exit->XS->Option (RT out)
 |.normal,s=>BT gr N k rs n out s
 |.ret,s=>BT gr N k rs n out s
 |.panic [⟨v,false,false⟩],s=>match AE v pv with
  |true=>BT gp N k rs n out s
  |false=>none
 |_,_=>none
def Bq(N:Nat)(T:List br){R:Type}[DecidableEq R](K2:Exit->XS->Option R):List XC->XS->(XS->Option R)->Option R
 |[],s,K=>K s
 |c::cs,s,K=>fC N T c pI s (Ac (fun s'=>Bq N T K2 cs s' K) K2)
def bQs(rs:List ee)(n:Nat)(out:List XS):Exit->XS->Option (RT out)
 |.ret,s=>pc rs n out s some
 |_,_=>none
def EY:Code->List Code
 |.seq a b=>a::EY b
 |c=>[c]
def PW:Nat->Code->Code
 |0,c=>c
 |n+1,.seq _ b=>PW n b
 |_,c=>c
def Ah(P:Program)(fl:List Nat):List (List j0)->List Code->List bo->List XC
 |AP,c::cs,rc::rcs=>ry P fl [] (AP.headD []) c rc::Ah P fl AP.tail cs rcs
 |AP,[],rc::rcs=>ry P fl [] [] .skip rc::Ah P fl AP.tail [] rcs
 |_,_,[]=>[]
def ON:List Code->Nat->List Oper
 |[],_=>[]
 |c::_,0=>match c with
  |.region _ ops _=>ops.toList
  |_=>[]
 |_::cs,n+1=>ON cs n
def Jh(N:Nat)(P:Program)(T:List br)(fl:List Nat)(A:List j0)(AP:List (List j0))(gr gp:br)(pv:Value)(fn:Func)(c:Code)(ent:XS)(out:List XS):ke ent.cj (RT out):=
 match fD P fl fn.ntmps c,fF P fn.ntmps fn.results.toList with
 |some (rcs,ros,g,xs,rc),some rs=>match aaa g gr.fn&&aaa g gp.fn with
  | true=>kj ent.cj fun v=>Bq N T (bQs rs ent.bs.length out) (Ah P fl AP (EY c) rcs) (JE (ent.fill v)) fun s=>o9 T (xP ros ((ON (EY c) rcs.length).map (zG P))) s fun s=>wL s xs fun vs =>
    fC N T (ry P fl [] A (PW (rcs.length+1) c) rc) pI (Qc fn.ntmps vs s) (MC gr gp pv fn.ntmps xs.length rs ent.bs.length out)
  |false=>kj ent.cj fun _=>none
 |_,_=>kj ent.cj fun _=>none
theorem EV[YL]{P:Program}{N:Nat}{T:List br}(hT:kU P T){fl:List Nat}[DecidableEq R]{r:R}{KP:an->Prop}{Q:Exit->an->Prop}{K:XS->Option R}{K2:Exit->XS->Option R}(hK:∀s,K s=some r->KP s.er)(hQ:∀e s,K2 e s=some r->Q e s.er):∀{AP:List (List j0)} {cs:List Code} {rcs:List bo} {s:XS},Bq N T K2 (Ah P fl AP cs rcs) s K=some r->xd P rcs KP Q s.er
 |_,[],[],s,h=>hK s h
 |_,_::_,[],s,h=>hK s h
 |AP,[],rc::rcs,s,h=>by
  have h:fC N T (ry P fl [] [] .skip rc) pI s (Ac (fun s'=>Bq N T K2 (Ah P fl AP.tail [] rcs) s' K) K2)=some r:=h;have:=cL hT (zb P fl [] [] .skip rc) _ pI jQ jy.body h (Q:=yJ (xd P rcs KP Q) Q) fun e s' h=>by
   cases e with
   |normal=>exact EV hT hK hQ h
   |_=>exact hQ _ _ h
  rw[yy]at this;exact this
 |AP,c::cs,rc::rcs,s,h=>by
  have h:fC N T (ry P fl [] (AP.headD []) c rc) pI s (Ac (fun s'=>Bq N T K2 (Ah P fl AP.tail cs rcs) s' K) K2)=some r:=h;have:=cL hT (zb P fl [] (AP.headD []) c rc) _ pI jQ jy.body h (Q:=yJ (xd P rcs KP Q) Q) fun e s' h=>by
   cases e with
   |normal=>exact EV hT hK hQ h
   |_=>exact hQ _ _ h
  rw[yy]at this;exact this
theorem HS[YL]{g:br}(hg:yE P u u1 g){r:RT out}(h:BT g N k rs n out s=some r)(hnbs:nbs.map some=du (fS out r).own):
  ∃hs ma,hs.Nodup/\sn s.er.nx hs=true/\(∀h∈hs,(s.er.lk h).any bn.qe=false)/\ma.length=hs.length/\
   pw P g.fn (AV.bq s.er.lk (np hs) (qg N s.er k)) (uN s.er.lk hs) u u1 ma/\tZ n rs (XV.val (fS out r).env).er (du (fS out r).bs) nbs .ret (hH s.er hs (qg N s.er k) none .any ma []):=by
 unfold BT NJ at h;split at h
 case h_2=>cases h
 rename_i hds hno _;obtain⟨v,rr,bl,hr,hbl,hpv,hargs,hh,c1,c2,c3,c4,c5,hk,he⟩:=L5 h;have hown:=P3 rr hno;have hrec:=hg v rr hr hown;rw[hargs,<-hh,F6]at hrec;obtain⟨x,hx,_,hq⟩:=qO hk;cases hx;have hend:=hq .ret (.inr rfl) nbs hnbs;rw[he,F6]at hend;have hbl0:bl=[]:=by rw[hown]at hbl;exact abQ.1 (abQ.1 hbl)
 subst hbl0;exact⟨hds,_,c1,c2,c4,c5,hrec,hend⟩
theorem VO(N:Nat){T:List br}(hT:kU P T)(fl:List Nat)(A:List j0)(AP:List (List j0)){gr gp:br}{pv:Value}(hgr:yE P .returning .returning gr)(hgp:yE P (.panicking [{v:=pv,recovered:=false}]) (.panicking [{v:=pv,recovered:=true}]) gp){F:ke ent.cj (RT out)}(hf:P.funcs[f]?=some fn)(hb:fn.body=some c)(hname:(fn.name== "runtime.NumGoroutine")=false)(hm:P.follows .mixedOrders=true)
  (hno:wx out=false) (hn:ent.env.length<=fn.ntmps) (hF:∀a,iz ent.cj F a=iz ent.cj (Jh N P T fl A AP gr gp pv fn c ent out) a):aF P ⟨f,ent,out,F⟩:=by
 intro _ v r h nbs hnbs;have h:iz ent.cj F v=some r:=h;rw[hF]at h;unfold Jh at h;split at h
 case h_2=>rw[fH]at h;cases h
 rename_i rcs ros g xs rc rs hrc hrs;split at h
 case h_2=>rw[fH]at h;cases h
 rename_i hg;rw[fH]at h;rw[μ]at hg;have hg1:=θ hg.1;have hg2:=θ hg.2;have hlen:(du (ent.fill v).bs).length=ent.bs.length:=by show(List.map _ (rX _ ent.bs _).1).length=_;rw[κ,vM]
 have hargs:((ent.fill v).env.map fun p=>p.2.er).length<=fn.ntmps:=by show(List.map _ (pf _ ent.env _).1).length<=_;rw[κ,DD];exact hn
 show tj P f _ _ (fS out r) nbs;unfold tj;rw[He hno];refine de.pj fl hf hb hname hm hrc hrs hargs (Xp (ent.fill v)) ?_;rw[hlen];refine EV hT (fun s h=>?_) (fun e s h=>?_) h
 case refine_2=>
  cases e with
  |ret=>
   obtain⟨x,hx,_,hq⟩:=qO (show pc rs ent.bs.length out s some=some r from h);cases hx;exact hq _ (.inr rfl) nbs hnbs
  |_=>cases h
 have:=lQ hT h (KP:=fun s'=>gD P jQ rc (EO P fn.ntmps ent.bs.length g xs.length rs (XV.val (fS out r).env).er (du (fS out r).bs) nbs) (BD fn.ntmps (xs.map s'.ev) s')) fun s' h=>by
  obtain⟨vs,h,e⟩:=wc h;rw[e,<-WH];have:=cL hT (zb P fl [] A _ rc) _ pI jQ jy.body h (Q:=EO P fn.ntmps ent.bs.length g xs.length rs (XV.val (fS out r).env).er (du (fS out r).bs) nbs) fun e s2 h=>by
   unfold MC at h;split at h
   ·obtain⟨hs,ma,q⟩:=HS hgr h hnbs;rw[<-hg1]at q;exact⟨_,_,.inl ⟨.inl rfl,rfl,rfl⟩,hs,ma,q⟩
   ·obtain⟨hs,ma,q⟩:=HS hgr h hnbs;rw[<-hg1]at q;exact⟨_,_,.inl ⟨.inr rfl,rfl,rfl⟩,hs,ma,q⟩
   ·split at h
    ·rename_i w _ he;obtain rfl:=Fz he;obtain⟨hs,ma,q⟩:=HS hgp (by assumption) hnbs;rw[<-hg2]at q;exact⟨_,_,.inr ⟨_,rfl,rfl,rfl⟩,hs,ma,q⟩
    ·cases h
   ·cases h
  rw[yy]at this;exact this
 rw[pA]at this;exact this
theorem PB(N:Nat){T:List br}(hT:kU P T)(fl:List Nat)(A:List j0){gr gp:br}{pv:Value}(hgr:yE P .returning .returning gr)(hgp:yE P (.panicking [{v:=pv,recovered:=false}]) (.panicking [{v:=pv,recovered:=true}]) gp){F:ke ent.cj (RT out)}(hf:P.funcs[f]?=some fn)(hb:fn.body=some c)(hname:(fn.name== "runtime.NumGoroutine")=false)(hm:P.follows .mixedOrders=true)
  (hno:wx out=false) (hn:ent.env.length<=fn.ntmps) (hF:∀a,iz ent.cj F a=iz ent.cj (Jh N P T fl A [] gr gp pv fn c ent out) a):aF P ⟨f,ent,out,F⟩:=VO N hT fl A [] hgr hgp hf hb hname hm hno hn hF
end
end Go.Eng
namespace Go.Eng
open Go.RowKit Go.ChangeShapes Go.WideShapes Go.ChangeAt
variable{P:Program}{t e:TypeId}{G:Gh}{m:HM}{W w:World}{v:Value}{α H:Type}{k base:Nat}{cs:List Value}{ds:List DV}{f:Nat->Option Value}{vs:Array Value}{d:TypeDesc}
def o6(w:World):Gh:=fun b o=>w.cell? ⟨b,o,none⟩
def fw(G:Gh)(ds:List DV)(cs:List Value):Prop:=ds.length=cs.length/\DV.cells G (fun j=>cs[j]?) 0 ds
theorem fw.nil:fw G [] []:=⟨rfl,by simp[DV.cells]⟩
theorem fw.app{d1 d2:List DV}(n:Nat)(h1:fw G d1 (cs.take n))(h2:fw G d2 (cs.drop n)):fw G (d1++d2) cs:=by
 obtain⟨l1,c1⟩:=h1;obtain⟨l2,c2⟩:=h2;rw[aao]at l1;rw[aat]at l2;refine⟨by rw[ε];omega,DV.fy (DV.eu (fun i hi=>?_) c1) (DV.eu (o:=0) (fun i hi=>?_) c2)⟩
 ·simp only[aan];rw[aaH (by omega)]
 ·simp only[aan];rw[abg];rcases aaV n cs.length with h|h
  ·rw[show d1.length=n by omega]
  ·exfalso;omega
theorem fw.one{d:DV}(h:DV.aq G d v):fw G [d] [v]:=⟨rfl,by simp[DV.cells];exact h⟩
structure Cv (P:Program) (t:TypeId) {α:Type} (row:α->List DV) (k:Nat) (ok:α->Prop):Prop where
 len:∀x,(row x).length=k
 cells:P.cellsOf t=k
 get:∀{H:Type} (enc:TypeId×Value->H) (w:World) (spare:Nat->Bool) (held:Bool) (fuel:Nat) (cs:List Value) (r:DataW H×List MemPlace),DataW.trod enc P w 0 spare held fuel t cs=some r->∃x,ok x/\fw (o6 w) (row x) cs
theorem Cv.int{P:Program}{t:TypeId}{k:IntKind}(ht:P.underlying t=some (.int k))(hc:P.cellsOf t=1):Cv P t (Ty.i k).ds 1 fun n=>k.min<=n/\n<=k.max:=
 ⟨fun _=>rfl,hc,fun enc w spare held fuel cs r h=>by
  obtain⟨n,rfl,_,hw⟩:=DataW.trod_int ht h;simp only[Lit.wf,μ,decide_eq_true_eq]at hw;exact⟨n,hw,fw.one (by unfold DV.aq;rfl)⟩⟩
theorem Cv.bool{P:Program}{t:TypeId}(ht:P.underlying t=some .bool)(hc:P.cellsOf t=1):Cv P t Ty.b.ds 1 fun _=>True:=
 ⟨fun _=>rfl,hc,fun enc w spare held fuel cs r h=>by
  obtain⟨b,rfl,_⟩:=DataW.trod_bool ht h;exact⟨b,trivial,fw.one (by unfold DV.aq;rfl)⟩⟩
theorem Cv.string{P:Program}{t:TypeId}(ht:P.underlying t=some .string)(hc:P.cellsOf t=1):Cv P t Ty.s.ds 1 fun s=>s.length<=9223372036854775807:=
 ⟨fun _=>rfl,hc,fun enc w spare held fuel cs r h=>by
  obtain⟨s,rfl,_,hs⟩:=DataW.trod_string ht h;exact⟨s.data.toList,by simpa[maxLen]using hs,fw.one (by unfold DV.aq;rfl)⟩⟩
theorem Ih{α:Type}{Q:Nat->α->Prop}:∀(n:Nat),(∀i,i<n->∃x,Q i x)->∃xs:List α,xs.length=n/\∀i x,xs[i]?=some x->Q i x
 |0,_=>⟨[],rfl,fun i x h=>by simp at h⟩
 |n+1,h=>by
  obtain⟨xs,h1,h2⟩:=Ih n (fun i hi=>h i (by omega));obtain⟨x,hx⟩:=h n (by omega);refine⟨xs++[x],by simp[h1],fun i y hy=>?_⟩;rcases aaV i xs.length with hi|hi
  ·rw[aak hi]at hy;exact h2 i y hy
  ·rw[aal hi]at hy;have:i-xs.length=0:=by
    rcases Nat.eq_zero_or_pos (i-xs.length)with e|e
    ·exact e
    ·rw[aay (by simp;omega)]at hy;cases hy
   rw[this]at hy;simp at hy;subst hy;rw[show i=n by omega];exact hx
theorem OP{α:Type}{G:Gh}{row:α->List DV}{k:Nat}{f:Nat->Option Value}(hk:∀x,(row x).length=k):∀(xs:List α) (o:Nat),(∀i x,xs[i]?=some x->DV.cells G f (o+i*k) (row x))->DV.rows G f k o (xs.map row)
 |[],_,_=>by simp[DV.rows]
 |x::xs,o,h=>by simp only[aaM];unfold DV.rows;refine⟨hk x,by simpa using h 0 x rfl,OP hk xs (o+k) (fun i y hy=>?_)⟩;have:=h (i+1) y (by simpa using hy);rwa[Nat.add_mul,Nat.one_mul,Nat.add_comm (i*k) k,<-ab6]at this
theorem Cv.slice{P:Program}{t e:TypeId}{α:Type}{row:α->List DV}{k:Nat}{ok:α->Prop}(hE:Cv P e row k ok)(hk:0<k)(ht:P.underlying t=some (.slice e))(hc:P.cellsOf t=1):
  Cv P t (fun xs:List α=>[DV.L (xs.map row)]) 1 fun xs=>xs.length<=9223372036854775807/\∀x∈xs,ok x:=
 ⟨fun _=>rfl,hc,fun enc w spare held fuel cs r h=>by
  rcases Go.Deep.open_slice ht h with⟨rfl,_⟩|⟨a,len,cap,m,n,D,Pl,rfl,_,hl,hm,hmm,_,hi⟩
  ·refine⟨[],⟨by simp,by simp⟩,fw.one ?_⟩;unfold DV.aq;exact⟨none,0,rfl,me _,fun _=>rfl,fun h=>absurd rfl h⟩
  ·have hlm:len<=m:=by rw[hmm];split<;>omega
   obtain⟨xs,h1,h2⟩:=Ih (Q:=fun i x=>ok x/\∃cs',w.cells? 0 (a.add (i*P.cellsOf e)) (P.cellsOf e)=some cs'/\fw (o6 w) (row x) cs') len (fun i hil=>by
    obtain⟨cs',hc',htr⟩:=hi i (by omega);obtain⟨x,hx,hr⟩:=hE.get enc w spare held n cs' _ htr;exact⟨x,hx,cs',hc',hr⟩)
   refine⟨xs,⟨by rw[h1];simp[maxLen]at hm;omega,fun x hx=>?_⟩,fw.one ?_⟩
   ·obtain⟨i,hi⟩:=aaK hx;exact(h2 i x hi).1
   ·unfold DV.aq;refine⟨some a,cap,by rw[κ,h1],by rw[κ,h1];exact hl,(fun e=>by cases e),fun hne=>?_⟩;have hx0:∃x,xs[0]?=some x:=by
     cases xs with
     |nil=>simp at hne
     |cons x _=>exact⟨x,rfl⟩
    obtain⟨x0,hx0⟩:=hx0;obtain⟨_,cs0,hc0,hl0,_⟩:=h2 0 x0 hx0;obtain⟨_,hcl0,hat0⟩:=World.cells?_some hc0;rw[hE.cells]at hcl0 hat0;have hspot:a=⟨a.block,a.off,none⟩:=by
     have h3:=hat0 0 hk;have h4:(cs0[0]?).isSome=true:=by rw[ν (by omega)];rfl
     rw[<-h3]at h4;obtain⟨b,o,sp⟩:=a;cases sp with
     |none=>rfl
     |some _=>exfalso;simp[World.cell?,Addr.add]at h4;split at h4<;>cases h4
    refine⟨a.block,a.off,k,by rw[<-hspot],OP hE.len xs a.off (fun i x hx=>?_)⟩;obtain⟨_,cs',hc',hl',hcr⟩:=h2 i x hx;obtain⟨_,hcl,hat⟩:=World.cells?_some hc';rw[hE.cells]at hcl hat;refine DV.eu (o:=0) (fun j hj=>?_) hcr;have hj':j<k:=by rw[hE.len]at hj;exact hj
    have:=hat j hj';rw[hspot,Addr.add_lit,Addr.add_lit]at this;rw[aan,<-this];rfl⟩
theorem Cv.struct{P:Program}{t:TypeId}{fs:Array Field}{α:Type}{row:α->List DV}{k:Nat}{ok:α->Prop}(ht:P.underlying t=some (.struct fs))(hc:P.cellsOf t=k)(hlen:∀x,(row x).length=k)
  (h:∀(G:Gh) (cs:List Value),cs.length=k->(∀(i:Nat) (f:Field),fs[i]?=some f->∀{α:Type} {row:α->List DV} {k':Nat} {ok:α->Prop},Cv P f.type row k' ok->∃x,ok x/\fw G (row x) ((cs.drop f.offset).take k'))->∃x,ok x/\fw G (row x) cs):Cv P t row k ok:=
 ⟨hlen,hc,fun enc w spare held fuel cs r hr=>by
  obtain⟨xs,n,_,_,hcl,hxl,hf⟩:=DataW.trod_struct ht hr;refine h (o6 w) cs (by rw[hcl,hc]) (fun i f hi α' row' k' ok' hcv=>?_);have h1:=hf i f hi;have hlt:=(Array.getElem?_eq_some_iff.1 hi).1;rw[ν (by omega)]at h1;obtain⟨x,hx,hxr⟩:=hcv.get enc w spare held n _ _ h1;rw[hcv.cells]at hxr;exact⟨x,hx,hxr⟩⟩
theorem fw.cons{rest:List DV}{o:Nat}(h1:fw G ds ((cs.drop o).take k))(h2:fw G rest (cs.drop (o+k))):fw G (ds++rest) (cs.drop o):=
 fw.app k h1 (by rwa[abe])
theorem Ov(h:fw G ds cs):AV.bb G m (ds.map .D) cs:=
 AV.j2 h.2 (fun j hj=>by rw[aan]) h.1.symm
theorem D7{d:DV}(h:fw G [d] v.cells.toList)(hv:v.oneCell'=true):AV.aq G m (.D d) v:=by have:=Ov (m:=m) h;rw[LF hv]at this;simp only[aaM,List.map_nil]at this;unfold AV.bb at this;obtain⟨u,us,e,h2,_⟩:=this;cases e;exact h2
theorem Nl{cs:Array Value}(h:fw G ds cs.toList):AV.aq G m (.agg (ds.map .D)) (.agg cs):=by unfold AV.aq;exact⟨cs,rfl,Ov h⟩
theorem bHu(w:World)(hg:nt (o6 w)):cf (o6 w) (fun _=>none) (gH [] []) w:=⟨(fun _ _ _ h=>by cases h),(fun _ h=>by cases h),(fun _ _ _ _ _ h=>by cases h),(fun _ _ _ h=>h),(fun _ h=>by cases h),hg,(fun _ _ _ _ h=>by cases h)⟩
theorem db.calls{f:FuncId}{R:Value->World->Prop}(hfn:x7 P f)(h:db P f vs w R):Calls P f vs w fun e w'=>∃v,e=.returned v/\R v w':=by
 rcases h with⟨_,h⟩|⟨v,w',h1,_⟩
 ·exact h
 ·exfalso;obtain⟨fd,q1,q2,q3⟩:=hfn;have hnone:fd.body.isNone=false:=by rw[Option.isNone_eq_false_iff];exact q2
  simp only[callFunc,Sem.run_bind,run_program,Result.andThen_ok,q1,q3,hnone,Bool.false_eq_true,if_false]at h1;simp at h1
theorem UR{f:FuncId}{args:List AV}(hfn:x7 P f)(hg:nt (o6 w))(hc:de P f args [] (.D (.B true)) [] [])(hr:AV.bb (o6 w) (fun _=>none) args vs.toList):
  Calls P f vs w fun e w'=>e=.returned (.bool true)/\Below w.heap.size w w':=
 (db.calls hfn (hc w (o6 w) _ vs (bHu w hg) (fun _=>rfl) hr)).mono fun e w' ⟨v,he,G',m',_,hv,hF,_⟩=>by have:=tx hv;subst this;exact⟨he,hF.os,hF.tape.1,hF.output,hF.size,fun b hb=>hF.heap b hb (Own.no b)⟩
theorem KL{H:Type}{enc:TypeId×Value->H}{P:Program}(hl:laidOutB P=true){W W':World}(hb:Below W.heap.size W W')(sp:Nat->Bool):∀{ts:List TypeId} {vs:List Value} {ds:List (DataW H)} {ps:List MemPlace},
  (∀t∈ts,P.readableRec t=true/\t<P.types.size)->DataW.TrodAll enc P W 0 (fun _=>true) true ts vs ds ps->(∀p∈ps,p.block<W.heap.size)->(∀p∈ps,sp p.block=true)->DataW.TrodAll enc P W' 0 sp true ts vs ds ps
 |[],[],[],_,_,h,_,_=>h
 |t::ts,v::vs,d::ds,ps,ht,h,hlt,hsp=>by
  obtain⟨p,q,h1,h2,rfl⟩:=h;exact⟨p,q,WideElems.Trod_stays hl (ht t (by simp)).1 (ht t (by simp)).2 h1 (fun x hx=>hb.same (hlt x (by simp[hx]))) (fun x hx=>hsp x (by simp[hx])),
   KL hl hb sp (fun t' h'=>ht t' (by simp[h'])) h2 (fun x hx=>hlt x (by simp[hx])) (fun x hx=>hsp x (by simp[hx])),rfl⟩
 |[],[],_::_,_,_,h,_,_=>h.elim
 |[],_::_,ds,_,_,h,_,_=>by cases ds<;>exact h.elim
 |_::_,[],ds,_,_,h,_,_=>by cases ds<;>exact h.elim
 |_::_,_::_,[],_,_,h,_,_=>h.elim
theorem RI{f:Func}{s:ChangeSpec}{enc:TypeId×Value->H}{W':World}{args:Array Value}{ds:List (DataW H)}{before:List MemPlace}{tb:TypeId}(hl:laidOutB P=true)
  (hW:DataW.Whole enc P f.params.toList s.vars false W args.toList ds [] before) (hvars:s.vars=[]) (hs:s.fn H (ds++[])={results:=[.lit (.bool true)],args:=ds}) (hr:f.resultTypes=#[tb]) (htb:P.underlying tb=some .bool)
  (hp:∀t∈f.params.toList,P.readableRec t=true/\t<P.types.size) (hb:Below W.heap.size W W'):s.post enc P f false true false false W args (.bool true) W':=by
 have hlt:∀p∈before,p.block<W.heap.size:=fun p hp=>hW.lt p hp;have hW0:=hW;obtain⟨p,q,hA,hV,hpq,hz,hn⟩:=hW0;have hV0:=hV;rw[hvars]at hV0;have hq:q=[]:=by simpa[DataW.TrodVars]using hV0
 subst hq;rw[aag]at hpq;subst hpq;have hstay:∀sp:Nat->Bool,(∀x∈before,sp x.block=true)->DataW.TrodAll enc P W' 0 sp true f.params.toList args.toList ds before:=fun sp hsp=>KL hl hb sp hp hA hlt hsp;have hres:∀(b:Nat) (sp:Nat->Bool) (hd:Bool),DataW.TrodAll enc P W' b sp hd f.resultTypes.toList ((Value.bool true).resultList f.resultTypes.size) [.lit (.bool true)] []:=fun b sp hd=>by rw[hr];exact trodAll_mk1 ⟨1,by simp[DataW.trod,Value.cells,htb]⟩
 have hvt:∀sp:Nat->Bool,DataW.TrodVars enc P W' sp s.vars (s.fn H (ds++[])).vars []:=fun sp=>by rw[hvars,hs];exact rfl
 refine⟨ds,[],before,[],before,[],hW,by rw[hs];exact hres _ _ _,by rw[hs];exact hstay _ (fun p hp=>by simpa using hlt p hp),hvt _,World.keptBut_mono (fun p hp=>⟨hp,.inr (.inl hp)⟩) (hb.frame (· ∈before)),fun h=>by cases h⟩
theorem DV.ky{G:Gh}{f:Nat->Option Value}:∀{ds:List DV} {o:Nat},(∀i d,ds[i]?=some d->∃v,f (o+i)=some v/\DV.aq G d v)->DV.cells G f o ds
 |[],o,_=>by unfold DV.cells;trivial
 |d::ds,o,h=>by
  unfold DV.cells;obtain⟨v,h1,h2⟩:=h 0 d rfl;exact⟨⟨v,h1,h2⟩,DV.ky fun i e hi=>by
   obtain⟨u,h3,h4⟩:=h (i+1) e (by simpa using hi);exact⟨u,by rw[<-h3];congr 1;omega,h4⟩⟩
theorem Cv.array{P:Program}{t e:TypeId}{n:Nat}{k:IntKind}(he:P.underlying e=some (.int k))(hce:P.cellsOf e=1)(ht:P.underlying t=some (.array n e))(hc:P.cellsOf t=n):
  Cv P t (Ty.ar n k).ds n fun x=>∀y∈x.l,k.min<=y/\y<=k.max:=⟨fun x=>Ty.fk (.ar n k) x,hc,fun enc w spare held fuel cs r h=>by
  obtain⟨xs,m,_,_,hcl,hxl,hf⟩:=DataW.trod_array ht h;rw[hc]at hcl;simp only[hce,aaN]at hf;obtain⟨zs,hl,hz⟩:=Ih (Q:=fun i z=>(k.min<=z/\z<=k.max)/\cs[i]?=some (.int k z)) n fun i hi=>by have h1:=hf i hi;rw[ν (by omega)]at h1;obtain⟨z,hz,_,hw⟩:=DataW.trod_int he h1;simp only[Lit.wf,μ,decide_eq_true_eq]at hw;refine⟨z,hw,?_⟩;have h2:=congrArg (·[0]?) hz;simpa[List.getElem?_take,abg]using h2
  refine⟨⟨zs,hl⟩,fun y hy=>?_,?_⟩
  ·obtain⟨i,hi⟩:=aaK hy;exact(hz i y hi).1
  ·refine⟨by rw[Ty.fk];show n=_;omega,DV.ky fun i d hd=>?_⟩;have hd:(zs.map (DV.I k))[i]?=some d:=hd;rw[aac,ι]at hd;obtain⟨z,hz1,rfl⟩:=hd;exact⟨_,by rw[aan];exact(hz i z hz1).2,by unfold DV.aq;rfl⟩⟩
theorem UM{name:String}{g:Nat}{k:IntKind}{zs:List Int}(hT:Lib.TabIs P W name k zs)(hg:P.globalNamed name=some g):DV.cells (o6 W) (o6 W g) 0 (zs.map (DV.I k)):=by refine DV.ky fun i d hd=>?_;rw[aac,ι]at hd;obtain⟨z,hz,rfl⟩:=hd;have hi:i<zs.length:=(υ.1 hz).1;refine⟨.int k z,?_,by unfold DV.aq;rfl⟩;have h1:=hT.cell hg i hi;rw[List.getD,hz]at h1;rw[aan];exact h1
def Ty.ok:(t:Ty)->t.T->Prop
 |.i k,n=>k.min<=n/\n<=k.max
 |.s,x=>x.length<=9223372036854775807
 |.sl t,xs=>xs.length<=9223372036854775807/\∀x∈xs,t.ok x
 |.ar _ k,x=>∀y∈x.l,k.min<=y/\y<=k.max
 |.p a c,v=>a.ok v.1/\c.ok v.2
 |.w a,v=>a.ok v
 |_,_=>True
def qi:TypeDesc->TypeDesc->Bool
 |.bool,.bool=>true
 |.string,.string=>true
 |.int k,.int k'=>decide (k=k')
 |_,_=>false
theorem X3:∀{a b:TypeDesc},qi a b=true->a=b:=by intro a b h;unfold qi at h;split at h<;>first|rfl|(rw[of_decide_eq_true h];done)|cases h
def Ej(P:Program)(t:TypeId)(d:TypeDesc):Bool:=match P.underlying t with
 |some d'=>qi d' d
 |none=>false
theorem Lc(h:Ej P t d=true):P.underlying t=some d:=by
 unfold Ej at h;split at h
 ·rename_i d' hd;rw[hd,X3 h]
 ·cases h
def zS(P:Program)(t:TypeId)(d:TypeDesc):Bool:=Ej P t d&&aaa (P.cellsOf t) 1
def vo(g:TypeId->Bool)(fs:List Field)(o:Nat):Bool:=match fs with
 |[f]=>aaa f.offset o&&g f.type
 |_=>false
def Ao(P:Program)(n:Nat)(g:TypeId->Bool)(t:TypeId):Bool:=match P.underlying t with
 |some (.slice e)=>g e&&aaa (P.cellsOf t) 1&&adp 0 n
 |_=>false
def z7(P:Program)(n:Nat)(k:IntKind)(t:TypeId):Bool:=match P.underlying t with
 |some (.array m e)=>aaa m n&&Ej P e (.int k)&&aaa (P.cellsOf e) 1&&aaa (P.cellsOf t) n
 |_=>false
def yp(P:Program)(n:Nat)(g:List Field->Nat->Bool)(t:TypeId):Bool:=match P.underlying t with
 |some (.struct fs)=>g fs.toList 0&&aaa (P.cellsOf t) n
 |_=>false
def Ft(n:Nat)(g:TypeId->Bool)(h:List Field->Nat->Bool)(fs:List Field)(o:Nat):Bool:=match fs with
 |f::fs=>aaa f.offset o&&g f.type&&h fs (o+n)
 |[]=>false
def V6:List Field->Nat->Bool
 |[],_=>true
 |_,_=>false
def kg(P:Program):Ty->(TypeId->Bool)×(List Field->Nat->Bool)
 |.u=>(fun _=>false,V6)
 |.b=>(fun t=>zS P t .bool,vo fun t=>zS P t .bool)
 |.i k=>(fun t=>zS P t (.int k),vo fun t=>zS P t (.int k))
 |.s=>(fun t=>zS P t .string,vo fun t=>zS P t .string)
 |.ar n k=>(z7 P n k,vo (z7 P n k))
 |.sl t=>(Ao P t.n (kg P t).1,vo (Ao P t.n (kg P t).1))
 |.w x=>(yp P x.n (kg P x).2,vo (yp P x.n (kg P x).2))
 |.p a c=>(fun _=>false,Ft a.n (kg P a).1 (kg P c).2)
 |.o _=>(fun _=>false,fun _ _=>false)
def XW(P:Program)(G:Gh)(cs:List Value)(f:Field):Prop:=∀{α:Type} {row:α->List DV} {k':Nat} {ok:α->Prop},Cv P f.type row k' ok->∃x,ok x/\fw G (row x) ((cs.drop f.offset).take k')
def Pc(P:Program)(t:Ty)(fs:List Field)(o:Nat):Prop:=∀(G:Gh) (cs:List Value),cs.length=o+t.n->(∀f∈fs,XW P G cs f)->∃x:t.T,t.ok x/\fw G (t.ds x) (cs.drop o)
theorem uR{g:TypeId->Bool}{t:Ty}(hg:∀i,g i=true->Cv P i t.ds t.n t.ok){fs:List Field}{o:Nat}(h:vo g fs o=true):Pc P t fs o:=by
 unfold vo at h;split at h
 ·rename_i f;simp only[μ]at h;have ho:=θ h.1;intro G cs hl hf;obtain⟨x,hx,hr⟩:=hf f (List.mem_singleton.2 rfl) (hg _ h.2);refine⟨x,hx,?_⟩;rw[ho,aav (by rw[aat];omega)]at hr;exact hr
 ·cases h
theorem nK(h:zS P t d=true):P.underlying t=some d/\P.cellsOf t=1:=by simp only[zS,μ]at h;exact⟨Lc h.1,θ h.2⟩
theorem AO(P:Program):∀T:Ty,(∀i,(kg P T).1 i=true->Cv P i T.ds T.n T.ok)/\∀fs o,(kg P T).2 fs o=true->Pc P T fs o
 |.u=>by
  refine⟨fun _ h=>(by cases h),fun fs o h=>?_⟩;cases fs with
  |nil=>exact fun G cs hl _=>⟨(),trivial,by rw[List.drop_of_length_le (by simp[hl,Ty.n])];exact fw.nil⟩
  |cons _ _=>cases h
 |.b=>by
  have h1:∀i,zS P i .bool=true->Cv P i Ty.b.ds 1 Ty.b.ok:=fun i h=>Cv.bool (nK h).1 (nK h).2;exact⟨h1,fun fs o h=>uR (t:=.b) h1 h⟩
 |.i k=>by
  have h1:∀i,zS P i (.int k)=true->Cv P i (Ty.i k).ds 1 (Ty.i k).ok:=fun i h=>Cv.int (nK h).1 (nK h).2;exact⟨h1,fun fs o h=>uR (t:=.i k) h1 h⟩
 |.s=>by
  have h1:∀i,zS P i .string=true->Cv P i Ty.s.ds 1 Ty.s.ok:=fun i h=>Cv.string (nK h).1 (nK h).2;exact⟨h1,fun fs o h=>uR (t:=.s) h1 h⟩
 |.ar n k=>by
  have h1:∀i,z7 P n k i=true->Cv P i (Ty.ar n k).ds n (Ty.ar n k).ok:=fun i h=>by
   unfold z7 at h;split at h
   ·rename_i m e hu;simp only[μ,decide_eq_true_eq]at h;obtain⟨⟨⟨h1,h2⟩,h3⟩,h4⟩:=h;obtain rfl:=θ h1;exact Cv.array (Lc h2) (θ h3) hu (θ h4)
   ·cases h
  exact⟨h1,fun fs o h=>uR (t:=.ar n k) h1 h⟩
 |.sl t=>by
  have h1:∀i,Ao P t.n (kg P t).1 i=true->Cv P i (Ty.sl t).ds 1 (Ty.sl t).ok:=fun i h=>by
   unfold Ao at h;split at h
   ·rename_i e hu;simp only[μ]at h;exact Cv.slice ((AO P t).1 _ h.1.1) (aa6 Nat.zero_lt_one (abf h.2)) hu (θ h.1.2)
   ·cases h
  exact⟨h1,fun fs o h=>uR (t:=.sl t) h1 h⟩
 |.w x=>by
  have h1:∀i,yp P x.n (kg P x).2 i=true->Cv P i (Ty.w x).ds x.n (Ty.w x).ok:=fun i h=>by
   unfold yp at h;split at h
   ·rename_i fs hu;simp only[μ]at h;refine Cv.struct hu (θ h.2) (fun y=>Ty.fk x y) fun G cs hl hf=>?_;obtain⟨y,hy,hr⟩:=(AO P x).2 _ _ h.1 G cs (by rw[hl,aan]) fun f hm=>by obtain⟨i,hi⟩:=aaK hm;rw[Array.getElem?_toList]at hi;exact fun{α} {row} {k'} {ok} hcv=>hf i f hi hcv
    exact⟨y,hy,hr⟩
   ·cases h
  exact⟨h1,fun fs o h=>uR (t:=.w x) h1 h⟩
 | .p a c=>by
   refine⟨fun _ h=>(by cases h),fun fs o h=>?_⟩;have h:Ft a.n (kg P a).1 (kg P c).2 fs o=true:=h;cases fs with
   |nil=>cases h
   |cons f fs=>
    simp only[Ft,μ]at h;intro G cs hl hf;have hl:cs.length=o+(a.n+c.n):=hl;obtain⟨x,hx,hr⟩:=hf f (aap ..) ((AO P a).1 _ h.1.2);rw[θ h.1.1]at hr;obtain⟨y,hy,hq⟩:=(AO P c).2 _ _ h.2 G cs (by omega) fun g hg=>fun{α} {row} {k'} {ok} hcv=>hf g (aab _ hg) hcv;exact⟨(x,y),⟨hx,hy⟩,fw.cons hr hq⟩
 |.o _=>⟨fun _ h=>(by cases h),fun _ _ h=>(by cases h)⟩
def HY(P:Program):List Ty->List TypeId->Bool
 |[],[]=>true
 |T::Ts,t::ts=>(kg P T).1 t&&HY P Ts ts
 |_,_=>false
def BP:(Ts:List Ty)->cn Ts->Prop
 |[],_=>True
 |T::Ts,x=>T.ok x.1/\BP Ts x.2
def y8:(Ts:List Ty)->cn Ts->List AV
 |[],_=>[]
 |T::Ts,x=>dA T x.1::y8 Ts x.2
theorem Z2{r:Reach}{n:Nat}(ht:P.underlying t=some (.array n e))(h:Value.okWide P w r base t v):∃cs,v=.agg cs:=by unfold Value.okWide at h;rw[ht]at h;obtain⟨cs,h,_⟩:=h;exact⟨cs,h⟩
theorem Zp{T:Ty}{x:T.T}(hc:(kg P T).1 t=true)(hw:Value.okWide P W .any base t v)(hr:fw (o6 W) (T.ds x) v.cells.toList):AV.aq (o6 W) m (dA T x) v:=by
 cases T with
 |u=>cases hc
 |b=>obtain⟨b,rfl⟩:=okWide_bool (nK hc).1 hw;exact D7 hr rfl
 |i k=>obtain⟨n,rfl⟩:=okWide_int (k:=k) (nK hc).1 hw;exact D7 hr rfl
 |s=>obtain⟨n,rfl⟩:=okWide_string (nK hc).1 hw;exact D7 hr rfl
 |p a c=>cases hc
 |w y=>
  have hc:yp P y.n (kg P y).2 t=true:=hc;unfold yp at hc;split at hc
  ·rename_i fs hu;obtain⟨cs,rfl,_⟩:=okWide_struct hu hw;exact Nl hr
  ·cases hc
 |ar n k=>
  have hc:z7 P n k t=true:=hc;unfold z7 at hc;split at hc
  ·rename_i m' e hu;obtain⟨cs,rfl⟩:=Z2 hu hw;exact Nl hr
  ·cases hc
 |sl y=>
  have hc:Ao P y.n (kg P y).1 t=true:=hc;unfold Ao at hc;split at hc
  ·rename_i e hu;obtain⟨a,l,c,rfl⟩:=okWide_slice hu hw;exact D7 hr rfl
  ·cases hc
 |o y=>cases hc
theorem KB{P:Program}{W:World}{base:Nat}{H:Type}{enc:TypeId×Value->H}{spare:Nat->Bool}{held:Bool}{m:HM}:∀{Ts:List Ty} {ts:List TypeId} {vs:List Value} {ds:List (DataW H)} {ps:List MemPlace},HY P Ts ts=true->DataW.TrodAll enc P W 0 spare held ts vs ds ps->(∀(j:Nat) t v,ts[j]?=some t->vs[j]?=some v->Value.okWide P W .any base t v)->∃x:cn Ts,BP Ts x/\AV.bb (o6 W) m (y8 Ts x) vs
 |[],[],vs,ds,ps,_,hA,_=>by
  obtain⟨rfl,_,_⟩:=trodAll_nil hA;exact⟨(),trivial,rfl⟩
 |T::Ts,t::ts,vs,ds,ps,hc,hA,hw=>by
  simp only[HY,μ]at hc;obtain⟨v,vs1,d,ds1,p0,p1,rfl,rfl,rfl,t0,hA1⟩:=trodAll_cons hA;obtain⟨f0,t0⟩:=t0;obtain⟨x,hx,hr⟩:=((AO P T).1 t hc.1).get enc W _ _ f0 _ _ t0;obtain⟨y,hy,hq⟩:=KB (m:=m) hc.2 hA1 fun j t v h1 h2=>hw (j+1) t v (by simpa using h1) (by simpa using h2);exact⟨(x,y),⟨hx,hy⟩,_,_,rfl,Zp hc.1 (hw 0 t v rfl rfl) hr,hq⟩
 |[],_::_,_,_,_,h,_,_=>by cases h
 |_::_,[],_,_,_,h,_,_=>by cases h
end Go.Eng
namespace Go.Eng
open Go.RowKit
variable{α β:Type}
@[simp] theorem pF{a b:Option α}:bf true a b=a:=rfl
@[simp] theorem fG{a b:Option α}:bf false a b=b:=rfl
@[simp] theorem aE{x:α}{f:α->Option β}:bc (some x) f=f x:=rfl
@[simp] theorem aG{xs:List α}{a:Option β}:aw xs.length xs a=a:=if_pos rfl
theorem jF{n:Nat}{xs:List α}{a:Option β}(h:n=xs.length):aw n xs a=a:=if_pos h
@[simp] theorem oj{α:Type}[DecidableEq α]{x:α}{a:Option β}:az (x=x) a=a:=if_pos rfl
@[simp] theorem Sn[Decidable True]{a:Option α}:az True a=a:=if_pos trivial
theorem aB{p:Prop}[Decidable p]{a:Option α}(h:p):az p a=a:=if_pos h
@[simp] theorem Zn{x:α}{f:α->Option β}:rz (some (Sum.inr x)) f=f x:=rfl
theorem Ab{n:Int}(h:-9223372036854775808<=n)(h':n<=9223372036854775807):IntKind.wrap .i64 n=n:=by rw[IntKind.wrap_i64];omega
theorem aI{n:Int}{a:Option α}(h:-9223372036854775808<=n)(h':n<=9223372036854775807):ck .i64 n a=a:=by unfold ck;rw[if_pos (Ab h h')]
theorem cU{xs:List α}{i:Nat}{x:α}{f:α->Option β}(h:xs[i]?=some x):aZ xs (i:Int) f=f x:=by unfold aZ;rw[if_pos (Int.natCast_nonneg i),χ,h]
theorem kX{xs:List α}{j:Int}{x:α}{f:α->Option β}(h0:0<=j)(h:xs[j.toNat]?=some x):aZ xs j f=f x:=by unfold aZ;rw[if_pos h0,h]
theorem eW{xs:List α}{i:Nat}{x:α}{f:α->Option β}(h:xs[i]?=some x):cr xs i f=f x:=by unfold cr;rw[h]
theorem Cu{c:Bool}{a b:Option α}:bf c a b=if c=true then a else b:=by cases c<;>rfl
end Go.Eng
