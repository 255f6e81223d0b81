/- Texts of this claim. -/
import Derived.Test.YtoklpgfaedjjpaaGreatDoorEB
import Derived.Maps.RangeRun
import Derived.Scope
import Derived.Orders
import Derived.RangeFuncIn
import Derived.DefersIn
import Derived.RecoverIn
open Array renaming getD_eq_getD_getElem?->aaA,getElem?_append_left->acF,getElem?_append_right->acA,getElem?_eq_none->acm,getElem?_eq_some_iff->aad,getElem?_setIfInBounds_ne->abR,getElem?_toList->aaj,length_toList->aby,replicate->abl,toList_append->abj,toList_map->abm
open Bool renaming and_eq_true->μ,false_eq_true->abu,false_or->acd,not_eq_true'->aaY,not_true->aaQ,or_eq_true->abx
open Classical renaming propDecidable->acW
open List renaming all_eq_true->aa1,contains_eq_mem->ada,getD_eq_getElem?_getD->aam,getElem?_cons_zero->abA,getElem?_eq_getElem->ν,getElem?_eq_none->aay,getElem?_eq_some_iff->υ,getElem?_inj->acz,getElem?_map->aac,length_nil->aaE,map_cons->aaM,mem_append->aau,mem_append_right->abi,mem_cons->ω,mem_cons_of_mem->aab,mem_cons_self->aap,mem_filter->ξ,mem_iff_getElem->adb,mem_map->aaS,mem_of_getElem?->aar,mem_range->abG,mem_singleton->aai,nodup_append->acB,nodup_cons->abk,nodup_nil->ab7,range->abc
open Nat renaming beq->aaa,le_add_right->abJ,le_of_lt->acn,le_refl->me,le_trans->aaG,lt_irrefl->acs,lt_of_le_of_ne->adx,lt_of_lt_of_le->aa6,lt_or_ge->aaV,lt_or_gt_of_ne->acT,lt_trichotomy->ab3,strongRecOn->abH
open Option renaming bind_eq_some_iff->η,bind_some->ac8,isNone_iff_eq_none->ab9,isSome_iff_exists->aa5,ite_none_right_eq_some->ζ,map_eq_some_iff->ι,map_some->aaZ
set_option linter.all false
namespace Go.Eng
open Go.RowKit
variable{P:Program}{o:Oper}{x y f i:Operand}{N k id j n t B bytes off e:Nat}{s s' s0:an}{ops:Array Oper}{w w':World}{E:ez}{G G1:Gh}{b:Mk}{op0 op:bu}{m:HM}{a a':Act}{ro:RO}{kd:KD}{c as bd:Code}{ros:List RO}{fn:Func}{Q:Exit->Act->World->Prop}{K:an->Prop}{r ag rd dst:Option Nat}{bs bs':List (Option bn)}{fl σ slots:List Nat}{lk:bJ}{lo hi mx:Option Operand}{args zs:List AV}{tmps vs:Array Value}{ev:Operand->AV}{st:Nat->an}{nbs:List bn}{v pv:Value}{z x0:AV}{next:Act->World->Prop}{ds:List Deferred}{h:Hd}{xs:List Operand}{str:Bool}{L oh og:Nat->Prop}{listed:Array Bool}{g:Nat->Nat}{R:Ending->World->Prop}{fid:FuncId}{pd:Option Code}{arr:Array MapEntry}{φ:Hd->Option Hd}{os:List Oper}{u:FrameMode}
section
mutual
theorem AV.j5{G:Gh}{m m':HM}:∀(a:AV) (v:Value),a.lp=true->AV.aq G m a v->AV.aq G m' a v
 |.D x,v,_,q=>by unfold AV.aq at q|-;exact q
 |.fl x,v,_,q=>by unfold AV.aq at q|-;exact q
 |.agg cs,v,h,q=>by
  unfold AV.lp at h;unfold AV.aq at q|-;obtain⟨vs,h1,h2⟩:=q;exact⟨vs,h1,AV.kr cs _ h h2⟩
 |.any,_,h,_=>by cases h
 |.sc,_,h,_=>by cases h
 |.ab,_,h,_=>by cases h
 |.ptr _ _,_,h,_=>by cases h
 |.eptr _ _ _ _,_,h,_=>by cases h
 |.rop _,_,h,_=>by cases h
 |.sl _ _ _ _,_,h,_=>by cases h
 |.slk _ _ _ _ _,_,h,_=>by cases h
 |.cn _,_,h,_=>by cases h
 |.clo _ _,_,h,_=>by cases h
 |.yld _,_,h,_=>by cases h
 |.gst _,_,h,_=>by cases h
 |.mref _,_,h,_=>by cases h
 |.itr _ _,_,h,_=>by cases h
 |.nsl _ _ _ _,_,h,_=>by cases h
 |.nptr _ _ _ _,_,h,_=>by cases h
theorem AV.kr{G:Gh}{m m':HM}:∀(as:List AV) (vs:List Value),AV.jq as=true->AV.bb G m as vs->AV.bb G m' as vs
 |[],_,_,q=>by unfold AV.bb at q|-;exact q
 |a::as,_,h,q=>by unfold AV.jq at h;rw[μ]at h;unfold AV.bb at q|-;obtain⟨v,vs',h1,h2,h3⟩:=q;exact⟨v,vs',h1,AV.j5 a v h.1 h2,AV.kr as vs' h.2 h3⟩
end
theorem dk.at{G:Gh}{w:World}:∀{es:List (AV×MV)} {xs:List MapEntry} {f:List Nat} {j:Nat} {e:AV×MV} {x:MapEntry},dk G es xs f w->es[j]?=some e->xs[j]?=some x->
  ∃f1 g f3,f=f1++g++f3/\AV.aq G (fun _=>none) e.1 x.key/\MV.aq G e.2 x.val g w/\dk G (es.eraseIdx j) (xs.eraseIdx j) (f1++f3) w/\
   ∀e' x' g',AV.aq G (fun _=>none) e'.1 x'.key->MV.aq G e'.2 x'.val g' w->dk G (es.set j e') (xs.set j x') (f1++g'++f3) w
 |[],_,_,_,_,_,_,h,_=>by simp at h
 |e::es,xs,f,0,e0,x0,h,he,hx=>by
  obtain⟨x,xs',g,fp',rfl,rfl,h1,h2,h3⟩:=h;simp only[abA,Option.some.injEq]at he hx;subst he;subst hx;refine⟨[],g,fp',rfl,h1,h2,h3,fun e' x' g' q1 q2=>?_⟩;exact⟨x',xs',g',fp',rfl,rfl,q1,q2,h3⟩
 |e::es,xs,f,j+1,e0,x0,h,he,hx=>by
  obtain⟨x,xs',g,fp',rfl,rfl,h1,h2,h3⟩:=h;simp only[List.getElem?_cons_succ]at he hx;obtain⟨f1,g1,f3,rfl,q1,q2,q3,q4⟩:=h3.at he hx;refine⟨g++f1,g1,f3,by simp,q1,q2,?_,fun e' x' g' r1 r2=>?_⟩
  ·exact⟨x,_,g,f1++f3,rfl,by simp,h1,h2,q3⟩
  ·exact⟨x,_,g,f1++g'++f3,rfl,by simp,h1,h2,q4 e' x' g' r1 r2⟩
theorem dk.push{G:Gh}{w:World}{e':AV×MV}{x':MapEntry}{g':List Nat}(r1:AV.aq G (fun _=>none) e'.1 x'.key)(r2:MV.aq G e'.2 x'.val g' w):∀{es:List (AV×MV)} {xs:List MapEntry} {f:List Nat},dk G es xs f w->
  dk G (es++[e']) (xs++[x']) (f++g') w
 |[],_,_,h=>by
  obtain⟨rfl,rfl⟩:=h;exact⟨x',[],g',[],rfl,by simp,r1,r2,rfl,rfl⟩
 |e::es,_,_,h=>by obtain⟨x,xs',g,fp',rfl,rfl,h1,h2,h3⟩:=h;exact⟨x,_,g,fp'++g',rfl,by simp,h1,h2,h3.push r1 r2⟩
theorem Q6{x:MapEntry}(f:MapEntry->MapEntry)(h:arr.toList[j]?=some x):(arr.modify j f).toList=arr.toList.set j (f x):=by
 have hlt:=(υ.1 h).1;apply List.ext_getElem?;intro i;rw[aaj,Array.getElem?_modify,List.getElem?_set];by_cases e:j=i
 ·subst e;rw[aaj]at h;rw[if_pos rfl,if_pos rfl,h];simp only[aaZ];rw[if_pos (by simpa using hlt)]
 ·rw[if_neg e,if_neg e,aaj]
theorem cf.IE(hS:cf G m s.lk w){b sz:Nat}{fp fp':List Nat}(hm:m h=some (.atx b sz fp)){clk:Nat}(hb:w.heap[b]?=some (.map arr clk)){o':Obj}{bl':bn}
  (hsub:∀c∈fp',c∈fp\/¬Own m c) (hbl:c9 G (aJ m h (.atx b sz fp')) bl' b sz fp' (w.putObj b o')):cf G (aJ m h (.atx b sz fp')) (s.ba h (some bl')).lk (w.putObj b o')/\HM.le m (aJ m h (.atx b sz fp')):=by
 have hle:HM.le m (aJ m h (.atx b sz fp')):=fun x l hx=>.inl (by
  unfold aJ;by_cases e:x=h
  ·subst e;rw[hm]at hx;cases hx;exact .inr ⟨b,sz,fp,fp',rfl,if_pos rfl⟩
  ·rw[if_neg e];exact .inl hx)
 have hki:dz m w (w.putObj b o'):=fun _ c _ _ _ _ _ _ _ hc=>World.putObj_heap_other (fun e=>by rw[e,hb]at hc;cases hc);have get:∀{x l},aJ m h (.atx b sz fp') x=some l->(x=h/\l=.atx b sz fp')\/(x≠h/\m x=some l):=fun{x l} hx=>by
  unfold aJ at hx;split at hx
  ·cases hx;exact .inl ⟨‹_›,rfl⟩
  ·exact .inr ⟨‹_›,hx⟩
 have hnb:∀x l,x≠h->m x=some l->∀c∈l.ga,c≠b:=fun x l hx hl c hc e=>hx (hS.da x h l _ c hl hm hc (by rw[e];exact aap));have clash:∀x l c,x≠h->m x=some l->c∈l.ga->c∈b::fp'->False:=fun x l c hx hl hc hc'=>by
  rcases ω.1 hc' with rfl|hc'
  ·exact hnb x l hx hl _ hc rfl
  ·rcases hsub c hc' with q|q
   ·exact hx (hS.da x h l _ c hl hm hc (aab _ q))
   ·exact q ⟨x,l,hl,hc⟩
 refine⟨⟨fun x b' sz' hx=>?_,fun x hx=>?_,fun x y l l' c hx hy hc hc'=>?_,fun b' o v hv=>?_,fun x hx=>?_,hS.gl,fun x b' sz' fp2 hx=>?_⟩,hle⟩
 ·rcases get hx with⟨_,e⟩|⟨e,hx⟩
  ·cases e
  ·obtain⟨bl,h1,h2⟩:=hS.fh x b' sz' hx;exact⟨bl,by rw[aQ,if_neg e];exact h1,h2.mono (Gh.le.refl G) hle (fun _=>rfl) (World.putObj_heap_other (hnb x _ e hx _ (aai.2 rfl)))⟩
 ·rcases get hx with⟨_,e⟩|⟨e,hx⟩
  ·cases e
  ·rw[aQ,if_neg e];exact hS.nil x hx
 ·rcases get hx with⟨e,rfl⟩|⟨e,hx⟩<;>rcases get hy with⟨e',rfl⟩|⟨e',hy⟩
  ·rw[e,e']
  ·exact(clash y l' c e' hy hc' hc).elim
  ·exact(clash x l c e hx hc hc').elim
  ·exact hS.da x y l l' c hx hy hc hc'
 ·have:=hS.gh b' o v hv;have hne:b'≠b:=fun e=>by subst e;unfold World.cell? at this;simp only[hb]at this;cases this
  rw[World.cell?_of_block (w:=w) (World.putObj_heap_other hne)];exact this
 ·rcases get hx with⟨_,e⟩|⟨e,hx⟩
  ·cases e
  ·rw[aQ,if_neg e];exact hS.dead x hx
 ·rcases get hx with⟨e,e2⟩|⟨e,hx⟩
  ·cases e2;exact⟨bl',by rw[aQ,if_pos e],hbl⟩
  ·obtain⟨bl,h1,h2⟩:=hS.di x b' sz' fp2 hx;exact⟨bl,by rw[aQ,if_neg e];exact h1,h2.mono (Gh.le.refl G) hle (fun _ _ _=>rfl) (fun c hc=>World.putObj_heap_other (hnb x _ e hx c hc)) hki⟩
theorem Fr.th{b:Nat}{o:Obj}(h:oh b):Fr oh og G G w (w.putObj b o):=
 ⟨rfl,.same rfl rfl,rfl,by rw[World.putObj_size];exact me _,fun c _ hc=>World.putObj_heap_other (fun e=>hc (e▸h)),fun _ _ _ _=>rfl,Gh.le.refl G⟩
theorem NN{lk1:bJ}{hd:Hd}{es:List (List DV)}{mt:Bool}{bl0:bn}(hS:cf G m s.lk w)(hl0:s.lk hd=some bl0)(hS1:cf G1 m lk1 w)(hl:lk1 hd=some (.row mt k es))(hle:Gh.le G G1)(hG:∀b,(∀sz,m hd≠some (.at_ b sz))->∀o,G1 b o=G b o)
  (hlk:(s.ba hd none).lk=fun x=>if x=hd then none else lk1 x) (hr:AV.aq G m (.sl hd k 0 es.length) v):
  ∃m1 g,cf G1 m1 (s.ba hd none).lk w/\fa G1 mt k es v g w/\g.Nodup/\(∀c∈g,¬Own m1 c/\Own m c)/\Fr (fun _=>False) (Own m) G G1 w w/\(∀x,dw (m x) (m1 x))/\∀x l b,m1 x=some l->b∈l.ga->Own m b:=by
 have hS2:=hS1.kill hd;unfold AV.aq at hr;obtain⟨_,loc,hloc,hsl⟩:=hr;have hnd:loc≠.dead:=fun e=>by subst e;rw[hS.dead _ hloc]at hl0;cases hl0
 have get:∀{x l},aJ m hd .dead x=some l->(x=hd/\l=.dead)\/(x≠hd/\m x=some l):=fun{x l} hx=>by
  unfold aJ at hx;split at hx
  ·cases hx;exact .inl ⟨‹_›,rfl⟩
  ·exact .inr ⟨‹_›,hx⟩
 have hfr:Fr (fun _=>False) (Own m) G G1 w w:=⟨rfl,.same rfl rfl,rfl,me _,fun _ _ _=>rfl,fun b _ ho o=>hG b (fun sz e=>ho (.at_ e)) o,hle⟩;have hsame:∀x,dw (m x) (aJ m hd .dead x):=fun x=>by
  unfold aJ;split
  ·rename_i e;exact .inr (.inl ⟨by rw[e,hloc];simp,rfl⟩)
  ·exact .inl rfl
 have hown:∀x l b,aJ m hd .dead x=some l->b∈l.ga->Own m b:=fun x l b hx hb=>by
  rcases get hx with⟨_,rfl⟩|⟨_,hx⟩
  ·cases hb
  ·exact⟨x,l,hx,hb⟩
 rcases hsl hnd with⟨a,rfl,h0⟩|⟨b,sz,cap,rfl,rfl,hcap,hsz⟩
 ·refine⟨_,[],hlk▸hS2,.inl ⟨a,rfl,List.length_eq_zero_iff.1 h0,rfl⟩,ab7,(fun c hc=>by cases hc),hfr,hsame,hown⟩
 ·obtain⟨bl,hl',hb⟩:=hS1.fh _ _ _ hloc;rw[hl]at hl';cases hl';have hb:bg G1 (fun _=>none) (.row mt k es) b sz w:=by cases mt<;>exact hb
  refine⟨_,[b],hlk▸hS2,.inr ⟨b,sz,cap,rfl,by simp,hcap,by simpa using hsz,hb⟩,(by simp),fun c hc=>?_,hfr,hsame,hown⟩;rw[aai.1 hc];refine⟨fun⟨x,l,hx,hbx⟩=>?_,.at_ hloc⟩;rcases get hx with⟨_,rfl⟩|⟨hne,hx⟩
  ·cases hbx
  ·exact hne (hS.da x hd l _ b hx hloc hbx (aai.2 rfl))
theorem bHm{K:MV->an->Prop}(h:FE s z K):∃mv s1,K mv s1/\s1.env=s.env/\s1.nx=s.nx/\(∀x bl,s.lk x=some bl->(∀mt k es,bl≠.row mt k es)->s1.lk x=some bl)/\(∀j,s.own j=none->s1.own j=none)/\
  ∀(G:Gh) (m:HM) (w:World) (v:Value),cf G m s.lk w->AV.aq G m z v->∃G1 m1 g,cf G1 m1 s1.lk w/\MV.aq G1 mv v g w/\g.Nodup/\(∀c∈g,¬Own m1 c/\Own m c)/\Fr (fun _=>False) (Own m) G G1 w w/\(∀x,dw (m x) (m1 x))/\∀x l b,m1 x=some l->b∈l.ga->Own m b:=by
 rcases h with⟨hf,hK⟩|⟨hd,k,mt,es,rfl,hl,hK⟩
 ·exact⟨_,_,hK,rfl,rfl,fun _ _ h _=>h,fun _ h=>h,fun G m w v hS hr=>⟨G,m,[],hS,⟨rfl,AV.j5 _ _ hf hr⟩,ab7,(fun c hc=>by cases hc),Fr.refl _ _ _ _,fun _=>.inl rfl,fun x l b h1 h2=>⟨x,l,h1,h2⟩⟩⟩
 ·have side:(∀x bl,s.lk x=some bl->(∀mt k es,bl≠.row mt k es)->(s.ba hd none).lk x=some bl)/\∀j,s.own j=none->(s.ba hd none).own j=none:=⟨fun x bl hx hn=>by
   rw[aQ,if_neg (fun e=>by subst e;rw[hl]at hx;cases hx;exact hn _ _ _ rfl)];exact hx,fun j hj=>by
   have:(s.ba hd none).lk (.O j)=none:=by
    rw[aQ];split
    ·rfl
    ·exact hj
   exact this⟩
  rcases hK with hK|⟨rfl,hK⟩
  ·refine⟨_,_,hK,eO _ _ _,cC _ _ _,side.1,side.2,fun G m w v hS hr=>?_⟩;obtain⟨G1,hS1,hle,hG⟩:=hS.l9 hd;obtain⟨m1,g,q⟩:=NN (mt:=false) hS hl hS1 (by rw[if_pos rfl,hl];rfl) hle hG (by
    funext x;rw[aQ];by_cases e:x=hd
    ·rw[if_pos e,if_pos e]
    ·rw[if_neg e,if_neg e,if_neg e]) hr
   exact⟨G1,m1,g,q⟩
  ·refine⟨_,_,hK,eO _ _ _,cC _ _ _,side.1,side.2,fun G m w v hS hr=>?_⟩;obtain⟨m1,g,q⟩:=NN (mt:=true) hS hl hS hl (Gh.le.refl G) (fun _ _ _=>rfl) (by funext x;rw[aQ]) hr;exact⟨G,m1,g,q⟩
theorem Ni:∀{ks:List IntKind} {cs:List AV},ov ks cs=true->AV.jq cs=true
 |ks,cs,h=>by
  unfold ov at h;split at h
  ·rfl
  ·rw[μ]at h;show(true&&AV.jq _)=true;rw[Bool.true_and];exact Ni h.2
  ·cases h
theorem bDa{a:AV}(h:a.r6 kd=true):a.lp=true:=by
 unfold AV.r6 at h;split at h
 ·rfl
 ·rfl
 ·exact Ni h
 ·cases h
section
variable{P:Program}{o:Oper}
structure xb (Pre:(Operand->Value)->World->Prop) (P:Program) (o:Oper) (xs:List Operand) (dst:Option Nat) (s s':an):Prop where
 env:∀t,dst≠some t->s'.env t=s.env t
 nx:s.nx<=s'.nx
 own:(∀i,s.nx<=i->s.own i=none)->∀i,s'.nx<=i->s'.own i=none
 run:∀(G:Gh) (m:HM) (w:World) (ρ:Operand->Value),Pre ρ w->(∀v,ρ (.const v)=v)->cf G m s.lk w->(∀x∈xs,AV.aq G m (s.ev x) (ρ x))->(∀j,s.nx<=j->j<s'.nx->m (.O j)=none)->
  bp P o ρ w (tp G m s dst s' w)
theorem xb.ok{Pre:(Operand->Value)->World->Prop}{P:Program}{o:Oper}(h:xb Pre P o xs dst s s')(hp:∀ρ w,Pre ρ w):nk P o xs dst s s':=
 ⟨h.env,h.nx,h.own,fun G m w ρ=>h.run G m w ρ (hp ρ w)⟩
theorem bDb{z:Operand}(Pre:(Operand->Value)->World->Prop)(hd:dst=none)
  (hex0:∀(ρ:Operand->Value) (w:World) (b:Nat) (arr:Array MapEntry) (clk:Nat),Pre ρ w->ρ x=.map (some b)->w.heap[b]?=some (.map arr clk)->MapKept.Stamped arr clk->(∀e∈arr.toList,mV kd e.key)->mV kd (ρ y)->(∀e∈arr.toList,e.key≠ρ y)->(execOp ρ o).run P w=.ok .skip (w.putObj b (.map (arr.push {key:=ρ y,val:=ρ z,born:=clk}) (clk+1))))
  (hex1:∀(ρ:Operand->Value) (w:World) (b:Nat) (arr:Array MapEntry) (clk j:Nat) (u:MapEntry),Pre ρ w->ρ x=.map (some b)->w.heap[b]?=some (.map arr clk)->MapKept.Stamped arr clk->(∀e∈arr.toList,mV kd e.key)->mV kd (ρ y)->arr.toList[j]?=some u->u.key=ρ y->(execOp ρ o).run P w=.ok .skip (w.putObj b (.map (arr.modify j fun e=>{e with key:=ρ y,val:=ρ z}) clk)))
  (h:vh s kd y z K (s.ev x)):∃s',K s'/\xb Pre P o [x,y,z] dst s s':=by
 subst hd;generalize hx:s.ev x=ax at h;unfold vh at h;split at h
 case h_2=>exact h.elim
 rename_i hd;obtain⟨hky,h⟩:=h;obtain⟨mv,s1,⟨es,it,r,hl,hf,hK⟩,he1,hn1,hl1,ho1,hval⟩:=bHm h;have hl':s1.lk hd=some (.mp kd es it):=hl1 _ _ hl (fun _ _ _=>by simp);refine⟨_,hK,⟨fun t _=>by rw[eO,he1],by rw[cC,hn1];exact me _,fun hown j hj=>?_,fun G m w ρ hpre hρ hS hev hn=>?_⟩⟩
 ·rw[cC,hn1]at hj;refine jW (s:=s1) (fun j hj=>ho1 j (hown j (hn1▸hj))) ⟨_,hl'⟩ j (by rw[hn1];exact hj)
 ·obtain⟨G1,m1,g,hS1,hmv,hgn,hgo,hF1,hsame1,hown1⟩:=hval G m w (ρ z) hS (hev z (by simp));have hle1:HM.le m m1:=fun x l hx=>(hsame1 x).le hx;have hrx:=hev x (by simp);rw[hx]at hrx;have hry:=AV.aq.mono hF1.le hle1 _ _ (hev y (by simp));obtain⟨b,sz,fp,hm,hv,hb⟩:=Oj hS1 (AV.aq.mono hF1.le hle1 _ _ hrx) hl';obtain⟨h0,h0',arr,clk,h1,h2,h3,h4,h5⟩:=hb;have hkv:=Pm hry hky;have hfo:=Ee hry h4 hf;have hrk:AV.aq G1 (fun _=>none) (s.ev y) (ρ y):=AV.j5 _ _ (bDa hky) hry;have hcell:∀c∈fp,c≠b:=fun c hc e=>by obtain⟨_,_,q⟩:=h4.lt c hc;rw[e,h1]at q;cases q
  have hcell2:∀c∈g,c≠b:=fun c hc e=>(hgo c hc).1 (e▸⟨_,_,hm,aap⟩);have fin:∀(arr':Array MapEntry) (clk':Nat) (es':List (AV×MV)) (fp':List Nat),MapKept.Stamped arr' clk'->(∀x∈arr'.toList,mV kd x.key)->dk G1 es' arr'.toList fp' w->fp'.Nodup->(∀c∈fp',c∈fp\/c∈g)->
    tp G m s none (s1.ba hd (some (.mp kd es' none))) w undef (w.putObj b (.map arr' clk')):=fun arr' clk' es' fp' q1 q2 q3 q4 q5=>by
   have hlt:=(aad.1 h1).1;have hbl:c9 G1 (aJ m1 hd (.atx b sz fp')) (.mp kd es' none) b sz fp' (w.putObj b (.map arr' clk')):=
    ⟨h0,q4,arr',clk',World.putObj_heap_same hlt,q1,q2,q3.mono (Gh.le.refl _) (fun _ _ _=>rfl) (fun c hc=>World.putObj_heap_other (by rcases q5 c hc with q|q<;>first|exact hcell c q|exact hcell2 c q)),fun _ _ e=>by cases e⟩
   obtain⟨hS2,hle2⟩:=hS1.IE hm h1 (fun c hc=>(q5 c hc).imp id fun q=>(hgo c q).1) hbl;have hsame2:∀x,dw (m1 x) (aJ m1 hd (.atx b sz fp') x):=fun x=>by
    unfold aJ;split
    ·rename_i e;exact .inr (.inr ⟨b,sz,fp,fp',by rw[e,hm],rfl⟩)
    ·exact .inl rfl
   have hob:Own m b:=hown1 _ _ b hm aap;refine⟨G1,_,hS2,(fun d hd=>by cases hd),(hF1.mono (fun _ _ q=>q.elim) (fun _ _ q=>q)).trans (Fr.th hob),hle1.trans hle2,fun i=>(hsame1 _).trans (hsame2 _),fun j _=>(hsame1 _).trans (hsame2 _),fun y l c hy hc=>.inr ?_⟩;unfold aJ at hy;split at hy
   ·cases hy;rcases ω.1 hc with rfl|hc
    ·exact hob
    ·rcases q5 c hc with q|q
     ·exact hown1 _ _ c hm (aab _ q)
     ·exact(hgo c q).2
   ·exact hown1 _ _ c hy hc
  match r,hf,hfo with
  |none,hf,hfo=>
   have hfo:∀x∈arr.toList,x.key≠ρ y:=hfo;unfold bp;rw[hex0 ρ w b arr clk hpre hv h1 h2 h3 hkv hfo];refine fin _ _ _ (fp++g) (MapKept.stamped_push h2 hfo) (fun x hx=>?_) ?_ ?_ (fun c hc=>aau.1 hc)
   ·simp only[Array.toList_push,aau,aai]at hx;rcases hx with hx|rfl
    ·exact h3 x hx
    ·exact hkv
   ·rw[Array.toList_push];exact dk.push (e':=(s.ev y,mv)) hrk hmv h4
   ·exact acB.2 ⟨h0',hgn,fun a ha c hc e=>(hgo c hc).1 (e▸⟨_,_,hm,aab _ ha⟩)⟩
  |some (j,mv'),hf,⟨u,k2,f1,f2,f3,q1,q2,q3,q4,q5,q6⟩=>
   unfold bp;rw[hex1 ρ w b arr clk j u hpre hv h1 h2 h3 hkv q1 q3];obtain⟨a1,a2,a3,rfl,b1,b2,b3,b4⟩:=h4.at q2 q1;have hkey:∀e',arr[j]?=some e'->({e' with key:=ρ y,val:=ρ z}:MapEntry).key=e'.key:=fun e' he'=>by rw[aaj]at q1;rw[q1]at he';cases he';exact q3.symm
   refine fin _ _ _ (a1++g++a3) (MapKept.stamped_modify h2 _ _ (fun _ _=>rfl) (fun e' _ he'=>hkey e' he')) (VC h3 _ _ hkey) ?_ ?_ (fun c hc=>?_)
   ·rw[Q6 _ q1];exact b4 (s.ev y,mv) _ g hrk hmv
   ·have hnd:=h0';rw[List.append_assoc]at hnd|-;obtain⟨n1,n2,n3⟩:=acB.1 hnd;obtain⟨n4,n5,n6⟩:=acB.1 n2;have hg:∀c∈g,∀a∈a1++a2++a3,a≠c:=fun c hc a ha e=>(hgo c hc).1 (e▸⟨_,_,hm,aab _ ha⟩);refine acB.2 ⟨n1,acB.2 ⟨hgn,n5,fun a ha c hc e=>hg a ha c (by simp[hc]) e.symm⟩,fun a ha c hc=>?_⟩;rcases aau.1 hc with hc|hc
    ·exact hg c hc a (by simp[ha])
    ·exact n3 a ha c (abi _ hc)
   ·simp only[aau]at hc|-;rcases hc with(hc|hc)|hc
    ·exact .inl (.inl (.inl hc))
    ·exact .inr hc
    ·exact .inl (.inr hc)
theorem Yr{T e k0:TypeId}{z:Operand}(ho:o.op=.mapUpdate T x y z\/o.op=.insert T x y z)(hd:dst=none)(hT:P.underlying T=some (.map k0 e))(hk0:sq P k0 kd)
  (h:vh s kd y z K (s.ev x)):∃s',K s'/\nk P o [x,y,z] dst s s':=by
 have hdoes:∀(ρ:Operand->Value) (w w':World),(Instr.mapUpdate T (ρ x) (ρ y) (ρ z)).run P w=.ok () w'->(execOp ρ o).run P w=.ok .skip w':=fun ρ w w' hr=>by rcases ho with ho|ho<;>simp[execOp,ho,hr]
 obtain⟨s',hK,hE⟩:=bDb (P:=P) (o:=o) (fun _ _=>True) hd (fun ρ w b arr clk _ hv h1 h2 h3 hkv hfo=>hdoes ρ w _ (by
  have hfn:=wP hk0 (r:=none) hkv h2 h3 hfo;simp[Instr.mapUpdate,hv,run_underlying hT,MapKept.run_getObj_map h1,wJ hk0 hkv,hfn,MapKept.run_setObj_map _ h1,World.putObj])) (fun ρ w b arr clk j u _ hv h1 h2 h3 hkv hj hu=>hdoes ρ w _ (by
  have hfn:=wP hk0 (r:=some (j,u)) hkv h2 h3 ⟨hj,hu⟩;have hj':arr[j]?=some u:=by simpa using hj
  simp[Instr.mapUpdate,hv,run_underlying hT,MapKept.run_getObj_map h1,wJ hk0 hkv,hfn,hj',hu,RH hkv,MapKept.run_setObj_map _ h1,World.putObj])) h
 exact⟨s',hK,hE.ok fun _ _=>trivial⟩
theorem Ba{bl bl2:bn}{a:AV}(hne:h≠.O s.nx):((s.ba h (some bl)).put dst a [bl2] []).lk=fun x=>if x=.O s.nx then some bl2 else if x=h then some bl else s.lk x:=by
 funext xx;rw[jZ,eD,cC];unfold ij;cases xx with
 |B j=>simp[aQ]
 |O j=>
  by_cases e:j=s.nx
  ·subst e;simp
  ·have e1:¬(s.nx<=j/\j<s.nx+[bl2].length):=by simp;omega
   simp only[e1,if_false,aQ,Hd.O.injEq,e]
def Wd(s:an)(dst:Option Nat)(K:an->Prop):AV->Prop
 |.itr h hi=>(s.lk hi).isSome=true/\∃kd es cur rem,s.lk h=some (.mp kd es (some (hi,cur,rem)))/\(rem=[]->K (s.put dst (.cn [.D (.B false)]) [] []))/\
  ∀j key,rem[j]?=some key->K ((s.ba h (some (.mp kd es (some (hi,[key],rem.eraseIdx j))))).put dst (.cn [.D (.B true),.any,.any]) [] [])
 |_=>False
end
end
structure fm (P:Program) (ops:Array Oper) (N:Nat) (o:Oper) (ro:RO):Prop where
 op:ro.op=.stop\/∃b op0,aA P o=some op0/\ro.op=cE b op0
 dst:ro.dst=o.dst
 lt:∀d,o.dst=some d->d<N
 xs:∀x∈ro.op.operands,x.mg N=true
 guard:match o.guard with
  |none=>ro.guard=none
  |some (j,want)=>∃t,(ops[j]?).bind (·.dst)=some t/\t<N/\ro.guard=some (t,want)
def R5:Nat:=3000000
def UK:Nat:=4000000
def bQq:Nat:=5000000
def CV(fl:List Nat)(o:Oper):Mk:=
 match o.op with
 |.call c=>match c.callee with
  |.value (.func f)=>if fl.contains (UK+f)=true then .d else if fl.contains (bQq+f)=true then .e else match o.dst with|some d=>if fl.contains d=true then .e else .n|none=>.n
  |_=>match o.dst with|some d=>if fl.contains d=true then .e else .n|none=>.n
 |_=>match o.dst with|some d=>if fl.contains d=true then .e else if fl.contains (R5+d)=true then .d else .n|none=>.n
def I7(P:Program)(fl:List Nat)(N:Nat)(ops:Array Oper)(o:Oper):Option RO:=
 match((aA P o).map (cE (CV fl o))).getD .stop with
 |op=>
  if((match o.dst with|some d=>decide (d<N)|none=>true)&&op.operands.all (Operand.mg N))=true then
   match o.guard with
   |none=>some ⟨o.dst,op,none⟩
   |some (j,want)=>match(ops[j]?).bind (·.dst)with
    |some t=>if t<N then some ⟨o.dst,op,some (t,want)⟩else none
    |none=>none
  else none
theorem Q7(h:I7 P fl N ops o=some ro):fm P ops N o ro:=by
 unfold I7 at h;have hop:((aA P o).map (cE (CV fl o))).getD .stop=.stop\/∃b op0,aA P o=some op0/\((aA P o).map (cE (CV fl o))).getD .stop=cE b op0:=by
  cases hr:aA P o with
  |none=>exact .inl rfl
  |some op0=>exact .inr ⟨_,op0,rfl,rfl⟩
 generalize((aA P o).map (cE (CV fl o))).getD .stop=op at h hop;simp only at h;rw[ζ]at h;obtain⟨hd,h⟩:=h;rw[μ]at hd;obtain⟨hd,hxs⟩:=hd;rw[aa1]at hxs;have hlt:∀d,o.dst=some d->d<N:=fun d e=>by rw[e]at hd;simpa using hd
 split at h
 ·rename_i hg;cases h;exact⟨hop,rfl,hlt,hxs,by rw[hg]⟩
 ·rename_i j want hg;split at h
  ·rename_i t ht;rw[ζ]at h;obtain⟨htN,h⟩:=h;cases h;exact⟨hop,rfl,hlt,hxs,by rw[hg];exact⟨t,ht,htN,rfl⟩⟩
  ·cases h
def bu.Lk:bu->Bool
 |.loadS _ _=>true
 |.faddrS _ _=>true
 |.nilcS _=>true
 |.lenS _ _=>true
 |.sllS _ _ _ _ _=>true
 |.bsF _ _=>true
 |.stop=>true
 |.loadD _ _=>true
 |.iaddrD _ _ _=>true
 |.sllD _ _ _ _ _=>true
 |.callP _ _=>true
 |.mkmW _=>true
 |_=>false
theorem fm.pure(hr:fm P ops N o ro)(he:ro.op.fu=false)(hne:ro.op.Lk=false):aA P o=some ro.op:=by
 obtain⟨b,op0,h1,h2⟩:=hr.op.resolve_left (fun e=>by rw[e]at hne;cases hne);have:ro.op=op0:=by
  rw[h2]at he hne|-;cases b with
  |n=>rfl
  |e=>cases op0<;>first|rfl|(cases he;done)|(cases hne;done)|(simp only[cE,iY]at hne|-;split<;>rename_i e<;>simp only[e]at hne<;>first|(cases hne;done)|rfl)
  |d=>cases op0<;>first|rfl|(cases he;done)|(cases hne;done)
 rw[this];exact h1
theorem Qh(he:ro.op.fu=false):pE P s ro K=aY P s.lk s.nx s.ev ro.op fun a nbs fz=>K (s.put ro.dst a nbs fz):=by
 unfold pE;split
 ·rename_i h;rw[h]at he;cases he
 ·rename_i h;rw[h]at he;cases he
 ·rename_i h;rw[h]at he;cases he
 ·rename_i h;rw[h]at he;cases he
 ·rename_i h;rw[h]at he;cases he
 ·rename_i h;rw[h]at he;cases he
 ·rename_i h;rw[h]at he;cases he
 ·rename_i h;rw[h]at he;cases he
 ·rename_i h;rw[h]at he;cases he
 ·rename_i h;rw[h]at he;cases he
 ·rfl
theorem Xi(h:aA P o=some (.app k bytes x y)):∃c t u e d i,o.op=.call c/\c.callee=.builtin .append/\c.args.toList=[x,y]/\c.argTypes.toList=[t,u]/\
  P.underlying t=some (.slice e)/\P.underlying u=some d/\(d=.string\/∃e',d=.slice e')/\P.info? e=some i/\i.zero.any (fun z=>z.cells.size==i.size)=true/\0<i.bytes/\k=i.size/\bytes=i.bytes:=by
 cases ho:o.op
 case call c=>
  cases hc:c.callee
  case builtin b=>
   cases b
   case append=>
    simp only[aA,ho,hc]at h;split at h
    case h_2=>cases h
    rename_i x' y' t u ha ht;split at h
    case h_1=>
     simp only[η,ζ]at h;obtain⟨i,hi,z,hz,_,h⟩:=h;cases h
    case h_3=>cases h
    rename_i e d _ hd1 hd2;simp only[η]at h;obtain⟨i,hi,h⟩:=h;rw[ζ]at h;obtain⟨hcond,h⟩:=h;cases h;simp only[μ,decide_eq_true_eq]at hcond;obtain⟨⟨⟨h1,h2⟩,h3⟩,h4⟩:=hcond;refine⟨c,t,u,e,d,i,rfl,hc,ha,ht,hd1,hd2,?_,hi,h4,h3,rfl,rfl⟩;cases d
    case string=>exact .inl rfl
    case slice=>exact .inr ⟨_,rfl⟩
    all_goals(simp at h1)
   all_goals(exfalso;simp only[aA,ho,hc]at h;(repeat' split at h)<;>simp_all[η,ι,ζ])
  all_goals(exfalso;simp only[aA,ho,hc]at h;cases h)
 case field=>exfalso;simp only[aA,ho,η]at h;obtain⟨f,_,h⟩:=h;split at h<;>cases h
 all_goals(exfalso;simp only[aA,ho]at h;(repeat' split at h)<;>simp_all[η,ι,ζ])
theorem VN{sz:Nat}(h:aA P o=some (.store sz x y)):∃T i,o.op=.store T x y/\o.dst=none/\P.info? T=some i/\sz=i.size:=by
 cases ho:o.op
 case store T x' y'=>
  simp only[aA,ho,ζ,ι]at h;obtain⟨hdst,i,hi,he⟩:=h;cases he;exact⟨T,i,rfl,by simpa using hdst,hi,rfl⟩
 case field=>exfalso;simp only[aA,ho,η]at h;obtain⟨f,_,h⟩:=h;split at h<;>cases h
 all_goals(exfalso;simp only[aA,ho]at h;(repeat' split at h)<;>simp_all[η,ι,ζ])
theorem aWe{sz:Nat}(h:bu.store sz x y=cE b op0):op0=.store sz x y:=by cases b<;>cases op0<;>first|(cases h;done)|(cases h;rfl)|(simp only[cE,iY]at h;split at h<;>cases h)
theorem Qp(h:bu.appE k bytes x y=cE b op0):op0=.app k bytes x y\/op0=.appE k bytes x y:=by cases b<;>cases op0<;>first|(cases h;done)|(cases h;exact .inl rfl)|(cases h;exact .inr rfl)|(simp only[cE,iY]at h;split at h<;>cases h)
theorem Uo(h:aA P o=some (.appE k bytes x y)):False:=by
 cases ho:o.op
 case field=>simp only[aA,ho,η]at h;obtain⟨f,_,h⟩:=h;split at h<;>cases h
 all_goals(simp only[aA,ho]at h;(repeat' split at h)<;>simp_all[η,ι,ζ])
theorem Oq{args:List Operand}(h:bu.callE f args=cE b op0):op0=.call f args\/op0=.callE f args:=by cases b<;>cases op0<;>first|(cases h;done)|(cases h;exact .inl rfl)|(cases h;exact .inr rfl)|(simp only[cE,iY]at h;split at h<;>cases h)
theorem Mi{args:List Operand}(h:aA P o=some (.callE f args)):False:=by
 cases ho:o.op
 case field=>simp only[aA,ho,η]at h;obtain⟨f,_,h⟩:=h;split at h<;>cases h
 all_goals(simp only[aA,ho]at h;(repeat' split at h)<;>simp_all[η,ι,ζ])
theorem yF{args:List Operand}(h:aA P o=some (.call f args)):∃c,o.op=.call c/\c.callee=.value f/\c.args.toList=args:=by
 cases ho:o.op
 case call c=>
  simp only[aA,ho]at h;split at h
  ·rename_i g hg;cases h;exact⟨c,rfl,hg,rfl⟩
  all_goals(exfalso;(repeat' split at h)<;>simp_all[η,ι,ζ])
 case field=>exfalso;simp only[aA,ho,η]at h;obtain⟨f,_,h⟩:=h;split at h<;>cases h
 all_goals(exfalso;simp only[aA,ho]at h;(repeat' split at h)<;>simp_all[η,ι,ζ])
theorem U8{zs:List DV}(h:bu.clr k zs x=cE b op0):op0=.clr k zs x:=by cases b<;>cases op0<;>first|(cases h;done)|(cases h;rfl)|(simp only[cE,iY]at h;split at h<;>cases h)
theorem Ww(h:bu.cpy k x y=cE b op0):op0=.cpy k x y:=by cases b<;>cases op0<;>first|(cases h;done)|(cases h;rfl)|(simp only[cE,iY]at h;split at h<;>cases h)
theorem WX{zs:List DV}(h:aA P o=some (.clr k zs x)):∃c t e i z,o.op=.call c/\c.callee=.builtin .clear/\c.args.toList=[x]/\c.argTypes.toList=[t]/\
  P.underlying t=some (.slice e)/\P.info? e=some i/\i.zero=some z/\z.cells.size=i.size/\(z.cells.toList.map iP).all DV.one=true/\k=i.size/\zs=z.cells.toList.map iP:=by
 cases ho:o.op
 case call c=>
  cases hc:c.callee
  case builtin b=>
   cases b
   case clear=>
    simp only[aA,ho,hc]at h;split at h
    case h_2=>cases h
    rename_i x' t ha ht;split at h
    case h_2=>cases h
    rename_i e hd1;simp only[η,ζ,μ,beq_iff_eq]at h;obtain⟨i,hi,z,hz,⟨h1,h2⟩,h⟩:=h;cases h;exact⟨c,t,e,i,z,rfl,hc,ha,ht,hd1,hi,hz,h1,h2,rfl,rfl⟩
   all_goals(exfalso;simp only[aA,ho,hc]at h;(repeat' split at h)<;>simp_all[η,ι,ζ])
  all_goals(exfalso;simp only[aA,ho,hc]at h;cases h)
 case field=>exfalso;simp only[aA,ho,η]at h;obtain⟨f,_,h⟩:=h;split at h<;>cases h
 all_goals(exfalso;simp only[aA,ho]at h;(repeat' split at h)<;>simp_all[η,ι,ζ])
theorem Sp(h:aA P o=some (.cpy k x y)):∃c t u e i,o.op=.call c/\c.callee=.builtin .copy/\c.args.toList=[x,y]/\c.argTypes.toList=[t,u]/\
  P.underlying t=some (.slice e)/\P.info? e=some i/\k=i.size:=by
 cases ho:o.op
 case call c=>
  cases hc:c.callee
  case builtin b=>
   cases b
   case copy=>
    simp only[aA,ho,hc]at h;split at h
    case h_2=>cases h
    rename_i x' y' t u ha ht;split at h
    case h_2=>cases h
    rename_i e hd1;simp only[ι]at h;obtain⟨i,hi,h⟩:=h;cases h;exact⟨c,t,u,e,i,rfl,hc,ha,ht,hd1,hi,rfl⟩
   all_goals(exfalso;simp only[aA,ho,hc]at h;(repeat' split at h)<;>simp_all[η,ι,ζ])
  all_goals(exfalso;simp only[aA,ho,hc]at h;cases h)
 case field=>exfalso;simp only[aA,ho,η]at h;obtain⟨f,_,h⟩:=h;split at h<;>cases h
 all_goals(exfalso;simp only[aA,ho]at h;(repeat' split at h)<;>simp_all[η,ι,ζ])
theorem Y5{ok:Bool}(h:bu.mtake kd z k ok x y=cE b op0):op0=.mget kd z k ok x y\/op0=.mtake kd z k ok x y:=by cases b<;>cases op0<;>first|(cases h;done)|(cases h;exact .inl rfl)|(cases h;exact .inr rfl)|(simp only[cE,iY]at h;split at h<;>cases h)
theorem Qq{z:Operand}(h:bu.mput kd x y z=cE b op0):op0=.mput kd x y z:=by cases b<;>cases op0<;>first|(cases h;done)|(cases h;rfl)|(simp only[cE,iY]at h;split at h<;>cases h)
theorem V3(h:bu.mdel kd x y=cE b op0):op0=.mdel kd x y:=by cases b<;>cases op0<;>first|(cases h;done)|(cases h;rfl)|(simp only[cE,iY]at h;split at h<;>cases h)
theorem QP(h:bu.rng kd x=cE b op0):op0=.rng kd x:=by cases b<;>cases op0<;>first|(cases h;done)|(cases h;rfl)|(simp only[cE,iY]at h;split at h<;>cases h)
theorem ZP(h:bu.entT x=cE b op0):op0=.ent x\/op0=.entT x:=by cases b<;>cases op0<;>first|(cases h;done)|(cases h;exact .inl rfl)|(cases h;exact .inr rfl)|(simp only[cE,iY]at h;split at h<;>cases h)
theorem WZ(h:aA P o=some (.entT x)):False:=by
 cases ho:o.op
 case field=>simp only[aA,ho,η]at h;obtain⟨f,_,h⟩:=h;split at h<;>cases h
 all_goals(simp only[aA,ho]at h;(repeat' split at h)<;>simp_all[η,ι,ζ])
theorem RY(h:bu.mkmW kd=cE b op0):op0=.mkm kd\/op0=.mkmW kd:=by cases b<;>cases op0<;>first|(cases h;done)|(cases h;exact .inl rfl)|(cases h;exact .inr rfl)|(simp only[cE,iY]at h;split at h<;>cases h)
theorem QA(h:aA P o=some (.mkmW kd)):False:=by
 cases ho:o.op
 case field=>simp only[aA,ho,η]at h;obtain⟨f,_,h⟩:=h;split at h<;>cases h
 all_goals(simp only[aA,ho]at h;(repeat' split at h)<;>simp_all[η,ι,ζ])
theorem U9{ok:Bool}(h:aA P o=some (.mtake kd z k ok x y)):False:=by
 cases ho:o.op
 case field=>simp only[aA,ho,η]at h;obtain⟨f,_,h⟩:=h;split at h<;>cases h
 all_goals(simp only[aA,ho]at h;(repeat' split at h)<;>simp_all[η,ι,ζ])
theorem Xe{ok:Bool}(h:aA P o=some (.mget kd z k ok x y)):∃T k0 e i z0,o.op=.lookup T x y ok/\P.underlying T=some (.map k0 e)/\sq P k0 kd/\P.info? e=some i/\i.zero=some z0/\z=qG z0:=by
 cases ho:o.op
 case lookup T x' y' ok'=>
  simp only[aA,ho,η,ι]at h;obtain⟨⟨kd',e⟩,hT,i,hi,z0,hz,h⟩:=h;cases h;obtain⟨k0,h1,h2⟩:=qT hT;exact⟨T,k0,e,i,z0,rfl,h1,h2,hi,hz,rfl⟩
 case field=>exfalso;simp only[aA,ho,η]at h;obtain⟨f,_,h⟩:=h;split at h<;>cases h
 all_goals(exfalso;simp only[aA,ho]at h;(repeat' split at h)<;>simp_all[η,ι,ζ])
theorem Tx{z:Operand}(h:aA P o=some (.mput kd x y z)):∃T k0 e,(o.op=.mapUpdate T x y z\/o.op=.insert T x y z)/\o.dst=none/\P.underlying T=some (.map k0 e)/\sq P k0 kd:=by
 cases ho:o.op
 case mapUpdate T x' y' z'=>
  simp only[aA,ho,ζ,ι]at h;obtain⟨hd,⟨kd',e⟩,hT,h⟩:=h;cases h;obtain⟨k0,h1,h2⟩:=qT hT;exact⟨T,k0,e,.inl rfl,by simpa using hd,h1,h2⟩
 case insert T x' y' z'=>
  simp only[aA,ho,ζ,ι]at h;obtain⟨hd,⟨kd',e⟩,hT,h⟩:=h;cases h;obtain⟨k0,h1,h2⟩:=qT hT;exact⟨T,k0,e,.inr rfl,by simpa using hd,h1,h2⟩
 case field=>exfalso;simp only[aA,ho,η]at h;obtain⟨f,_,h⟩:=h;split at h<;>cases h
 all_goals(exfalso;simp only[aA,ho]at h;(repeat' split at h)<;>simp_all[η,ι,ζ])
theorem bJp(h:aA P o=some (.rng kd x)):∃T k0 e,o.op=.range T x/\P.underlying T=some (.map k0 e):=by
 cases ho:o.op
 case range T x'=>
  simp only[aA,ho,ι]at h;obtain⟨⟨kd',e⟩,hT,h⟩:=h;cases h;obtain⟨k0,h1,h2⟩:=qT hT;exact⟨T,k0,e,rfl,h1⟩
 case field=>exfalso;simp only[aA,ho,η]at h;obtain⟨f,_,h⟩:=h;split at h<;>cases h
 all_goals(exfalso;simp only[aA,ho]at h;(repeat' split at h)<;>simp_all[η,ι,ζ])
theorem bDf(h:aA P o=some (.mdel kd x y)):∃c T t2 k0 e,o.op=.call c/\c.callee=.builtin .delete/\c.args.toList=[x,y]/\c.argTypes.toList=[T,t2]/\o.dst=none/\P.underlying T=some (.map k0 e)/\sq P k0 kd:=by
 cases ho:o.op
 case call c=>
  cases hc:c.callee
  case builtin b=>
   cases b
   case delete=>
    simp only[aA,ho,hc]at h;split at h
    case h_2=>cases h
    rename_i x' y' t t2 ha ht;simp only[ζ,ι]at h;obtain⟨hd,⟨kd',e⟩,hT,h⟩:=h;cases h;obtain⟨k0,h1,h2⟩:=qT hT;exact⟨c,t,t2,k0,e,rfl,hc,ha,ht,by simpa using hd,h1,h2⟩
   all_goals(exfalso;simp only[aA,ho,hc]at h;(repeat' split at h)<;>simp_all[η,ι,ζ])
  all_goals(exfalso;simp only[aA,ho,hc]at h;cases h)
 case field=>exfalso;simp only[aA,ho,η]at h;obtain⟨f,_,h⟩:=h;split at h<;>cases h
 all_goals(exfalso;simp only[aA,ho]at h;(repeat' split at h)<;>simp_all[η,ι,ζ])
theorem UQ{T:TypeId}{a:Operand}{i:TypeInfo}(ho:o.op=.store T a x)(hi:P.info? T=some i)
  (h:pU (s.put none .un [] (ja s.lk (AV.rows (s.ev x)))) i.size (AV.conv s.lk (fun _=>none) (s.ev x)) K (s.ev a)):∃s',K s'/\nk P o [a,x] none s s':=by
 obtain⟨hdl,bl,hK,hb0,hsem⟩:=Pj ho hi h;have hlk:(s.put none .un [] (ja s.lk (AV.rows (s.ev x)))).lk=fo s.lk (ja s.lk (AV.rows (s.ev x))):=by rw[jZ,iL]
 refine⟨_,hK,⟨fun t _=>by rw[eO];rfl,by rw[cC];exact me _,fun hown j hj=>jW (fun i hi=>qI hown i hi) hb0 j (by rw[cC]at hj;exact hj),fun G m w ρ _ hS hev _=>?_⟩⟩;obtain⟨G1,k1,k2,k3⟩:=hS.freeze (ja s.lk (AV.rows (s.ev x)));have ha:=hev a (by simp);have hx:=hev x (by simp);have hx1:AV.aq G1 m (AV.conv s.lk (fun _=>none) (s.ev x)) (ρ x):=by
  refine AV.kx k1 (fun h mt k es hl=>?_) (fun _ _ _ e _=>by cases e) _ _ (fun h hh mt k es _ hs hl=>?_) (AV.aq.mono k2 (HM.le.refl m) _ _ hx)
  ·unfold fo;split
   ·rw[hl];exact⟨_,rfl⟩
   ·exact⟨_,hl⟩
  ·unfold fo at hl;rw[if_pos (zm hh hs)]at hl;cases hb:s.lk h with
   |none=>rw[hb]at hl;cases hl
   |some b0=>
    rw[hb]at hl;cases b0<;>first|(cases hl;rfl)|(cases hl;done)
 rw[<-hlk]at k1;obtain⟨w',hrun,hS',hF⟩:=hsem G1 m w ρ k1 (AV.aq.mono k2 (HM.le.refl m) _ _ ha) hx1;unfold bp;rw[hrun];refine⟨G1,m,hS',(fun d hd'=>by cases hd'),⟨hF.os,hF.tape,hF.output,hF.size,hF.heap,fun b hb ho o=>?_,k2.trans hF.le⟩,HM.le.refl m,fun _=>.inl rfl,fun _ _=>.inl rfl,fun x l b hj hl=>.inr ⟨_,l,hj,hl⟩⟩;exact k3 b (fun h _ sz e=>ho (Own.at_ e)) o
theorem Jj(hr:fm P ops N o ro)(he:ro.op.fu=true)(h:pE P s ro K):∃s',K s'/\nk P o ro.op.operands ro.dst s s':=by
 obtain⟨b,op0,hop,hm⟩:=hr.op.resolve_left (fun e=>by rw[e]at he;cases he);unfold pE at h;split at h
 ·rename_i sz x y heq;rw[heq]at hm;rw[aWe hm]at hop;obtain⟨T,i,ho,hd,hi,rfl⟩:=VN hop;rcases h with h|h
  rotate_left
  ·obtain⟨s',hK,hE⟩:=UQ ho hi h;exact⟨s',hK,by rw[heq,hr.dst,hd];exact hE⟩
  obtain⟨hdl,bl,hK,hb0,hsem⟩:=Pj ho hi h;refine⟨_,hK,⟨fun t _=>by rw[eO],by rw[cC];exact me _,fun hown j hj=>jW hown hb0 j (by rw[cC]at hj;exact hj),fun G m w ρ _ hS hev _=>?_⟩⟩;rw[heq]at hev;obtain⟨w',hrun,hS',hF⟩:=hsem G m w ρ hS (hev _ (by simp[bu.operands])) (hev _ (by simp[bu.operands]));unfold bp;rw[hrun];exact⟨G,m,hS',(fun d hd'=>by rw[hr.dst,hd]at hd';cases hd'),hF.mono (fun _ _ q=>q) (fun _ _ q=>q.elim),HM.le.refl m,fun _=>.inl rfl,fun _ _=>.inl rfl,fun x l b hj hl=>.inr ⟨_,l,hj,hl⟩⟩
 ·rename_i k bytes x y heq;rw[heq]at hm;rcases Qp hm with e|e
  ·rw[e]at hop;obtain⟨c,t,u,e,d,i,ho,hc,ha,hta,ht,hu,hd,hi,hz,hbytes,rfl,rfl⟩:=Xi hop;obtain⟨s',hK,hE⟩:=ZB (o:=o) ho hc ha hta ht hu hd hi hz hbytes h;exact⟨s',hK,by rw[heq];exact hE⟩
  ·rw[e]at hop;exact(Uo hop).elim
 ·rename_i f args heq;rw[heq]at hm;rcases Oq hm with e|e
  ·rw[e]at hop;obtain⟨c,ho,hc,rfl⟩:=yF hop;obtain⟨s',hK,hE⟩:=S4 (o:=o) ho hc h;exact⟨s',hK,by rw[heq];exact hE⟩
  ·rw[e]at hop;exact(Mi hop).elim
 ·rename_i k zs x heq;rw[heq]at hm;rw[U8 hm]at hop;obtain⟨c,t,e,i,z,ho,hc,ha,hta,ht,hi,hz,hz',h1,rfl,rfl⟩:=WX hop;obtain⟨s',hK,hE⟩:=Vz (o:=o) ho hc ha hta ht hi hz hz' h1 h;exact⟨s',hK,by rw[heq];exact hE⟩
 ·rename_i k x y heq;rw[heq]at hm;rw[Ww hm]at hop;obtain⟨c,t,u,e,i,ho,hc,ha,hta,ht,hi,rfl⟩:=Sp hop;obtain⟨s',hK,hE⟩:=Y2 (o:=o) ho hc ha hta ht hi h;exact⟨s',hK,by rw[heq];exact hE⟩
 ·rename_i kd z k ok x y heq;rw[heq]at hm;rcases Y5 hm with e|e
  ·rw[e]at hop;obtain⟨T,k0,e',i,z0,ho,hT,hk0,hi,hz,rfl⟩:=Xe hop;exact h.elim
  ·rw[e]at hop;exact(U9 hop).elim
 ·rename_i kd x y z heq;rw[heq]at hm;rw[Qq hm]at hop;obtain⟨T,k0,e',ho,hd,hT,hk0⟩:=Tx hop;obtain⟨s',hK,hE⟩:=Yr (o:=o) (dst:=ro.dst) ho (hr.dst.trans hd) hT hk0 h;exact⟨s',hK,by rw[heq];exact hE⟩
 ·rename_i kd x y heq;rw[heq]at hm;rw[V3 hm]at hop;obtain⟨c,T,t2,k0,e',ho,hc,ha,hta,hd,hT,hk0⟩:=bDf hop;exact h.elim
 ·rename_i kd x heq;rw[heq]at hm;rw[QP hm]at hop;obtain⟨T,k0,e',ho,hT⟩:=bJp hop;exact h.elim
 ·rename_i x heq;rw[heq]at hm;rcases ZP hm with e|e
  ·rw[e]at hop;exact h.elim
  ·rw[e]at hop;exact(WZ hop).elim
 ·rename_i h1 h2 h3 h4 h5 h6 h7 h8 h9 h10;cases hro:ro.op<;>rw[hro]at he h<;>first|(cases he;done)|exact(h1 _ _ _ hro).elim|exact(h2 _ _ _ _ hro).elim|exact(h3 _ _ hro).elim|exact(h4 _ _ _ hro).elim|exact(h5 _ _ _ hro).elim|exact(h6 _ _ _ _ _ _ hro).elim|exact(h7 _ _ _ _ hro).elim|exact(h8 _ _ _ hro).elim|exact(h9 _ _ hro).elim|exact(h10 _ hro).elim|exact h.elim
theorem U3(h:bu.loadS ag x=cE b op0):op0=.load ag x\/op0=.loadS ag x:=by cases b<;>cases op0<;>first|(cases h;done)|(cases h;exact .inl rfl)|(cases h;exact .inr rfl)|(simp only[cE,iY]at h;split at h<;>cases h)
theorem ZM(h:aA P o=some (.loadS ag x)):False:=by
 cases ho:o.op
 case field=>simp only[aA,ho,η]at h;obtain⟨f,_,h⟩:=h;split at h<;>cases h
 all_goals(simp only[aA,ho]at h;(repeat' split at h)<;>simp_all[η,ι,ζ])
theorem K3(h:aA P o=some (.load ag x)):∃T,o.op=.load T x:=by
 cases ho:o.op
 case load T y=>
  simp only[aA,ho]at h;split at h
  ·cases h;exact⟨T,rfl⟩
  ·cases h
 case field=>exfalso;simp only[aA,ho,η]at h;obtain⟨f,_,h⟩:=h;split at h<;>cases h
 all_goals(exfalso;simp only[aA,ho]at h;(repeat' split at h)<;>simp_all[η,ι,ζ])
theorem RB(h:bu.faddrS off x=cE b op0):(op0=.faddr off x\/op0=.faddrS off x)\/∃m k i,op0=.iaddrA m k x i/\Cw m k i=some off:=by
 cases b<;>cases op0<;>first|(cases h;done)|(cases h;exact .inl (.inl rfl))|(cases h;exact .inl (.inr rfl))|skip
 all_goals
  simp only[cE,iY]at h;split at h
  ·rename_i heq;cases h;exact .inr ⟨_,_,_,rfl,heq⟩
  ·cases h
theorem T4(h:aA P o=some (.faddrS off x)):False:=by
 cases ho:o.op
 case field=>simp only[aA,ho,η]at h;obtain⟨f,_,h⟩:=h;split at h<;>cases h
 all_goals(simp only[aA,ho]at h;(repeat' split at h)<;>simp_all[η,ι,ζ])
theorem Ta(h:aA P o=some (.faddr off x)):∃T k,o.op=.fieldAddr T x k:=by
 cases ho:o.op
 case fieldAddr T y k=>
  simp only[aA,ho,η]at h;obtain⟨f,_,i,_,h⟩:=h;split at h
  ·cases h
  ·cases h;exact⟨T,k,rfl⟩
 case field=>exfalso;simp only[aA,ho,η]at h;obtain⟨f,_,h⟩:=h;split at h<;>cases h
 all_goals(exfalso;simp only[aA,ho]at h;(repeat' split at h)<;>simp_all[η,ι,ζ])
theorem XM{m:Nat}(h:aA P o=some (.iaddrA m k x i)):∃T e inf,o.op=.indexAddr T x i/\P.underlying T=some (.array m e)/\P.info? e=some inf/\k=inf.size:=by
 cases ho:o.op
 case indexAddr T y j=>
  simp only[aA,ho]at h;split at h
  ·rw[ι]at h;obtain⟨inf,_,h⟩:=h;cases h
  ·rename_i m' e hT;rw[ζ]at h;obtain⟨_,h⟩:=h;rw[ι]at h;obtain⟨inf,hi,h⟩:=h;cases h;exact⟨T,e,inf,rfl,hT,hi,rfl⟩
  ·cases h
 case field=>exfalso;simp only[aA,ho,η]at h;obtain⟨f,_,h⟩:=h;split at h<;>cases h
 all_goals(exfalso;simp only[aA,ho]at h;(repeat' split at h)<;>simp_all[η,ι,ζ])
theorem WU{ps:List Operand}(h:bu.bsF k ps=cE b op0):op0=.bslice k ps\/op0=.bsF k ps:=by cases b<;>cases op0<;>first|(cases h;done)|(cases h;exact .inl rfl)|(cases h;exact .inr rfl)|(simp only[cE,iY]at h;split at h<;>cases h)
theorem Wq{ps:List Operand}(h:aA P o=some (.bsF k ps)):False:=by
 cases ho:o.op
 case field=>simp only[aA,ho,η]at h;obtain⟨f,_,h⟩:=h;split at h<;>cases h
 all_goals(simp only[aA,ho]at h;(repeat' split at h)<;>simp_all[η,ι,ζ])
theorem Xg{ps:List Operand}(h:aA P o=some (.bslice k ps)):∃T n qs,o.op=.buildSlice T n qs:=by
 cases ho:o.op
 case buildSlice T n qs=>exact⟨T,n,qs,rfl⟩
 case field=>exfalso;simp only[aA,ho,η]at h;obtain⟨f,_,h⟩:=h;split at h<;>cases h
 all_goals(exfalso;simp only[aA,ho]at h;(repeat' split at h)<;>simp_all[η,ι,ζ])
theorem Zg(h:bu.nilcS x=cE b op0):op0=.nilc x\/op0=.nilcS x:=by cases b<;>cases op0<;>first|(cases h;done)|(cases h;exact .inl rfl)|(cases h;exact .inr rfl)|(simp only[cE,iY]at h;split at h<;>cases h)
theorem bFy(h:aA P o=some (.nilcS x)):False:=by
 cases ho:o.op
 case field=>simp only[aA,ho,η]at h;obtain⟨f,_,h⟩:=h;split at h<;>cases h
 all_goals(simp only[aA,ho]at h;(repeat' split at h)<;>simp_all[η,ι,ζ])
theorem VV(h:bu.lenS str x=cE b op0):op0=.len str x\/op0=.lenS str x:=by cases b<;>cases op0<;>first|(cases h;done)|(cases h;exact .inl rfl)|(cases h;exact .inr rfl)|(simp only[cE,iY]at h;split at h<;>cases h)
theorem SU(h:aA P o=some (.lenS str x)):False:=by
 cases ho:o.op
 case field=>simp only[aA,ho,η]at h;obtain⟨f,_,h⟩:=h;split at h<;>cases h
 all_goals(simp only[aA,ho]at h;(repeat' split at h)<;>simp_all[η,ι,ζ])
theorem SN{K:AV->List bn->List Hd->Prop}(ho:aA P o=some (.len str x))(h:aY P lk n ev (.lenS str x) K):PS P o (.lenS str x) lk n ev K:=by
 obtain⟨hs,hv,l,hl,h'⟩:=h;obtain⟨hdl,hhd⟩:=aa5.1 hs;have hp:aY P (fun y=>if y=hdl then(lk y).map bn.kf else none) n ev (.len str x) (fun a nbs fz=>nbs=[]/\fz=[]/\K a nbs fz):=by
  refine⟨?_,l,hl,rfl,rfl,h'⟩;generalize hx:ev x=v at hv hhd;cases v<;>first|(cases hhd;done)|skip
  case ptr hh o=>cases hhd;simpa[AV.live]using hv
  case eptr hh k2 ix o=>cases hhd;simpa[AV.live]using hv
  case sl hh k2 ix o=>cases hhd;simpa[AV.live]using hv
 obtain⟨a,nbs,fz,⟨rfl,rfl,hK⟩,_,_,hD⟩:=sZ ho hp;refine⟨a,[],[],hK,fun _=>⟨rfl,rfl⟩,(by intro h hh;cases hh),fun G m w ρ hρ lk2 hls hS hev hn=>hD G m w ρ hρ lk2 (fun _=>?_) hS hev hn⟩;have he:(lk2 hdl).map bn.kf=(lk hdl).map bn.kf:=hls hdl hhd;intro y b hb;have hy:y=hdl:=by
  by_cases e:y=hdl
  ·exact e
  ·simp only[if_neg e]at hb;cases hb
 subst hy;simp only[if_true]at hb;exact yN (he.trans hb)
theorem bAd(h:bu.sllS k x lo hi mx=cE b op0):op0=.sll k x lo hi mx\/op0=.sllS k x lo hi mx:=by cases b<;>cases op0<;>first|(cases h;done)|(cases h;exact .inl rfl)|(cases h;exact .inr rfl)|(simp only[cE,iY]at h;split at h<;>cases h)
theorem Yu(h:aA P o=some (.sllS k x lo hi mx)):False:=by
 cases ho:o.op
 case field=>simp only[aA,ho,η]at h;obtain⟨f,_,h⟩:=h;split at h<;>cases h
 all_goals(simp only[aA,ho]at h;(repeat' split at h)<;>simp_all[η,ι,ζ])
theorem gB{x:Option Operand}{K K':Nat->Prop}(h:∀m,K m->K' m)(q:gJ ev x n K):gJ ev x n K':=by
 unfold gJ at q|-;split
 ·exact h _ q
 ·obtain⟨k,m,e,h0,q⟩:=q;exact⟨k,m,e,h0,h _ q⟩
theorem R0{K K':AV->Prop}{a:AV}(h:∀x,K x->K' x)(q:mI k ev lo hi mx K a):mI k ev lo hi mx K' a:=by
 cases a with
 |D x=>
  cases x with
  |L es=>exact⟨q.1,gB (fun _=>gB fun _=>gB fun _ ⟨h1,h2,h3,h4⟩=>⟨h1,h2,h3,h _ h4⟩) q.2⟩
  |_=>exact(show False from q).elim
 |fl es=>exact⟨q.1,gB (fun _=>gB fun _=>gB fun _ ⟨h1,h2,h3,h4,h5⟩=>⟨h1,h2,h3,h4,h _ h5⟩) q.2⟩
 |sl hd k' off len=>exact⟨q.1,q.2.1,gB (fun _=>gB fun _ ⟨h1,h2,h3⟩=>⟨h1,h2,h _ h3⟩) q.2.2⟩
 |slk hd k' off len cap=>exact⟨q.1,q.2.1,gB (fun _=>gB fun _ ⟨h1,h2,h3,h4⟩=>⟨h1,h2,h3,h _ h4⟩) q.2.2⟩
 |_=>exact(show False from q).elim
theorem Zh{K:AV->List bn->List Hd->Prop}(ho:aA P o=some (.sll k x lo hi mx))(h:aY P lk n ev (.sllS k x lo hi mx) K):PS P o (.sllS k x lo hi mx) lk n ev K:=by
 obtain⟨hs,hv,h'⟩:=h;obtain⟨hdl,hhd⟩:=aa5.1 hs;have hp:aY P (fun y=>if y=hdl then(lk y).map bn.kf else none) n ev (.sll k x lo hi mx) (fun a nbs fz=>nbs=[]/\fz=[]/\K a nbs fz):=by
  refine⟨?_,R0 (fun a q=>⟨rfl,rfl,q⟩) h'⟩;generalize hx:ev x=v at hv hhd;cases v<;>first|(cases hhd;done)|skip
  case ptr hh o=>cases hhd;simpa[AV.live]using hv
  case eptr hh k2 ix o=>cases hhd;simpa[AV.live]using hv
  case sl hh k2 ix o=>cases hhd;simpa[AV.live]using hv
 obtain⟨a,nbs,fz,⟨rfl,rfl,hK⟩,_,_,hD⟩:=sZ ho hp;refine⟨a,[],[],hK,fun _=>⟨rfl,rfl⟩,(by intro h hh;cases hh),fun G m w ρ hρ lk2 hls hS hev hn=>hD G m w ρ hρ lk2 (fun _=>?_) hS hev hn⟩;have he:(lk2 hdl).map bn.kf=(lk hdl).map bn.kf:=hls hdl hhd;intro y b hb;have hy:y=hdl:=by
  by_cases e:y=hdl
  ·exact e
  ·simp only[if_neg e]at hb;cases hb
 subst hy;simp only[if_true]at hb;exact yN (he.trans hb)
theorem X2(h:aA P o=some (.nilc x)):o.op=.nilCheck x:=by
 cases ho:o.op
 case nilCheck y=>simp only[aA,ho,Option.some.injEq]at h;cases h;rfl
 case field=>exfalso;simp only[aA,ho,η]at h;obtain⟨f,_,h⟩:=h;split at h<;>cases h
 all_goals(exfalso;simp only[aA,ho]at h;(repeat' split at h)<;>simp_all[η,ι,ζ])
theorem ZH(h:bu.loadD ag x=cE b op0):op0=.load ag x\/op0=.loadD ag x:=by cases b<;>cases op0<;>first|(cases h;done)|(cases h;exact .inl rfl)|(cases h;exact .inr rfl)|(simp only[cE,iY]at h;split at h<;>cases h)
theorem Vx(h:aA P o=some (.loadD ag x)):False:=by
 cases ho:o.op
 case field=>simp only[aA,ho,η]at h;obtain⟨f,_,h⟩:=h;split at h<;>cases h
 all_goals(simp only[aA,ho]at h;(repeat' split at h)<;>simp_all[η,ι,ζ])
theorem Wr(h:bu.sllD k x lo hi mx=cE b op0):op0=.sll k x lo hi mx\/op0=.sllD k x lo hi mx:=by cases b<;>cases op0<;>first|(cases h;done)|(cases h;exact .inl rfl)|(cases h;exact .inr rfl)|(simp only[cE,iY]at h;split at h<;>cases h)
theorem bK1(h:aA P o=some (.sllD k x lo hi mx)):False:=by
 cases ho:o.op
 case field=>simp only[aA,ho,η]at h;obtain⟨f,_,h⟩:=h;split at h<;>cases h
 all_goals(simp only[aA,ho]at h;(repeat' split at h)<;>simp_all[η,ι,ζ])
theorem Xr(h:aA P o=some (.sll k x lo hi mx)):∃T e,o.op=.slice T x lo hi mx/\P.underlying T=some (.slice e):=by
 cases ho:o.op
 case slice T y l u m=>
  simp only[aA,ho]at h;split at h
  ·split at h<;>cases h
  ·rename_i e hT;rw[ι]at h;obtain⟨inf,_,h⟩:=h;cases h;exact⟨T,e,rfl,hT⟩
  ·rw[ζ,η]at h;obtain⟨_,inf,_,h⟩:=h;split at h<;>cases h
  ·cases h
 case field=>exfalso;simp only[aA,ho,η]at h;obtain⟨f,_,h⟩:=h;split at h<;>cases h
 all_goals(exfalso;simp only[aA,ho]at h;(repeat' split at h)<;>simp_all[η,ι,ζ])
theorem Q4(h:bu.iaddrD k x i=cE b op0):op0=.iaddr k x i\/op0=.iaddrD k x i:=by cases b<;>cases op0<;>first|(cases h;done)|(cases h;exact .inl rfl)|(cases h;exact .inr rfl)|(simp only[cE,iY]at h;split at h<;>cases h)
theorem Ye(h:aA P o=some (.iaddrD k x i)):False:=by
 cases ho:o.op
 case field=>simp only[aA,ho,η]at h;obtain⟨f,_,h⟩:=h;split at h<;>cases h
 all_goals(simp only[aA,ho]at h;(repeat' split at h)<;>simp_all[η,ι,ζ])
theorem Xk(h:aA P o=some (.iaddr k x i)):∃T e,o.op=.indexAddr T x i/\P.underlying T=some (.slice e):=by
 cases ho:o.op
 case indexAddr T y j=>
  simp only[aA,ho]at h;split at h
  ·rename_i e hT;rw[ι]at h;obtain⟨inf,_,h⟩:=h;cases h;exact⟨T,e,rfl,hT⟩
  ·rw[ζ]at h;obtain⟨_,h⟩:=h;rw[ι]at h;obtain⟨inf,_,h⟩:=h;cases h
  ·cases h
 case field=>exfalso;simp only[aA,ho,η]at h;obtain⟨f,_,h⟩:=h;split at h<;>cases h
 all_goals(exfalso;simp only[aA,ho]at h;(repeat' split at h)<;>simp_all[η,ι,ζ])
theorem fm.ps{P:Program}{ops:Array Oper}{N:Nat}{o:Oper}{ro:RO}(hr:fm P ops N o ro)(he:ro.op.fu=false){lk:bJ}{n:Nat}{ev:Operand->AV}{K:AV->List bn->List Hd->Prop}(h:aY P lk n ev ro.op K):PS P o ro.op lk n ev K:=by
 cases hm:ro.op.Lk
 ·exact sZ (hr.pure he hm) h
 ·rcases hr.op with e|⟨b,op0,hop,hmk⟩
  ·rw[e]at h;exact h.elim
  generalize hq:ro.op=q at h hm hmk he|-;cases q<;>first|(cases hm;done)|skip
  case stop=>exact h.elim
  case loadS ag x=>
   rcases U3 hmk with e|e
   ·rw[e]at hop;obtain⟨T,ho⟩:=K3 hop;exact QM ho hop h
   ·rw[e]at hop;exact(ZM hop).elim
  case bsF k ps=>
   rcases WU hmk with e|e
   ·rw[e]at hop;obtain⟨T,n0,qs,ho⟩:=Xg hop;exact bMg ho hop h
   ·rw[e]at hop;exact(Wq hop).elim
  case nilcS x=>
   rcases Zg hmk with e|e
   ·rw[e]at hop;exact R8 (X2 hop) h
   ·rw[e]at hop;exact(bFy hop).elim
  case lenS str x=>
   rcases VV hmk with e|e
   ·rw[e]at hop;exact SN hop h
   ·rw[e]at hop;exact(SU hop).elim
  case sllS k x lo hi mx=>
   rcases bAd hmk with e|e
   ·rw[e]at hop;exact Zh hop h
   ·rw[e]at hop;exact(Yu hop).elim
  case faddrS off x=>
   rcases RB hmk with(e|e)|⟨m,k,i,e,hc⟩
   ·rw[e]at hop;obtain⟨T,k,ho⟩:=Ta hop;exact WB ho hop h
   ·rw[e]at hop;exact(T4 hop).elim
   ·rw[e]at hop;obtain⟨T,e',inf,ho,hT,hi,hk⟩:=XM hop;exact JU (fun _ _ h=>ZD ho hT hi hk hc h) h
  case loadD ag x=>
   rcases ZH hmk with e|e
   ·rw[e]at hop;obtain⟨T,ho⟩:=K3 hop;exact bG1 ho hop h
   ·rw[e]at hop;exact(Vx hop).elim
  case iaddrD k x i=>
   rcases Q4 hmk with e|e
   ·rw[e]at hop;obtain⟨T,e',ho,hT⟩:=Xk hop;exact bBw ho hT hop h
   ·rw[e]at hop;exact(Ye hop).elim
  case sllD k x lo hi mx=>
   rcases Wr hmk with e|e
   ·rw[e]at hop;obtain⟨T,e',ho,hT⟩:=Xr hop;exact Rx ho hT hop h
   ·rw[e]at hop;exact(bK1 hop).elim
  case callP f args=>exact h.elim
  case mkmW kd=>
   rcases RY hmk with e|e
   ·rw[e]at hop;obtain⟨a,nbs,fz,q1,_,q3,q4⟩:=sZ (lk:=lk) (n:=n) (ev:=ev) (K:=K) hop h;exact⟨a,nbs,fz,q1,(fun e=>by cases e),q3,fun G m w ρ hρ lk2 hls=>q4 G m w ρ hρ lk2 hls⟩
   ·rw[e]at hop;exact(QA hop).elim
theorem YW(hr:fm P ops E.N o ro)(h:pE P s ro K)(hA:df E s a w):
  ∃s',K s'/\bp P o a.eval w fun v w'=>df E s' (a.put o.dst v) w':=by
 obtain⟨G,m,hA⟩:=hA;cases he:ro.op.fu with
 |true=>
  obtain⟨s',hK,hE⟩:=Jj hr he h;exact⟨s',hK,hr.dst▸hA.fu (fun d hd=>hr.lt d (by rw[<-hr.dst];exact hd)) hr.xs hE⟩
 |false=>
  rw[Qh he]at h;obtain⟨x,nbs,fz,hK,_,_,hD⟩:=hr.ps he h;refine⟨_,hK,?_⟩;refine(hD G m w a.eval (fun _=>rfl) s.lk (kz.refl _ _ _) hA.ew (fun x hx=>hA.oc x (hr.xs x hx)) (fun j hj=>hA.fresh _ (by omega))).mono fun v w' hp=>?_;rw[hr.dst];exact hA.step hr.lt hp
def yB(P:Program)(ops:Array Oper)(N:Nat):List Oper->List RO->Prop
 |[],[]=>True
 |o::os,ro::ros=>fm P ops N o ro/\yB P ops N os ros
 |_,_=>False
def J0(r:Option Nat)(P:Program)(ops:Array Oper)(o:Oper)(next:Act->World->Prop)(Q:Exit->Act->World->Prop)(a:Act)(w:World):Prop:=
 if Region.wanted o (yielded ops a.tmps)then o.wpIn (FR r) 0 P a w next Q else(∀f,o.about P w a.eval=some f->(FR r).fn f)/\next (a.put o.dst undef) w
theorem Ct(h1:fm P ops E.N o ro)(h:lH P [ro] s K)(hA:df E s a w)
  (hQ:∀s' a' w',K s'->df E s' a' w'->next a' w'):J0 r P ops o next Q a w:=by
 unfold J0;have run:(pE P s ro fun s'=>lH P [] s' K)->o.wpIn (FR r) 0 P a w next Q:=fun hs=>by obtain⟨s',hK,hD⟩:=YW h1 hs hA;exact oN hD fun v w' hs'=>hQ _ _ _ hK hs'
 have skip:lH P [] (s.put ro.dst .un [] []) K->next (a.put o.dst undef) w:=fun hs=>by obtain⟨G,m,hA⟩:=hA;exact hQ _ _ _ hs (by rw[h1.dst];exact hA.skip h1.lt)
 unfold lH at h;have hg:=h1.guard;cases hog:o.guard with
 |none=>
  rw[hog]at hg;simp only at hg;rw[hg]at h;rw[if_pos (by simp[Region.wanted,hog])];exact run h
 |some g=>
  obtain⟨j,want⟩:=g;rw[hog]at hg;obtain⟨t,ht,htN,hg⟩:=hg;rw[hg]at h;simp only at h;obtain⟨G,m,hA'⟩:=hA;have hrep:=hA'.env t;rw[ez.e7 htN]at hrep;have hy:yielded ops a.tmps j=match a.tmps.getD t undef with|.bool b=>some b|_=>none:=by
   unfold yielded;rw[ht];simp only[ac8,aaA];cases a.tmps[t]?with
   |none=>rfl
   |some v=>cases v<;>rfl
  split at h
  ·rename_i c hc;rw[hc]at hrep;have hv:=tx hrep;rw[hv]at hy;have hw:Region.wanted o (yielded ops a.tmps)=(c==want):=by simp only[Region.wanted,hog,hy];cases c<;>cases want<;>rfl
   rw[hw];by_cases e:c=want
   ·rw[if_pos (by simpa using e)];exact run (h.1 e)
   ·rw[if_neg (by simpa using e)];exact⟨fun f _=>oC r f,skip (h.2 e)⟩
  ·rename_i v hc;rw[hc]at hrep;unfold AV.aq DV.aq at hrep;rw[hrep]at hy;have hw:Region.wanted o (yielded ops a.tmps)=false:=by simp only[Region.wanted,hog,hy];rfl
   rw[hw];exact⟨fun f _=>oC r f,skip h⟩
  ·exact h.elim
theorem Lv{r:Option Nat}{P:Program}{ops:Array Oper}{E:ez}{Q:Exit->Act->World->Prop}:∀{os:List Oper} {ros:List RO} {s:an} {a:Act} {w:World} {K:an->Prop},yB P ops E.N os ros->lH P ros s K->df E s a w->
  (∀s' a' w',K s'->df E s' a' w'->Q .normal a' w')->wpListIn (FR r) 0 P ops Q os a w
 |[],[],s,a,w,K,_,h,hA,hQ=>hQ _ _ _ h hA
 |[],_::_,_,_,_,_,hr,_,_,_=>hr.elim
 |_::_,[],_,_,_,_,hr,_,_,_=>hr.elim
 |o::os,ro::ros,s,a,w,K,hr,h,hA,hQ=>
  Ct (K:=fun s'=>lH P ros s' K) hr.1 h hA fun s' a' w' hK hA'=>Lv hr.2 hK hA' hQ
def EM:bu->Bool
 |.callP _ _=>true
 |.ny _=>true
 |_=>false
def Yk(P:Program)(dr:Bool)(s:an)(dst:Option Nat)(f:Operand)(args:List Operand)(K:an->Prop)(Pn:Value->an->Prop):Prop:=
 ∃fn caps,s.ev f=.clo fn caps/\
  ((∃r nbs,(dr=true->AV.flat r=true/\nbs=[])/\de P fn (AV.bq s.lk (fun _=>none) (args.map s.ev++caps)) [] r [] nbs/\
   K (s.put dst (AV.cg (bU [] s.nx) r) (nbs.map (bn.cg (bU [] s.nx))) (if AV.flat r=true/\nbs=[]then[]else ja s.lk (AV.cm (args.map s.ev++caps)))))\/
  ∃v,wj P fn (AV.bq s.lk (fun _=>none) (args.map s.ev++caps)) v/\Pn v (s.put none .any [] []))
def rQ(P:Program)(dr:Bool):List RO->an->(an->Prop)->(Value->an->Prop)->Prop
 |[],s,K,_=>K s
 |ro::ros,s,K,Pn=>match ro.op with
  |.callP f args=>ro.guard=none/\Yk P dr s ro.dst f args (fun s'=>rQ P dr ros s' K Pn) Pn
  |.ny x=>ro.guard=none/\∃t v,s.ev x=.D (.C (.iface t v))/\Pn (.iface t v) s
  |_=>lH P [ro] s fun s'=>rQ P dr ros s' K Pn
def ss:List RO->an->an
 |[],s=>s
 |ro::ros,s=>ss ros (s.put ro.dst .any [] [])
def bRd(P:Program):List RO->an->(an->Prop)->Prop
 |[],_,_=>False
 |ro::ros,s,K=>ro.guard=none/\match ro.op with
  |.nxt x=>Wd s ro.dst (fun s'=>lH P ros s' K) (s.ev x)
  |_=>False
structure MA where
 kd:KD
 k:Nat
 bytes:Nat
 m:Operand
 y:Operand
 ys:Operand
 d1:Nat
 d2:Nat
 d3:Nat
 d4:Nat
 deriving Inhabited
def Jt:Value:=.slice none 0 0
def LW(x:MA)(K:an->Prop)(sB:an):Prop:=
 (∃h k off len,sB.ev (.tmp x.d2)=.sl h k off len)/\sY sB x.k x.bytes x.ys (some x.d3) (fun s3=>vh (s3.put (some x.d4) .any [] []) x.kd x.y (.tmp x.d3) K (s3.ev x.m)) (sB.ev (.tmp x.d2))
def Z0(x:MA)(s:an)(K:an->Prop):Prop:=∃h es it r,s.ev x.m=.mref h/\s.lk h=some (.mp x.kd es it)/\mR (s.ev x.y) es=some r/\
 match r with
 |some _=>bPp s x.kd (qG Jt) x.k false x.y (some x.d2) (fun sB=>LW x K (sB.put (some x.d1) .any [] [])) (.mref h)
 |none=>vh s x.kd x.y (.const Jt) (fun sM=>LW x K (((sM.put (some x.d2) (.fl []) [] []).xg x.d2 x.k).put (some x.d1) .any [] [])) (.mref h)
inductive bo where
 |skip
 |reg (draw:Bool) (ros:List RO)
 |regS (lst:Bool) (ros:List RO)
 |regY (ros:List RO)
 |regP (ros:List RO)
 |regN (ros:List RO)
 |regM (ros:List RO) (x:MA)
 |regDP (ros:List RO)
 |vn (N:Nat) (c:Code)
 |seq (a b:bo)
 |cond (c:Operand) (a b:bo)
 |block (id:Nat) (b:bo)
 |loop (b:bo)
 |exit (id:Nat)
 |scope (b:bo)
 |wkr (b:bo)
 |ret
 deriving Inhabited
def Wk(s s':an):Prop:=∀E a w,df E s a w->df E s' a w
theorem Wk.refl(s:an):Wk s s:=fun _ _ _ h=>h
theorem Wk.trans{s'':an}(h:Wk s s')(h':Wk s' s''):Wk s s'':=fun E a w q=>h' E a w (h E a w q)
def yJ(next:an->Prop)(Q:Exit->an->Prop):Exit->an->Prop
 |.normal,s=>next s
 |e,s=>Q e s
def It(id:Nat)(Q:Exit->an->Prop):Exit->an->Prop
 |.exit i,s=>if i=id then Q .normal s else Q (.exit i) s
 |e,s=>Q e s
def Lm(Q:Exit->an->Prop):Exit->an->Prop
 |.goto _,_=>False
 |e,s=>Q e s
def D0(Ka Kb:Prop):AV->Prop
 |.D (.B x)=>(x=true->Ka)/\(x=false->Kb)
 |.ab=>Ka/\Kb
 |_=>False
def yu(ld:Bool)(hs:List Hd)(s s':an):Prop:=∀h∈hs,dv ld (s.lk h) (s'.lk h)
def Hx(ros:List RO):Bool:=ros.any fun r=>CM r.op
def B0(hs:List Hd)(op:bu)(ev:Operand->AV):Prop:=
 match op.mw with
 |some x=>∀h,(ev x).mu=some h->h∈hs
 |none=>True
def DG(P:Program)(ld:Bool)(hs:List Hd)(lst:Bool):List RO->an->(an->Prop)->Prop
 |[],s,K=>K s
 |ro::r,s,K=>B0 hs ro.op s.ev/\lH P [ro] s fun s'=>(ro.op.ht=true->lst=false\/r≠[]->yu ld hs s s')/\DG P ld hs lst r s' K
structure Yh where
 plain:Bool
 f:Nat->List AV->an->(Bool->an->Prop)->Prop
def zd:Yh:=⟨true,fun _ _ _ _=>False⟩
def jQ:Yh:=⟨false,fun _ _ _ _=>False⟩
def mz(P:Program)(r:Option Nat)(E:ez)(Y:Yh):Prop:=(Y.plain=true->r=none/\E.nd=false/\E.dt=[])/\∀(l:Nat) (args:List AV) (s:an) (K:Bool->an->Prop) (a:Act) (w:World) (vs:List Value) (G:Gh) (m:HM),
 Y.f l args s K->ir E G m s a w->AV.bb G m args vs->YieldAt (FR r) 0 P l vs.toArray w fun e w'=>∃c s',e=.returned (.bool c)/\K c s'/\df E s' a w'
theorem mz.none{P:Program}{E:ez}(h:E.nd=false)(h':E.dt=[]):mz P (Option.none:Option Nat) E zd:=⟨fun _=>⟨rfl,h,h'⟩,fun _ _ _ _ _ _ _ _ _ h=>False.elim h⟩
theorem mz.body:mz P r E jQ:=⟨fun h=>(by cases h),fun _ _ _ _ _ _ _ _ _ h=>False.elim h⟩
def wz(s:an)(ro:RO):Option (Nat×List AV):=
 match ro.op with
 |.callE f args=>match s.ev f with
  |.yld l=>some (l,args.map s.ev)
  |_=>none
 |_=>none
def qZ(P:Program)(Y:Yh):List RO->an->(an->Prop)->Prop
 |[],s,K=>K s
 |ro::r,s,K=>
  match wz s ro with
  |none=>lH P [ro] s fun s'=>qZ P Y r s' K
  |some (l,args)=>match ro.guard with
   |none=>Y.f l args s fun c s'=>qZ P Y r (s'.put ro.dst (.D (.B c)) [] []) K
   |some (t,want)=>match s.env t with
    |.D (.B x)=>(x=want->Y.f l args s fun c s'=>qZ P Y r (s'.put ro.dst (.D (.B c)) [] []) K)/\(¬x=want->qZ P Y r (s.put ro.dst .un [] []) K)
    |.D (.C (.tuple _))=>qZ P Y r (s.put ro.dst .un [] []) K
    |_=>False
def AS(E:ez)(Q:Exit->an->Prop):Exit->Act->World->Prop:=fun e a w=>∃s,Q e s/\df E s a w
def Fb(A:(Exit->an->Prop)->an->Prop)(Q:Exit->an->Prop):Nat->an->Prop
 |0,_=>False
 |n+1,s=>A (yJ (Fb A Q n) Q) s
def gD(P:Program)(Y:Yh):bo->(Exit->an->Prop)->an->Prop
 |.skip,Q,s=>Q .normal s
 |.reg _ ros,Q,s=>lH P ros s (Q .normal)
 |.regS lst ros,Q,s=>∃hs,DG P (Hx ros) hs lst ros s (Q .normal)
 |.regY ros,Q,s=>qZ P Y ros s (Q .normal)
 |.regN ros,Q,s=>bRd P ros s (Q .normal)
 |.regM ros x,Q,s=>lH P ros s fun s'=>Z0 x s' (Q .normal)
 |.regP ros,Q,s=>rQ P false ros s (Q .normal) fun v s'=>Q (.panic [{v:=v,recovered:=false}]) s'
 |.regDP ros,Q,s=>rQ P true ros s (Q .normal) fun v s'=>Q (.panic [{v:=v,recovered:=false}]) (ss ros s')
 |.vn N c,Q,s=>Y.plain=true/\∀(E:ez) (a:Act) (w:World),mz P none E Y->E.N=N->df E s a w->c.wpIn (FR none) 0 P (AS E Q) a w
 |.seq a b,Q,s=>gD P Y a (yJ (gD P Y b Q) Q) s
 |.cond c a b,Q,s=>D0 (gD P Y a Q s) (gD P Y b Q s) (s.ev c)
 |.block id b,Q,s=>gD P Y b (It id Q) s
 |.loop b,Q,s=>(∃(I:Nat->an->Prop) (n:Nat) (s0:an),Wk s s0/\I n s0/\∀n s,I n s->gD P Y b (yJ (fun s'=>∃n' s'',n'<n/\Wk s' s''/\I n' s'') Q) s)\/∃(n:Nat) (s0:an),Wk s s0/\Fb (gD P Y b) Q n s0
 |.exit id,Q,s=>Q (.exit id) s
 |.scope b,Q,s=>gD P Y b (Lm Q) s
 |.wkr b,Q,s=>∃s0,Wk s s0/\gD P Y b Q s0
 |.ret,Q,s=>Q .ret s
theorem N7{F:Fence}{n0:Nat}(I:Nat->Act->World->Prop)(n:Nat)(h₀:I n a w)
  (round:∀n a w,I n a w->c.wpIn F n0 P (Exit.then (fun a' w'=>∃n',n'<n/\I n' a' w') Q) a w):(Code.loop c).wpIn F n0 P Q a w:=by
 intro b k cs hro hb hr;have key:∀n a w,I n a w->∃e a' w',Q e a' w'/\ArrivesIn (Machine.fenced P F) P (lone (b.atR a (.code c::.inLoop c::k)) cs w) b k cs e a' w':=by
  intro n
  induction n using abH with
  |_ n ih=>
   intro a w hI;obtain⟨e,a₁,w₁,hq,harr⟩:=round n a w hI b (.inLoop c::k) cs hro hb hr;cases e with
   |normal=>
    obtain⟨n',hlt,hI₁⟩:=hq;obtain⟨e₂,a₂,w₂,hq₂,harr₂⟩:=ih n' hlt a₁ w₁ hI₁;exact⟨e₂,a₂,w₂,hq₂,.of_steps (StepsIn.trans harr (.one (fenced_calm hb hr rfl) stepR_inLoop)) harr₂⟩
   |exit id=>exact⟨_,a₁,w₁,hq,.pass (x:=.inLoop c) rfl (fun _ _=>.inl (by simp)) harr⟩
   |goto l=>exact⟨_,a₁,w₁,hq,.pass (x:=.inLoop c) rfl (fun _ _=>.inl (by simp)) harr⟩
   |ret=>exact⟨_,a₁,w₁,hq,.pass (x:=.inLoop c) rfl (fun _ _=>.inl (by simp)) harr⟩
   |panic ch=>exact⟨_,a₁,w₁,hq,.pass (x:=.inLoop c) rfl (fun _ _=>.inl (by simp)) harr⟩
   |outgrown=>exact⟨_,a₁,w₁,hq,.pass (x:=.inLoop c) rfl (fun _ _=>.inl (by simp)) harr⟩
 obtain⟨e,a',w',hq,harr⟩:=key n a w h₀;exact⟨e,a',w',hq,.of_steps (.one (fenced_calm hb hr rfl) stepR_loop) harr⟩
def bx(P:Program)(N:Nat)(c:Code)(rc:bo):Prop:=
 ∀(r:Option Nat) (Y:Yh) (E:ez) (Q:Exit->an->Prop) (s:an) (a:Act) (w:World),mz P r E Y->E.N=N->gD P Y rc Q s->df E s a w->c.wpIn (FR r) 0 P (AS E Q) a w
theorem bx.skip{P:Program}{N:Nat}:bx P N .skip .skip:=fun _ _ _ _ _ _ _ _ _ h hA=>wpIn_skip ⟨_,h,hA⟩
theorem bx.label{P:Program}{N l:Nat}:bx P N (.label l) .skip:=fun _ _ _ _ _ _ _ _ _ h hA=>wpIn_label ⟨_,h,hA⟩
theorem bx.exit{P:Program}{N id:Nat}:bx P N (.exit id) (.exit id):=fun _ _ _ _ _ _ _ _ _ h hA=>wpIn_exit ⟨_,h,hA⟩
theorem bx.ret{P:Program}{N:Nat}:bx P N .ret .ret:=fun _ _ _ _ _ _ _ _ _ h hA=>wpIn_ret ⟨_,h,hA⟩
theorem bx.seq{P:Program}{N:Nat}{c d:Code}{rc rd:bo}(hc:bx P N c rc)(hd:bx P N d rd):bx P N (.seq c d) (.seq rc rd):=fun r Y E Q s a w hY hN h hA=>by
 refine wpIn_seq (wpIn_mono (hc r Y E _ s a w hY hN h hA) fun e a' w' ⟨s',hq,hA'⟩=>?_);cases e with
 |normal=>exact hd r Y E Q s' a' w' hY hN hq hA'
 |_=>exact⟨s',hq,hA'⟩
theorem bx.cond{P:Program}{N:Nat}{x:Operand}(hxN:x.mg N=true){c d:Code}{rc rd:bo}(hc:bx P N c rc)(hd:bx P N d rd):bx P N (.cond x c d) (.cond x rc rd):=fun r Y E Q s a w hY hN h hA=>by
 obtain⟨G,m,hA'⟩:=hA;subst hN;have hr:=hA'.oc x hxN;have h':D0 (gD P Y rc Q s) (gD P Y rd Q s) (s.ev x):=h;generalize hx:s.ev x=ax at h' hr;unfold D0 at h';split at h'
 ·exact wpIn_cond_split (tx hr) (fun e=>hc r Y E Q s a w hY rfl (h'.1 e) ⟨G,m,hA'⟩) (fun e=>hd r Y E Q s a w hY rfl (h'.2 e) ⟨G,m,hA'⟩)
 ·unfold AV.aq at hr;obtain⟨b,hb⟩:=hr;exact wpIn_cond_split hb (fun _=>hc r Y E Q s a w hY rfl h'.1 ⟨G,m,hA'⟩) (fun _=>hd r Y E Q s a w hY rfl h'.2 ⟨G,m,hA'⟩)
 ·exact h'.elim
theorem bx.block{P:Program}{N id:Nat}{c:Code}{rc:bo}(hc:bx P N c rc):bx P N (.block id c) (.block id rc):=fun r Y E Q s a w hY hN h hA=>by
 refine wpIn_block (wpIn_mono (hc r Y E _ s a w hY hN h hA) fun e a' w' ⟨s',hq,hA'⟩=>?_);cases e with
 |exit i=>
  simp only[It]at hq;simp only[Exit.inBlock];split at hq
  ·rename_i e;rw[if_pos e];exact⟨s',hq,hA'⟩
  ·rename_i e;rw[if_neg e];exact⟨s',hq,hA'⟩
 |_=>exact⟨s',hq,hA'⟩
theorem bx.scope{P:Program}{N:Nat}{c:Code}{rc:bo}(hc:bx P N c rc):bx P N (.scope c) (.scope rc):=fun r Y E Q s a w hY hN h hA=>by
 refine Wl (wpIn_mono (hc r Y E _ s a w hY hN h hA) fun e a' w' ⟨s',hq,hA'⟩=>?_);cases e with
 |goto l=>exact hq.elim
 |_=>exact⟨s',hq,hA'⟩
theorem bx.loop{P:Program}{N:Nat}{c:Code}{rc:bo}(hc:bx P N c rc):bx P N (.loop c) (.loop rc):=fun r Y E Q s a w hY hN h hA=>by
 rcases h with⟨I,n,s0,hw,hI,hround⟩|⟨n,s0,hw,hI⟩
 case inr=>
  refine N7 (fun n a w=>∃s,Fb (gD P Y rc) Q n s/\df E s a w) n ⟨s0,hI,hw E a w hA⟩ fun n a w ⟨s,hs,hA⟩=>?_;cases n with
  |zero=>exact hs.elim
  |succ n=>
   refine wpIn_mono (hc r Y E _ s a w hY hN hs hA) fun e a' w' ⟨s',hq,hA'⟩=>?_;cases e with
   |normal=>exact⟨n,Nat.lt_succ_self n,s',hq,hA'⟩
   |_=>exact⟨s',hq,hA'⟩
 refine N7 (fun n a w=>∃s,I n s/\df E s a w) n ⟨s0,hI,hw E a w hA⟩ fun n a w ⟨s,hs,hA⟩=>?_;refine wpIn_mono (hc r Y E _ s a w hY hN (hround n s hs) hA) fun e a' w' ⟨s',hq,hA'⟩=>?_;cases e with
 |normal=>
  obtain⟨n',s'',h1,h2,h3⟩:=hq;exact⟨n',h1,s'',h3,h2 E a' w' hA'⟩
 |_=>exact⟨s',hq,hA'⟩
theorem bx.region{P:Program}{N id:Nat}{ops:Array Oper}{ros:List RO}(h:yB P ops N ops.toList ros):bx P N (.region id ops false) (.reg false ros):=fun r Y E Q s a w hY hN hc hA=>by subst hN;exact wpIn_region_list (Lv h hc hA fun s' a' w' hq hA'=>⟨s',hq,hA'⟩)
theorem Jv{E:ez}{G:Gh}{m:HM}{s:an}{a:Act}{w:World}(h:ir E G m s a w):∀(xs:List Operand),(∀x∈xs,x.mg E.N=true)->AV.bb G m (xs.map s.ev) (xs.map a.eval)
 |[],_=>by simp[AV.bb]
 |x::xs,hx=>by rw[aaM,aaM];unfold AV.bb;exact⟨_,_,rfl,h.oc x (hx x (by simp)),Jv h xs fun y hy=>hx y (by simp[hy])⟩
theorem Xy{Y:Yh}(hY:mz P r E Y)(h1:fm P ops E.N o ro){l:Nat}
  (hy:wz s ro=some (l,args)) {K:Bool->an->Prop} (h:Y.f l args s K) (hA:df E s a w) (hQ:∀c s' a' w',K c s'->df E (s'.put ro.dst (.D (.B c)) [] []) a' w'->next a' w'):o.wpIn (FR r) 0 P a w next Q:=by
 obtain⟨G,m,hA⟩:=hA;unfold wz at hy;split at hy
 ·rename_i f xs hop;split at hy
  ·rename_i l' hl;cases hy;obtain⟨b,op0,hres,hm⟩:=h1.op.resolve_left (fun e=>by rw[hop]at e;cases e);rw[hop]at hm;have hxs:=h1.xs;rw[hop]at hxs;rcases Oq hm with e|e
   ·rw[e]at hres;obtain⟨c,ho,hc,hca⟩:=yF hres;have hf:=hA.oc f (hxs f (by simp[bu.operands]));rw[hl]at hf;unfold AV.aq at hf;obtain⟨fn,tmps,assign,body,g1,g2⟩:=hY.2 l _ s K a w _ G m h hA (Jv hA xs fun x hx=>hxs x (by simp[bu.operands,hx]));have hargs:c.args.map a.eval=(xs.map a.eval).toArray:=by apply Array.ext';simp[hca]
    have hrun:(o.semAt r a.eval).run P w=.ok (.round l fn tmps assign body) w:=by rw[Oper.semAt_eq _ _ _ (fun c' e'=>by rw[ho]at e';cases e')];simp only[execOp,ho,resolve,hc,hf,Deferred.ofValue,Sem.run_bind,Sem.run_pure,Result.andThen_ok,invoke,callFunc,hargs];simpa using g1
    unfold Oper.wpIn;refine⟨fun f _=>oC r f,?_⟩;show o.uponIn (FR r) 0 P a next Q ((o.semAt r a.eval).run P w)
    rw[hrun,Oper.uponIn_round];refine⟨fun hd=>by simp[FR,Fence.wide]at hd,g2.mono ?_⟩;rintro e w' ⟨c,s',rfl,hK,G',m',hA'⟩;refine hQ c s' _ w' hK ?_;rw[<-h1.dst];exact hA'.step (fun d hd=>h1.lt d (by rw[<-h1.dst];exact hd)) (bj.val hA'.ew (by unfold AV.aq DV.aq;rfl))
   ·rw[e]at hres;exact(Mi hres).elim
  ·cases hy
 ·cases hy
theorem Df{r:Option Nat}{P:Program}{Y:Yh}{ops:Array Oper}{E:ez}(hY:mz P r E Y){Q:Exit->Act->World->Prop}:∀{os:List Oper} {ros:List RO} {s:an} {a:Act} {w:World} {K:an->Prop},yB P ops E.N os ros->qZ P Y ros s K->df E s a w->
  (∀s' a' w',K s'->df E s' a' w'->Q .normal a' w')->wpListIn (FR r) 0 P ops Q os a w
 |[],[],s,a,w,K,_,h,hA,hQ=>hQ _ _ _ h hA
 |[],_::_,_,_,_,_,hr,_,_,_=>hr.elim
 |_::_,[],_,_,_,_,hr,_,_,_=>hr.elim
 |o::os,ro::ros,s,a,w,K,hr,h,hA,hQ=>by
  obtain⟨h1,h2⟩:=hr;unfold qZ at h;split at h
  ·exact Ct h1 h hA fun s' a' w' hK hA'=>Df hY h2 hK hA' hQ
  ·rename_i l args hy;have hgo:=h1.guard;show wpListIn (FR r) 0 P ops Q (o::os) a w;unfold wpListIn;have run:Region.wanted o (yielded ops a.tmps)=true->(Y.f l args s fun c s'=>qZ P Y ros (s'.put ro.dst (.D (.B c)) [] []) K)->(if Region.wanted o (yielded ops a.tmps)=true then o.wpIn (FR r) 0 P a w (wpListIn (FR r) 0 P ops Q os) Q else(∀f,o.about P w a.eval=some f->(FR r).fn f)/\wpListIn (FR r) 0 P ops Q os (a.put o.dst undef) w):=fun hw hf=>by rw[if_pos hw];exact Xy hY h1 hy hf hA fun c s' a' w' hK hA'=>Df hY h2 hK hA' hQ
   have skip:Region.wanted o (yielded ops a.tmps)=false->qZ P Y ros (s.put ro.dst .un [] []) K->(if Region.wanted o (yielded ops a.tmps)=true then o.wpIn (FR r) 0 P a w (wpListIn (FR r) 0 P ops Q os) Q else(∀f,o.about P w a.eval=some f->(FR r).fn f)/\wpListIn (FR r) 0 P ops Q os (a.put o.dst undef) w):=fun hw hf=>by rw[if_neg (by rw[hw];simp)];refine⟨fun f _=>oC r f,?_⟩;obtain⟨G,m,hA'⟩:=hA;exact Df hY h2 hf (by rw[h1.dst];exact hA'.skip h1.lt) hQ
   cases hog:o.guard with
   |none=>
    rw[hog]at hgo;simp only at hgo;rw[hgo]at h;exact run (by simp[Region.wanted,hog]) h
   |some g=>
    obtain⟨j,want⟩:=g;rw[hog]at hgo;obtain⟨t,ht,htN,hg⟩:=hgo;rw[hg]at h;simp only at h;have hA0:=hA;obtain⟨G,m,hA'⟩:=hA0;have hrep:=hA'.env t;rw[ez.e7 htN]at hrep;have hy:yielded ops a.tmps j=match a.tmps.getD t undef with|.bool b=>some b|_=>none:=by
     unfold yielded;rw[ht];simp only[ac8,aaA];cases a.tmps[t]?with
     |none=>rfl
     |some v=>cases v<;>rfl
    split at h
    ·rename_i c hc;rw[hc]at hrep;have hv:=tx hrep;rw[hv]at hy;have hw:Region.wanted o (yielded ops a.tmps)=(c==want):=by simp only[Region.wanted,hog,hy];cases c<;>cases want<;>rfl
     by_cases e:c=want
     ·exact run (by rw[hw];simpa using e) (h.1 e)
     ·exact skip (by rw[hw];simpa using e) (h.2 e)
    ·rename_i v hc;rw[hc]at hrep;unfold AV.aq DV.aq at hrep;rw[hrep]at hy;exact skip (by simp only[Region.wanted,hog,hy];rfl) h
    ·exact h.elim
theorem bx.uw(h:yB P ops N ops.toList ros):bx P N (.region id ops false) (.regY ros):=fun r Y E Q s a w hY hN hc hA=>by subst hN;exact wpIn_region_list (Df hY h hc hA fun s' a' w' hq hA'=>⟨s',hq,hA'⟩)
theorem F5{args:List Operand}(h:bu.callP f args=cE b op0):op0=.call f args\/op0=.callP f args:=by cases b<;>cases op0<;>first|(cases h;done)|(cases h;exact .inl rfl)|(cases h;exact .inr rfl)|(simp only[cE,iY]at h;split at h<;>cases h)
theorem H6{args:List Operand}(h:aA P o=some (.callP f args)):False:=by
 cases ho:o.op
 case field=>simp only[aA,ho,η]at h;obtain⟨f,_,h⟩:=h;split at h<;>cases h
 all_goals(simp only[aA,ho]at h;(repeat' split at h)<;>simp_all[η,ι,ζ])
theorem Wn(h:bu.ny x=cE b op0):op0=.ny x:=by cases b<;>cases op0<;>first|(cases h;done)|(cases h;rfl)|(simp only[cE,iY]at h;split at h<;>cases h)
theorem UO(h:aA P o=some (.ny x)):o.op=.panic x:=by
 cases ho:o.op
 case panic y=>simp only[aA,ho,Option.some.injEq]at h;cases h;rfl
 case field=>exfalso;simp only[aA,ho,η]at h;obtain⟨f,_,h⟩:=h;split at h<;>cases h
 all_goals(exfalso;simp only[aA,ho]at h;(repeat' split at h)<;>simp_all[η,ι,ζ])
theorem fm.oq(hr:fm P ops N o ro)(h:ro.guard=none):o.guard=none:=by
 have hg:=hr.guard;cases hog:o.guard with
 |none=>rfl
 |some g=>
  obtain⟨j,want⟩:=g;rw[hog]at hg;obtain⟨t,_,_,e⟩:=hg;rw[h]at e;cases e
theorem LR{c:Call}{fn:FuncId}{R:Value->World->Prop}(ho:o.op=.call c)(hc:c.callee=.value f)(hv:a.eval f=.func (.func fn) #[] vs)
  (h:ic P fn pv (c.args.map a.eval++vs) w R) (hQ:∀v w',R v w'->Q (.panic [{v:=pv,recovered:=false}]) a w'):o.wpIn (FR r) 0 P a w next Q:=by
 obtain⟨⟨fd,h1,h2,h3⟩,h⟩:=h;have hnone:fd.body.isNone=false:=by rw[Option.isNone_eq_false_iff];exact h2
 have hrun:(execOp a.eval o).run P w=.ok (.enter fn (c.args.map a.eval++vs)) w:=by simp only[execOp,ho,resolve,hc,hv,Deferred.ofValue,Sem.run_bind,Sem.run_pure,Result.andThen_ok,invoke,callFunc,run_program,h1,h3,hnone,abu,if_false];simp
 have hnd:∀c,o.op≠.defer c:=fun c' e=>by rw[ho]at e;cases e
 unfold Oper.wpIn;refine⟨fun f _=>oC r f,?_⟩;rw[Oper.semAt_eq _ _ _ hnd,hrun];refine⟨fun hd=>by simp[FR,Fence.wide]at hd,Ns (h.mono ?_)⟩;rintro e w'' ⟨rfl,hr⟩;exact hQ _ _ hr
theorem IA{r:Option Nat}{P:Program}{dr:Bool}{ops:Array Oper}{E:ez}{Q:Exit->Act->World->Prop}:∀{os:List Oper} {ros:List RO} {s:an} {a:Act} {w:World} {K:an->Prop} {Pn:Value->an->Prop},yB P ops E.N os ros->rQ P dr ros s K Pn->df E s a w->
  (∀s' a' w',K s'->df E s' a' w'->Q .normal a' w')->(∀v s' a' w',Pn v s'->df E s' a' w'->Q (.panic [{v:=v,recovered:=false}]) a' w')->wpListIn (FR r) 0 P ops Q os a w
 |[],[],s,a,w,K,Pn,_,h,hA,hQ,_=>hQ _ _ _ h hA
 |[],_::_,_,_,_,_,_,hr,_,_,_,_=>hr.elim
 |_::_,[],_,_,_,_,_,hr,_,_,_,_=>hr.elim
 |o::os,ro::ros,s,a,w,K,Pn,hr,h,hA,hQ,hP=>by
  have gen:lH P [ro] s (fun s'=>rQ P dr ros s' K Pn)->wpListIn (FR r) 0 P ops Q (o::os) a w:=fun h=>
   Ct (K:=fun s'=>rQ P dr ros s' K Pn) hr.1 h hA fun s' a' w' hK hA'=>IA hr.2 hK hA' hQ hP
  unfold rQ at h;split at h
  ·rename_i f args heq;obtain⟨hg,fn,caps,hf,h⟩:=h;obtain⟨b,op0,hop,hmk⟩:=hr.1.op.resolve_left (fun e=>by rw[heq]at e;cases e);rw[heq]at hmk;rcases F5 hmk with e|e
   case inr=>rw[e]at hop;exact(H6 hop).elim
   rw[e]at hop;obtain⟨c,ho,hc,rfl⟩:=yF hop;have hxs:=hr.1.xs;rw[heq]at hxs;unfold wpListIn;rw[if_pos (by simp[Region.wanted,hr.1.oq hg])];obtain⟨G,m,hA'⟩:=hA;have hrf:=hA'.oc f (hxs f (by simp[bu.operands]));rw[hf]at hrf;unfold AV.aq at hrf;obtain⟨vs,hv,hcaps⟩:=hrf;have hargs:AV.bb G m (c.args.toList.map s.ev) (c.args.toList.map a.eval):=AV.gn (fun x hx=>hA'.oc x (hxs x (by simp only[bu.operands,ω];exact .inr hx)));have hrep:AV.bb G m (c.args.toList.map s.ev++caps) (c.args.map a.eval++vs).toList:=by rw[abj,abm];exact AV.cw hargs hcaps
   rcases h with⟨rr,nbs,_,hcall,hK⟩|⟨pv,hpan,hK⟩
   ·refine oN (C4 ho hc hv (E1 (ks:=[]) (n:=s.nx) hcall (ct.refl _) hA'.ew hrep (fun j hj=>hA'.fresh _ (by omega)))) fun v w' hp=>?_;refine IA hr.2 hK ?_ hQ hP;rw[hr.1.dst];exact hA'.step hr.1.lt hp
   ·refine LR ho hc hv (JD (n:=s.nx) hpan (ct.refl _) hA'.ew hrep) fun v w' hp=>?_;refine hP pv _ _ _ hK ?_;exact hA'.step (dst:=none) (fun d hd=>by cases hd) hp
  ·rename_i x heq;obtain⟨hg,t,v,hx,hK⟩:=h;obtain⟨b,op0,hop,hmk⟩:=hr.1.op.resolve_left (fun e=>by rw[heq]at e;cases e);rw[heq]at hmk;rw[Wn hmk]at hop;have ho:=UO hop;have hxs:=hr.1.xs;rw[heq]at hxs;unfold wpListIn;rw[if_pos (by simp[Region.wanted,hr.1.oq hg])];obtain⟨G,m,hA'⟩:=hA;have hrx:=hA'.oc x (hxs x (by simp[bu.operands]));rw[hx]at hrx;unfold AV.aq DV.aq at hrx;have hnd:∀c,o.op≠.defer c:=fun c' e=>by rw[ho]at e;cases e
   unfold Oper.wpIn;refine⟨fun f _=>oC r f,?_⟩;have hrun:(execOp a.eval o).run P w=.halt (.panic (.iface t v)) w:=by simp[execOp,ho,hrx,Instr.panic,goPanic]
   rw[Oper.semAt_eq _ _ _ hnd,hrun];exact hP _ _ _ _ hK ⟨G,m,hA'⟩
  ·exact gen h
theorem bx.tq(h:yB P ops N ops.toList ros):bx P N (.region id ops false) (.regP ros):=fun r Y E Q s a w hY hN hc hA=>by subst hN;exact wpIn_region_list (IA h hc hA (fun s' a' w' hq hA'=>⟨s',hq,hA'⟩) (fun v s' a' w' hq hA'=>⟨s',hq,hA'⟩))
section
variable{P:Program}{T k0 e:TypeId}{kd:KD}{b clk:Nat}{arr:Array MapEntry}{kv:Value}{w:World}
end
def OE:Op->Nat->Nat->Bool
 |.extract (.tmp t) j,d,i=>aaa t d&&aaa j i
 |_,_,_=>false
def Uq:Op->Nat->Nat->Nat->Nat->Bool
 |.entryStore T (.tmp m) (.tmp s) (.tmp v),T',m',s',v'=>aaa T T'&&aaa m m'&&aaa s s'&&aaa v v'
 |_,_,_,_,_=>false
def Tb:Operand->Nat->Bool
 |.tmp t,d=>aaa t d
 |_,_=>false
def JP(ds:List Nat):Operand->Bool
 |.tmp t=>!ds.contains t
 |_=>true
def VG(P:Program)(e:TypeId):Bool:=match P.info? e with
 |some i=>match i.zero with
  |some (.slice none 0 0)=>true
  |_=>false
 |none=>false
def Xc(os:List Oper):Bool:=os.all fun o=>o.guard.isNone
def Ru(P:Program)(N T e tm:Nat)(q:MA)(xo:Operand)(o1 o2 o3 o4 o5:Oper):Bool:=
 Xc [o1,o2,o3,o4,o5]&&OE o2.op q.d1 0&&OE o4.op q.d1 1&&Uq o5.op T tm q.d4 q.d3&&Tb xo q.d2&&o5.dst.isNone&&VG P e&&
 (decide (q.d1<N)&&decide (q.d2<N)&&decide (q.d3<N)&&decide (q.d4<N)&&decide (tm<N))&&(!aaa q.d1 q.d2&& !aaa q.d1 q.d3&& !aaa q.d1 q.d4&& !aaa q.d2 q.d3&& !aaa q.d3 q.d4)&&
 q.y.mg N&&q.ys.mg N&&JP [q.d1,q.d2,q.d3,q.d4] (.tmp tm)&&JP [q.d1,q.d2,q.d3,q.d4] q.y
def bS9(P:Program)(N:Nat)(o1 o2 o3 o4 o5:Oper):Option MA:=match o1.op,o1.dst,o2.dst,o3.dst,o4.dst,aA P o3 with
 |.mapEntry T (.tmp tm) y,some d1,some d2,some d3,some d4,some (.app k bytes xo ys)=>match ue P T with
  |some (kd,e)=>if Ru P N T e tm ⟨kd,k,bytes,.tmp tm,y,ys,d1,d2,d3,d4⟩ xo o1 o2 o3 o4 o5=true then some ⟨kd,k,bytes,.tmp tm,y,ys,d1,d2,d3,d4⟩else none
  |none=>none
 |_,_,_,_,_,_=>none
def Yq:List Oper->Option (List Oper×Oper×Oper×Oper×Oper×Oper)
 |[o1,o2,o3,o4,o5]=>some ([],o1,o2,o3,o4,o5)
 |o::l=>match Yq l with
  |some (l1,r)=>some (o::l1,r)
  |none=>none
 |[]=>none
def XE(ops:Array Oper):Bool:=ops.toList.any fun o=>match o.op with
 |.entryStore ..=>true
 |_=>false
def eL(ops:Array Oper)(j:Nat):List Nat:=
 match ops[j]?with
 |some o=>(o.after.toList.filter (Region.binds .any)).map (·.on)
 |none=>[]
def zx(l:List Nat):List Nat->Nat
 |[]=>0
 |i::is=>(2^i|||l.getD i 0)|||zx l is
def ye(ops:Array Oper):Nat->List Nat
 |0=>[]
 |n+1=>let l:=ye ops n;l++[zx l (eL ops n)]
theorem sX(ops:Array Oper):∀n,(ye ops n).length=n
 |0=>rfl
 |n+1=>by simp[ye,sX ops n]
theorem Ea(ops:Array Oper):∀n j,j<n->(ye ops n).getD j 0=zx (ye ops j) (eL ops j)
 |0,j,h=>by omega
 |n+1,j,h=>by
  simp only[ye];by_cases e:j<n
  ·rw[aam,List.getElem?_append_left (by rw[sX];exact e),<-aam];exact Ea ops n j e
  ·have:j=n:=by omega
   subst this;rw[aam,List.getElem?_append_right (by rw[sX];omega),sX];simp
theorem Lf(l:List Nat):∀(es:List Nat) (i:Nat),(zx l es).testBit i=true->∃e∈es,i=e\/(l.getD e 0).testBit i=true
 |[],i,h=>by simp[zx]at h
 |e::es,i,h=>by
  simp only[zx,Nat.testBit_or,abx]at h;rcases h with(h|h)|h
  ·exact⟨e,by simp,.inl (by rw[Nat.testBit_two_pow]at h;simpa using(of_decide_eq_true h).symm)⟩
  ·exact⟨e,by simp,.inr h⟩
  ·obtain⟨e',h1,h2⟩:=Lf l es i h;exact⟨e',by simp[h1],h2⟩
def jh(ops:Array Oper)(i j:Nat):Bool:=((ye ops ops.size).getD j 0).testBit i
theorem EB(hlt:∀j,j<ops.size->∀e∈eL ops j,e<j){i:Nat}(hj:j<ops.size)(h:jh ops i j=true):∃e∈eL ops j,i=e\/jh ops i e=true:=by unfold jh at h;rw[Ea ops _ j hj]at h;obtain⟨e,he,h2⟩:=Lf _ _ _ h;refine⟨e,he,h2.imp id fun h2=>?_⟩;have:=hlt j hj e he;unfold jh;rw[Ea ops _ e (by omega)];rwa[Ea ops _ e this]at h2
theorem Sc(hlt:∀j,j<ops.size->∀e∈eL ops j,e<j):∀(j i:Nat),j<ops.size->jh ops i j=true->i<j:=by
 intro j
 induction j using abH with
 |_ j ih=>
  intro i hj h;obtain⟨e,he,rfl|h2⟩:=EB hlt hj h
  ·exact hlt j hj _ he
  ·have:=hlt j hj e he;exact Nat.lt_trans (ih e this i (by omega) h2) this
theorem I8(hlt:∀j,j<ops.size->∀e∈eL ops j,e<j)(hc:∀j,j<ops.size->L j->∀e∈eL ops j,L e):∀(j i:Nat),j<ops.size->jh ops i j=true->L j->L i:=by
 intro j
 induction j using abH with
 |_ j ih=>
  intro i hj h hL;obtain⟨e,he,rfl|h2⟩:=EB hlt hj h
  ·exact hc j hj hL _ he
  ·have:=hlt j hj e he;exact ih e this i (by omega) h2 (hc j hj hL e he)
def C7(l:List Operand):List Nat:=l.filterMap fun|.tmp t=>some t|_=>none
def RO.names(r:RO):List Nat:=r.dst.toList++C7 r.op.operands++(match r.guard with|some (t,_)=>[t]|none=>[])
def C5(ops:Array Oper)(b:Bool)(ri rj:RO)(i j:Nat):Bool:=
  jh ops i j||
  (!((match ri.dst with|some d=>rj.names.contains d|none=>false)||(match rj.dst with|some d=>ri.names.contains d|none=>false))&&
   !((!b&&ri.op.fu&&rj.op.ht)||(rj.op.fu&&ri.op.ht)))
def AI:bu->Bool
 |.newR _=>true
 |_=>false
def Sv(ops:Array Oper)(ros:List RO)(j:Nat):Bool:=
 AI (ros.getD j default).op&&(abc j).any fun i=>(ros.getD i default).op.fu&& !jh ops i j
def F3(ops:Array Oper)(ros:List RO):Nat:=((abc ops.size).find? (Sv ops ros)).getD ops.size
def Di(ops:Array Oper)(ros:List RO)(e:Nat):Bool:=
 AI (ros.getD e default).op&&(ros.getD e default).guard.isNone&&
 (match(ros.getD e default).dst with
 |some t=>(abc ops.size).all fun k=>k==e|| !(ros.getD k default).names.contains t||(abc e).all fun i=>!(ros.getD i default).op.fu||jh ops i k
 |none=>false)&&
 (abc ops.size).all fun k=>decide (k<=e)|| !(ros.getD k default).op.ht||(ros.getD k default).op.fu||(abc k).any fun i=>decide (e<i)&&(ros.getD i default).op.fu
def B6(ops:Array Oper)(ros:List RO):Bool:=
 (abc ops.size).all (fun j=>(eL ops j).all fun e=>decide (e<j))&&
 (let e:=F3 ops ros
 (decide (ops.size<=e)||Di ops ros e)&&
 (abc ops.size).all fun j=>(abc j).all fun i=>C5 ops (decide (j=e)) (ros.getD i default) (ros.getD j default) i j)
structure nu (ops:Array Oper) (ro:Nat->RO) (e:Nat):Prop where
 lt:∀j,j<ops.size->∀e∈eL ops j,e<j
 wr:∀i j,i<j->j<ops.size->∀d,(ro i).dst=some d->d∈(ro j).names->jh ops i j=true
 rw:∀i j,i<j->j<ops.size->∀d,(ro j).dst=some d->d∈(ro i).names->jh ops i j=true
 eh:∀i j,i<j->j<ops.size->j≠e->(ro i).op.fu=true->(ro j).op.ht=true->jh ops i j=true
 he:∀i j,i<j->j<ops.size->(ro i).op.ht=true->(ro j).op.fu=true->jh ops i j=true
 nw:e<ops.size->∃zs,(ro e).op=.newR zs
 gd:e<ops.size->(ro e).guard=none
 us:e<ops.size->∃t,(ro e).dst=some t/\∀k,k<ops.size->k≠e->t∈(ro k).names->∀i,i<e->(ro i).op.fu=true->jh ops i k=true
 bt:e<ops.size->∀k,e<k->k<ops.size->(ro k).op.ht=true->(ro k).op.fu=false->∃i,e<i/\i<k/\(ro i).op.fu=true
theorem LQ(h:AI op=true):∃zs,op=.newR zs:=by cases op<;>first|exact⟨_,rfl⟩|cases h
theorem qM(h:Di ops ros e=true):
  (∃zs,(ros.getD e default).op=.newR zs)/\(ros.getD e default).guard=none/\
  (∃t,(ros.getD e default).dst=some t/\∀k,k<ops.size->k≠e->t∈(ros.getD k default).names->∀i,i<e->(ros.getD i default).op.fu=true->jh ops i k=true)/\
  ∀k,e<k->k<ops.size->(ros.getD k default).op.ht=true->(ros.getD k default).op.fu=false->∃i,e<i/\i<k/\(ros.getD i default).op.fu=true:=by
 unfold Di at h;simp only[μ]at h;obtain⟨⟨⟨h1,h2⟩,h3⟩,h4⟩:=h;refine⟨LQ h1,by simpa using h2,?_,fun k hk hn hht hne=>?_⟩
 ·split at h3
  ·rename_i t ht;refine⟨t,ht,fun k hk hke htk i hi he=>?_⟩;have:=aa1.1 h3 k (abG.2 hk);simp only[abx,aaY,beq_iff_eq]at this;rcases this with(g|g)|g
   ·exact absurd g hke
   ·rw[ada,decide_eq_false_iff_not]at g;exact absurd htk g
   ·have:=aa1.1 g i (abG.2 hi);simp only[abx,aaY]at this;rw[he]at this;exact this.resolve_left (by simp)
  ·cases h3
 ·have:=aa1.1 h4 k (abG.2 hn);simp only[abx,aaY,decide_eq_true_eq]at this;rcases this with((g|g)|g)|g
  ·omega
  ·rw[hht]at g;cases g
  ·rw[hne]at g;cases g
  ·obtain⟨i,hi,g⟩:=List.any_eq_true.1 g;simp only[μ,decide_eq_true_eq]at g;exact⟨i,g.1,abG.1 hi,g.2⟩
theorem OL(h:B6 ops ros=true):nu ops (fun i=>ros.getD i default) (F3 ops ros):=by
 unfold B6 at h;generalize F3 ops ros=e at h|-;simp only[μ]at h;obtain⟨h1,h0,h2⟩:=h;simp only[aa1,abG,decide_eq_true_eq]at h1 h2;have hlo:e<ops.size->Di ops ros e=true:=fun hl=>by simp only[abx,decide_eq_true_eq]at h0;exact h0.elim (fun g=>by omega) id
 have hp:∀i j,i<j->j<ops.size->C5 ops (decide (j=e)) (ros.getD i default) (ros.getD j default) i j=true:=fun i j hi hj=>h2 j hj i hi;have key:∀(b:Bool) (ri rj:RO) (i j:Nat),C5 ops b ri rj i j=true->
   (∀d,ri.dst=some d->d∈rj.names->jh ops i j=true)/\(∀d,rj.dst=some d->d∈ri.names->jh ops i j=true)/\
   (b=false->ri.op.fu=true->rj.op.ht=true->jh ops i j=true)/\(ri.op.ht=true->rj.op.fu=true->jh ops i j=true):=fun b ri rj i j h=>by
  unfold C5 at h;refine⟨fun d hd hm=>?_,fun d hd hm=>?_,fun hb he hh=>?_,fun hh he=>?_⟩
  ·rw[hd]at h;simpa[hm]using h
  ·rw[hd]at h;simpa[hm]using h
  ·simpa[hb,he,hh]using h
  ·simpa[he,hh]using h
 refine⟨h1,fun i j hi hj=>(key _ _ _ i j (hp i j hi hj)).1,fun i j hi hj=>(key _ _ _ i j (hp i j hi hj)).2.1,fun i j hi hj hne=>(key _ _ _ i j (hp i j hi hj)).2.2.1 (by simpa using hne),fun i j hi hj=>(key _ _ _ i j (hp i j hi hj)).2.2.2,fun hl=>(qM (hlo hl)).1,fun hl=>(qM (hlo hl)).2.1,fun hl=>(qM (hlo hl)).2.2.1,fun hl=>(qM (hlo hl)).2.2.2⟩
def yb(r:RO)(env:Nat->AV):Prop:=match r.guard with
 |none=>True
 |some (t,want)=>env t=.D (.B want)
def zT(r:RO)(env:Nat->AV):Prop:=match r.guard with
 |none=>False
 |some (t,want)=>(∃c,env t=.D (.B c)/\c≠want)\/∃v,env t=.D (.C (.tuple v))
theorem bD5(h:aA P o=some (.newR zs)):∃T i z,o.op=.alloc T/\P.info? T=some i/\i.zero=some z/\zs=z.cells.toList.map jJ:=by
 cases ho:o.op
 case alloc T=>
  simp only[aA,ho,η,ι]at h;obtain⟨i,hi,z,hz,h⟩:=h;split at h
  ·cases h;exact⟨T,i,z,rfl,hi,hz,rfl⟩
  ·split at h<;>cases h
 case field=>exfalso;simp only[aA,ho,η]at h;obtain⟨f,_,h⟩:=h;split at h<;>cases h
 all_goals(exfalso;simp only[aA,ho]at h;(repeat' split at h)<;>simp_all[η,ι,ζ])
theorem Zr(h:bu.newR zs=cE b op0):op0=.newR zs:=by cases b<;>cases op0<;>first|(cases h;done)|(cases h;rfl)|(simp only[cE,iY]at h;split at h<;>cases h)
def PV(G:Gh)(es:List (List DV))(w:World)(v:Value)(w':World):Prop:=
 v=.pointer (some ⟨w.heap.size,0,none⟩)/\∃vs T,w'=w.alloc (.cells vs T)/\∀m',bg G m' (.row true 1 es) w.heap.size vs.size w'
theorem XI{ds:List DV}(hr:aA P o=some (.newR zs))(hd:AV.data zs=some ds)(G:Gh)(m:HM)(lk:bJ)(w:World)(ρ:Operand->Value)(hS:cf G m lk w):bp P o ρ w (PV G (ds.map fun d=>[d]) w):=by obtain⟨T,i,z,ho,hi,hz,rfl⟩:=bD5 hr;refine bp.val (v:=.pointer (some ⟨w.heap.size,0,none⟩)) (w':=w.alloc (.cells z.cells T)) ?_ ⟨rfl,_,_,rfl,fun m'=>F8 hS T (AV.gg _) hd m'⟩;simp[execOp,ho,Instr.alloc,lN hi hz,newVar,newRow]
inductive eo (P:Program) (o:Oper) (r:RO) (s s':an):Prop
 |skip (h1:zT r s.env) (h2:s'=s.put r.dst .un [] [])
 | run (h1:yb r s.env) (he:r.op.fu=false) (x:AV) (nbs:List bn) (fz:List Hd) (h2:s'=s.put r.dst x nbs fz) (h3:r.op.ht=false->nbs=[]/\fz=[]) (h5:∀ h ∈ fz,(s.lk h).isSome=true)
   (h4:∀(G:Gh) (m:HM) (w:World) (ρ:Operand->Value) (_:∀v,ρ (.const v)=v) (lk2:bJ),kz r.op s.ev s.lk lk2->cf G m lk2 w->(∀x∈r.op.operands,AV.aq G m (s.ev x) (ρ x))->
    (∀j,j<nbs.length->m (.O (s.nx+j))=none)->bp P o ρ w (bj G m lk2 s.nx x nbs fz w))
   (h6:AI r.op=true->x=.eptr (.O s.nx) 1 0 0/\∃es,nbs=[.row true 1 es]/\fz=[]/\∀(G:Gh) (m:HM) (lk:bJ) (w:World) (ρ:Operand->Value),cf G m lk w->bp P o ρ w (PV G es w))
 |fu (h1:yb r s.env) (he:r.op.fu=true) (h2:nk P o r.op.operands r.dst s s')
theorem Lw{r:RO}(hr:fm P ops N o r)(hg:yb r s.env)(h:pE P s r K):∃s',K s'/\eo P o r s s':=by
 cases he:r.op.fu with
 |true=>
  obtain⟨s',hK,hE⟩:=Jj hr he h;exact⟨s',hK,.fu hg he hE⟩
 |false=>
  rw[Qh he]at h;cases hn:AI r.op with
  |false=>
   obtain⟨x,nbs,fz,hK,h3,h5,hD⟩:=hr.ps he h;exact⟨_,hK,.run hg he x nbs fz rfl h3 h5 hD (fun e=>by rw[hn]at e;cases e)⟩
  |true=>
   obtain⟨zs,hz⟩:=LQ hn;have hz':aA P o=some (.newR zs):=by
    obtain e0|⟨b,op0,g1,g2⟩:=hr.op
    ·rw[hz]at e0;cases e0
    rw[hz]at g2;rw[g1,Zr g2]
   rw[hz]at h;obtain⟨ds,hd,hK⟩:=h;have h':aY P s.lk s.nx s.ev r.op (fun a nbs fz=>K (s.put r.dst a nbs fz)/\a=.eptr (.O s.nx) 1 0 0/\nbs=[.row true 1 (ds.map fun d=>[d])]/\fz=[]):=by rw[hz];exact⟨ds,hd,hK,rfl,rfl,rfl⟩
   obtain⟨x,nbs,fz,⟨hK,e1,e2,e3⟩,h3,h5,hD⟩:=hr.ps he h';exact⟨_,hK,.run hg he x nbs fz rfl h3 h5 hD (fun _=>⟨e1,_,e2,e3,XI hz' hd⟩)⟩
theorem FP{P:Program}{ops:Array Oper}{N:Nat}:∀{os:List Oper} {ros:List RO} {s:an} {K:an->Prop},yB P ops N os ros->lH P ros s K->
  ∃st:Nat->an,st 0=s/\ros.length=os.length/\K (st os.length)/\∀(i:Nat) (o:Oper) (r:RO),os[i]?=some o->ros[i]?=some r->fm P ops N o r/\eo P o r (st i) (st (i+1))
 |[],[],s,K,_,h=>⟨fun _=>s,rfl,rfl,h,fun i o r hi=>by simp at hi⟩
 |[],_::_,_,_,hr,_=>hr.elim
 |_::_,[],_,_,hr,_=>hr.elim
 |o::os,r::ros,s,K,hr,h=>by
  obtain⟨h1,h2⟩:=hr;have go:∀s',lH P ros s' K->eo P o r s s'->∃st:Nat->an,st 0=s/\(r::ros).length=(o::os).length/\K (st (o::os).length)/\
    ∀(i:Nat) (o':Oper) (r':RO),(o::os)[i]?=some o'->(r::ros)[i]?=some r'->fm P ops N o' r'/\eo P o' r' (st i) (st (i+1)):=fun s' hs' hstep=>by
   obtain⟨st,g1,g2,g3,g4⟩:=FP h2 hs';refine⟨fun i=>match i with|0=>s|i+1=>st i,rfl,by simp[g2],g3,fun i o' r' hi hi'=>?_⟩
   match i with
   |0=>
    simp at hi hi';subst hi;subst hi';refine⟨h1,?_⟩;show eo P o r s (st 0);rw[g1];exact hstep
   |i+1=>exact g4 i o' r' (by simpa using hi) (by simpa using hi')
  unfold lH at h;split at h
  ·rename_i hg;obtain⟨s',hK,hst⟩:=Lw h1 (by unfold yb;rw[hg];trivial) h;exact go s' hK hst
  ·rename_i t want hg;split at h
   ·rename_i c hc;by_cases e:c=want
    ·obtain⟨s',hK,hst⟩:=Lw h1 (by unfold yb;rw[hg];simp only;rw[hc,e]) (h.1 e);exact go s' hK hst
    ·exact go _ (h.2 e) (.skip (by unfold zT;rw[hg];exact .inl ⟨c,hc,e⟩) rfl)
   ·rename_i v hc;exact go _ h (.skip (by unfold zT;rw[hg];exact .inr ⟨v,hc⟩) rfl)
   ·exact h.elim
theorem M3{r:RO}(hr:fm P ops N o r)(h:lH P [r] s K):∃s',K s'/\eo P o r s s':=by obtain⟨st,g1,_,g3,g4⟩:=FP (os:=[o]) (ros:=[r]) ⟨hr,trivial⟩ h;obtain⟨_,g5⟩:=g4 0 o r rfl rfl;exact⟨st 1,g3,g1▸g5⟩
theorem C8(h:op.fu=true):op.ht=true:=by cases op<;>first|rfl|(unfold bu.fu at h;simp at h)
theorem Mt(s:an)(dst:Option Nat)(a:AV)(h:Hd):(s.put dst a [] []).lk h=s.lk h:=by
 rw[jZ];unfold ij fo;cases h with
 |B i=>simp
 |O i=>
  have:¬(s.nx<=i/\i<s.nx+([]:List bn).length):=by rw[aaE];omega
  simp only[if_neg this];simp
theorem YJ{r:RO}(h:eo P o r s s')(he:r.op.ht=false)(x:Hd):s'.lk x=s.lk x:=by
 cases h with
 |skip h1 h2=>subst h2;exact Mt _ _ _ _
 |run h1 he' y nbs fz h2 h3=>
  subst h2;obtain⟨rfl,rfl⟩:=h3 he;exact Mt _ _ _ _
 |fu h1 h2 h3=>rw[C8 h2]at he;cases he
theorem JW{P:Program}{ops:Array Oper}{N:Nat}{ld:Bool}{hs:List Hd}{lst:Bool}:∀{os:List Oper} {ros:List RO} {s:an} {K:an->Prop},yB P ops N os ros->DG P ld hs lst ros s K->
  ∃st:Nat->an,st 0=s/\ros.length=os.length/\K (st os.length)/\(∀i,i<os.length->(lst=false\/i+1<os.length)->yu ld hs (st i) (st (i+1)))/\∀(i:Nat) (o:Oper) (r:RO),os[i]?=some o->ros[i]?=some r->fm P ops N o r/\eo P o r (st i) (st (i+1))/\B0 hs r.op (st i).ev
 |[],[],s,K,_,h=>⟨fun _=>s,rfl,rfl,h,fun i hi=>by simp at hi,fun i o r hi=>by simp at hi⟩
 |[],_::_,_,_,hr,_=>hr.elim
 |_::_,[],_,_,hr,_=>hr.elim
 |o::os,r::ros,s,K,hr,h=>by
  obtain⟨h1,h2⟩:=hr;obtain⟨hl,h⟩:=h;obtain⟨s',⟨hk,hs'⟩,hstep⟩:=M3 h1 h;obtain⟨st,g1,g2,g3,g5,g4⟩:=JW h2 hs';refine⟨fun i=>match i with|0=>s|i+1=>st i,rfl,by simp[g2],g3,fun i hi hj=>?_,fun i o' r' hi hi'=>?_⟩
  ·match i with
   |0=>
    show yu ld hs s (st 0);rw[g1];cases he:r.op.ht with
    |true=>exact hk he (hj.imp id fun h6 e=>by subst e;rw[aaE]at g2;rw[List.length_cons]at h6;omega)
    |false=>exact fun x _=>by rw[YJ hstep he];exact dv.refl _ _
   |i+1=>exact g5 i (by simpa using hi) (hj.imp id fun h=>by simpa using h)
  ·match i with
   |0=>
    simp at hi hi';subst hi;subst hi';refine⟨h1,?_,hl⟩;show eo P o r s (st 0);rw[g1];exact hstep
   |i+1=>exact g4 i o' r' (by simpa using hi) (by simpa using hi')
def xN(r:Nat->RO)(t:Nat):Nat->Nat
 |0=>0
 |k+1=>if(r k).dst=some t then k+1 else xN r t k
theorem zP(r:Nat->RO)(t:Nat):∀i,xN r t i<=i
 |0=>me _
 |k+1=>by unfold xN;split;exact me _;exact Nat.le_succ_of_le (zP r t k)
theorem rI(r:Nat->RO)(t:Nat):∀i,(xN r t i=0\/∃k,k<i/\xN r t i=k+1/\(r k).dst=some t)/\∀k,xN r t i<=k->k<i->(r k).dst≠some t
 |0=>⟨.inl rfl,fun k _ h=>by omega⟩
 |i+1=>by
  obtain⟨h1,h2⟩:=rI r t i;unfold xN;split
  ·rename_i e;exact⟨.inr ⟨i,by omega,rfl,e⟩,fun k h h'=>by omega⟩
  ·rename_i e;refine⟨h1.imp id fun⟨k,a,b,c⟩=>⟨k,by omega,b,c⟩,fun k h h'=>?_⟩;by_cases ek:k=i
   ·subst ek;exact e
   ·exact h2 k h (by omega)
structure FY (n:Nat) (r:Nat->RO) (L:Nat->Prop) (t q:Nat):Prop where
 le:q<=n
 AB:q=0\/∃k,q=k+1/\L k/\(r k).dst=some t
 last:∀j,q<=j->j<n->L j->(r j).dst≠some t
section
variable{P:Program}{ops:Array Oper}{N:Nat}{r:Nat->RO}{st:Nat->an}
theorem HK(h:eo P o ro s s'):s.nx<=s'.nx:=by
 cases h with
 |skip h1 h2=>subst h2;exact me _
 |run h1 he x nbs fz h2=>subst h2;show s.nx<=s.nx+nbs.length;omega
 |fu h1 he h2=>exact h2.nx
theorem WI(h:eo P o ro s s')(hs:∀i,s.nx<=i->s.own i=none):∀i,s'.nx<=i->s'.own i=none:=by
 cases h with
 |skip h1 h2=>subst h2;exact fun i hi=>qI hs i hi
 |run h1 he x nbs fz h2=>subst h2;exact fun i hi=>qI hs i hi
 |fu h1 he h2=>exact h2.own hs
theorem YG(h:eo P o ro s s')(ht:ro.dst≠some t):s'.env t=s.env t:=by
 have put:∀x nbs fz,(s.put ro.dst x nbs fz).env t=s.env t:=fun x nbs fz=>by
  show dE s.env ro.dst x t=_;cases hd:ro.dst with
  |some d=>
   show gb s.env d x t=_;unfold gb;rw[if_neg (fun e=>ht (by rw[hd,e]))]
  |none=>rfl
 cases h with
 |skip h1 h2=>subst h2;exact put _ _ _
 |run h1 he x nbs fz h2=>subst h2;exact put _ _ _
 |fu h1 he h2=>exact h2.env t ht
theorem vB(hst:∀i,i<ops.size->∃o,ops[i]?=some o/\fm P ops N o (r i)/\eo P o (r i) (st i) (st (i+1))):∀(d i:Nat),i+d<=ops.size->(st i).nx<=(st (i+d)).nx
 |0,i,_=>me _
 |d+1,i,h=>by obtain⟨o,_,_,hs⟩:=hst (i+d) (by omega);exact aaG (vB hst d i (by omega)) (HK hs)
theorem HX(hst:∀i,i<ops.size->∃o,ops[i]?=some o/\fm P ops N o (r i)/\eo P o (r i) (st i) (st (i+1)))(h0:∀j,(st 0).nx<=j->(st 0).own j=none):∀i,i<=ops.size->∀j,(st i).nx<=j->(st i).own j=none
 |0,_=>h0
 |i+1,h=>by obtain⟨o,_,_,hs⟩:=hst i (by omega);exact WI hs (HX hst h0 i (by omega))
theorem Eu(hst:∀i,i<ops.size->∃o,ops[i]?=some o/\fm P ops N o (r i)/\eo P o (r i) (st i) (st (i+1)))(t:Nat):∀i,i<=ops.size->(st (xN r t i)).env t=(st i).env t
 |0,_=>rfl
 |i+1,h=>by
  unfold xN;split
  ·rfl
  ·rename_i e;obtain⟨o,_,_,hs⟩:=hst i (by omega);rw[YG hs e];exact Eu hst t i (by omega)
theorem Dd(hst:∀i,i<ops.size->∃o,ops[i]?=some o/\fm P ops N o (r i)/\eo P o (r i) (st i) (st (i+1))):∀(d q:Nat),q+d<=ops.size->(∀i,q<=i->i<q+d->(r i).op.fu=false)->
  ∃hs:List Hd,∀h,(∀j,(st q).nx<=j->j<(st (q+d)).nx->h≠.O j)->(st (q+d)).lk h=if h∈hs then((st q).lk h).map bn.jo else(st q).lk h
 |0,q,_,_=>⟨[],fun h _=>by simp⟩
 |d+1,q,hn,he=>by
  obtain⟨hs,ih⟩:=Dd hst d q (by omega) (fun i h1 h2=>he i h1 (by omega));obtain⟨o,_,_,hstep⟩:=hst (q+d) (by omega);have hnx:=HK hstep;have hnx0:=vB hst d q (by omega);have hold:∀(h:Hd),(∀j,(st q).nx<=j->j<(st (q+(d+1))).nx->h≠.O j)->∀j,(st q).nx<=j->j<(st (q+d)).nx->h≠.O j:=fun h hh j h1 h2=>hh j h1 (aa6 h2 hnx);have key:∀x nbs fz,st (q+d+1)=(st (q+d)).put (r (q+d)).dst x nbs fz->∃hs:List Hd,∀h,(∀j,(st q).nx<=j->j<(st (q+(d+1))).nx->h≠.O j)->(st (q+(d+1))).lk h=if h∈hs then((st q).lk h).map bn.jo else(st q).lk h:=fun x nbs fz hput=>by
   refine⟨fz++hs,fun h hh=>?_⟩;have hnew:(st (q+(d+1))).lk h=fo (st (q+d)).lk fz h:=by
    show(st (q+d+1)).lk h=_;rw[hput,jZ];unfold ij;cases h with
    |B i=>rfl
    |O i=>
     simp only;rw[if_neg (fun hc=>hh i (by omega) (by
      show i<(st (q+d+1)).nx;rw[hput];exact hc.2) rfl)]
   rw[hnew];unfold fo;rw[ih h (hold h hh)];by_cases e1:h∈fz<;>by_cases e2:h∈hs<;>simp[e1,e2];cases(st q).lk h<;>simp[bn.lz]
  cases hstep with
  |skip h1 h2=>exact key _ _ _ h2
  |run h1 he' x nbs fz h2=>exact key _ _ _ h2
  |fu h1 he'=>have:=he (q+d) (by omega) (by omega);rw[this]at he';cases he'
theorem Pg(hst:∀i,i<ops.size->∃o,ops[i]?=some o/\fm P ops N o (r i)/\eo P o (r i) (st i) (st (i+1))){q q':Nat}(hq:q<=q')(hn:q'<=ops.size)
  (he:∀i,q<=i->i<q'->(r i).op.fu=false) (hm:∀j,(st q).nx<=j->j<(st q').nx->m (.O j)=none) (hS:cf G m (st q).lk w):
  ∃G',cf G' m (st q').lk w/\Fr (fun _=>False) (Own m) G G' w w:=by obtain⟨d,rfl⟩:∃d,q'=q+d:=⟨q'-q,by omega⟩;obtain⟨hs,hh⟩:=Dd hst d q hn he;obtain⟨G',h1,h2,h3⟩:=hS.freeze hs;refine⟨G',h1.congr (fun x hx=>?_),rfl,.same rfl rfl,rfl,me _,fun _ _ _=>rfl,fun b _ ho o=>h3 b (fun h _ sz e=>ho (.at_ e)) o,h2⟩;rw[hh x (fun j a b e=>by subst e;exact hx (hm j a b))];rfl
theorem Nj(hst:∀i,i<ops.size->∃o,ops[i]?=some o/\fm P ops N o (r i)/\eo P o (r i) (st i) (st (i+1))):∀(d q:Nat),q+d<=ops.size->(∀i,q<=i->i<q+d->(r i).op.fu=false/\(r i).op.ht=false)->(st (q+d)).lk=(st q).lk
 |0,q,_,_=>rfl
 |d+1,q,hn,he=>by
  obtain⟨o,_,_,hs⟩:=hst (q+d) (by omega);rw[<-Nj hst d q (by omega) (fun i h1 h2=>he i h1 (by omega))];show(st (q+d+1)).lk=_;cases hs with
  |skip h1 h2=>rw[h2,jZ,eD,iL]
  |run h1 he' x nbs fz h2 h3=>
   obtain⟨rfl,rfl⟩:=h3 (he (q+d) (by omega) (by omega)).2;rw[h2,jZ,eD,iL]
  |fu h1 he'=>have:=(he (q+d) (by omega) (by omega)).1;rw[this]at he';cases he'
theorem cf.FB(hS:cf G m lk w){b sz:Nat}{bl:bn}(hn:m h=none)(hl:lk h=some bl)(hb:∀m',bg G m' bl b sz w)(ho:¬Own m b):cf G (aJ m h (.at_ b sz)) lk w:=by
 have hle:=CT (loc:=.at_ b sz) hn;refine⟨fun x b' sz' hm=>?_,fun x hm=>?_,fun x x' l1 l2 b' h1 h2 q1 q2=>?_,hS.gh,fun x hm=>?_,hS.gl,fun x b' sz' fp hm=>?_⟩
 rotate_right
 ·unfold aJ at hm;split at hm
  ·cases hm
  ·obtain⟨bl',g1,g2⟩:=hS.di x b' sz' fp hm;exact⟨bl',g1,g2.mono (Gh.le.refl G) hle (fun _ _ _=>rfl) (fun _ _=>rfl) (dz.refl _ _)⟩
 ·unfold aJ at hm;split at hm
  ·rename_i e;subst e;cases hm;exact⟨bl,hl,hb _⟩
  ·obtain⟨bl',g1,g2⟩:=hS.fh x b' sz' hm;exact⟨bl',g1,g2.mono (Gh.le.refl G) hle (fun _=>rfl) rfl⟩
 ·unfold aJ at hm;split at hm
  ·cases hm
  ·exact hS.nil x hm
 ·unfold aJ at h1 h2;split at h1
  ·rename_i e;cases h1;split at h2
   ·rename_i e';rw[e,e']
   ·rw[aai.1 q1]at q2;exact absurd ⟨x',l2,h2,q2⟩ ho
  ·split at h2
   ·cases h2;rw[aai.1 q2]at q1;exact absurd ⟨x,l1,h1,q1⟩ ho
   ·exact hS.da x x' l1 l2 b' h1 h2 q1 q2
 ·unfold aJ at hm;split at hm
  ·cases hm
  ·exact hS.dead x hm
def Ht(r:Nat->RO)(st:Nat->an)(e:Nat)(E:ez)(G:Gh)(m:HM)(a:Act)(w:World):Prop:=
 ∃t b sz es,(r e).dst=some t/\(st (e+1)).nx=(st e).nx+1/\(st (e+1)).lk (.O (st e).nx)=some (.row true 1 es)/\(st (e+1)).env t=.eptr (.O (st e).nx) 1 0 0/\
  (∀m',bg G m' (.row true 1 es) b sz w)/\E.w0.heap.size<=b/\(¬Own m b)/\E.val a t=.pointer (some ⟨b,0,none⟩)
structure Inv (P:Program) (ops:Array Oper) (r:Nat->RO) (st:Nat->an) (e:Nat) (E:ez) (listed:Array Bool) (a:Act) (w:World):Prop where
 size:listed.size=ops.size
 closed:∀j,j<ops.size->listed.getD j false=true->∀e∈eL ops j,listed.getD e false=true
 main:∃G m p,p<=ops.size/\(∀i,i<p->(r i).op.fu=true->listed.getD i false=true)/\(p<ops.size->(r p).op.fu=true/\listed.getD p false=false)/\
  cf G m (st p).lk w/\(∀t q,FY ops.size r (fun i=>listed.getD i false=true) t q->(q=e+1->e<p)->AV.aq G m ((st q).env t) (E.val a t))/\a.tmps.size=E.N/\(je E.dt (E.w0.heap.size+E.sk) E.nd a.defers w/\E.J ((st 0).env E.N) w)/\
  (∀i,i<ops.size->(listed.getD i false=false\/(i=e/\p<=e))->∀j,(st i).nx<=j->j<(st (i+1)).nx->m (.O j)=none)/\(∀j,(st ops.size).nx<=j->m (.O j)=none)/\
  Fr (Own E.m0) (Own E.m0) E.G0 G E.w0 w/\(∀i,dw (E.m0 (.B i)) (m (.B i)))/\
  (∀h l b,m h=some l->b∈l.ga->E.w0.heap.size<=b\/Own E.m0 b)/\
  (e<ops.size->listed.getD e false=true->p<=e->Ht r st e E G m a w)
end
theorem BS{i:Nat}(h:listed.getD i true=false):listed.getD i false=false:=by
 rcases aaV i listed.size with h'|h'
 ·simp[h']at h|-;exact h
 ·simp[acm h']at h
theorem oG{i:Nat}(hi:i<listed.size):(listed.setIfInBounds i true).getD j false=true↔(j=i\/listed.getD j false=true):=by
 by_cases e:j=i
 ·subst e;simp[hi]
 ·have e':i≠j:=fun h=>e h.symm;simp only[aaA,abR e',e,false_or]
section
variable{P:Program}{ops:Array Oper}{N:Nat}{r:Nat->RO}{st:Nat->an}
theorem Jx(j:Nat):∀(d a:Nat),(st a).nx<=j->j<(st (a+d)).nx->∃k,a<=k/\k<a+d/\(st k).nx<=j/\j<(st (k+1)).nx
 |0,a,h1,h2=>by simp at h2;omega
 |d+1,a,h1,h2=>by
  by_cases h:(st (a+d)).nx<=j
  ·exact⟨a+d,by omega,by omega,h,h2⟩
  ·obtain⟨k,q1,q2,q3,q4⟩:=Jx j d a h1 (by omega);exact⟨k,q1,by omega,q3,q4⟩
theorem aUq(h:eo P o ro s s')(hn:s.nx<s'.nx):ro.op.ht=true:=by
 cases h with
 |skip h1 h2=>subst h2;simp[an.put]at hn
 |run h1 he x nbs fz h2 h3=>
  subst h2;cases hh:ro.op.ht with
  |true=>rfl
  |false=>obtain⟨rfl,_⟩:=h3 hh;simp[an.put]at hn
 |fu h1 he h2=>exact C8 he
theorem Hr(r:Nat->RO)(n:Nat):∀(d i:Nat),i+d=n->∃p,i<=p/\p<=n/\(∀j,i<=j->j<p->(r j).op.fu=false)/\(p<n->(r p).op.fu=true)
 |0,i,h=>⟨i,me _,by omega,fun j a b=>by omega,fun h'=>by omega⟩
 |d+1,i,h=>by
  cases he:(r i).op.fu with
  |true=>exact⟨i,me _,by omega,fun j a b=>by omega,fun _=>he⟩
  |false=>
   obtain⟨p,a,b,c,e⟩:=Hr r n d (i+1) (by omega);refine⟨p,by omega,b,fun j h1 h2=>?_,e⟩;by_cases ej:j=i
   ·subst ej;exact he
   ·exact c j (by omega) h2
theorem Y3(hst:∀i,i<ops.size->∃o,ops[i]?=some o/\fm P ops N o (r i)/\eo P o (r i) (st i) (st (i+1)))(hD:nu ops r e)(h0:∀j,(st 0).nx<=j->(st 0).own j=none)
  (hstab:∀i x,i<ops.size->(r i).op.mw=some x->∀h,((st i).ev x).mu=some h->∀q,q<=ops.size->(∀j,j<q->(r j).op.fu=true->¬jh ops i j=true)->dv (CM (r i).op) ((st i).lk h) ((st q).lk h))
 (hN:E.N=N) (hI:Inv P ops r st e E listed a w) {i:Nat} (hi:i∈Region.ready .any ops listed):
  wpOpIn (FR rd) 0 P ops Q i (Inv P ops r st e E (listed.setIfInBounds i true)) a w:=by
 subst hN;obtain⟨hun,oi,hoi,hall⟩:=mem_ready.1 hi;have hlt:i<ops.size:=(aad.1 hoi).1;have hunL:¬listed.getD i false=true:=by rw[BS hun];simp
 obtain⟨o',ho',hres,hstep⟩:=hst i hlt;rw[hoi]at ho';cases ho';obtain⟨hsize,hclosed,G,m,p,hpn,hp1,hp2,hS,htm,hasz,hdef,hfr1,hfr2,hframe,hbase,hown,hearly⟩:=hI;have haft:∀e∈eL ops i,listed.getD e false=true:=fun e he=>by unfold eL at he;rw[hoi]at he;obtain⟨ed,h1,rfl⟩:=aaS.1 he;obtain⟨h1,h2⟩:=ξ.1 h1;exact hall ed (by simpa using h1) h2
 have hancL:∀j,jh ops j i=true->listed.getD j false=true:=fun j hj=>by
  obtain⟨e,he,rfl|h2⟩:=EB hD.lt hlt hj
  ·exact haft _ he
  ·exact I8 hD.lt (L:=fun k=>listed.getD k false=true) hclosed e j (Nat.lt_trans (hD.lt i hlt e he) hlt) h2 (haft e he)
 have hancN:∀j,j<ops.size->jh ops i j=true->¬listed.getD j false=true:=fun j hj h hL=>
  hunL (I8 hD.lt (L:=fun k=>listed.getD k false=true) hclosed j i hj h hL)
 have hpe:p<=e->e<ops.size->p≠e:=fun h he2 h'=>by subst h';obtain⟨zs,hz⟩:=hD.nw he2;have:=(hp2 he2).1;rw[hz]at this;cases this
 have hte:p<=e->e<ops.size->i≠e->∀t,(r e).dst=some t->t∉(r i).names:=fun h he2 hie t ht gk=>by obtain⟨t',ht',hus⟩:=hD.us he2;rw[ht]at ht';cases ht';have hlt2:p<e:=adx h (hpe h he2);obtain⟨g1,g2⟩:=hp2 (by omega);rw[hancL p (hus i hlt hie gk p hlt2 g1)]at g2;cases g2
 have hver:∀t∈(r i).names,FY ops.size r (fun k=>listed.getD k false=true) t (xN r t i):=fun t ht=>by
  obtain⟨h1,h2⟩:=rI r t i;refine⟨aaG (zP r t i) (acn hlt),?_,fun j h3 h4 h5 h6=>?_⟩
  ·rcases h1 with h1|⟨k,h3,h4,h5⟩
   ·exact .inl h1
   ·exact .inr ⟨k,h4,hancL k (hD.wr k i h3 hlt t h5 ht),h5⟩
  ·rcases ab3 j i with h7|h7|h7
   ·exact h2 j h3 h7 h6
   ·subst h7;exact hunL h5
   ·exact hancN j h4 (hD.rw i j h7 h4 t h6 ht) h5
 have henv:∀t∈(r i).names,AV.aq G m ((st i).env t) (E.val a t):=fun t ht=>by
  rw[<-Eu hst t i (acn hlt)];refine htm t _ (hver t ht) fun hq=>?_;rcases aaV e p with h|h
  ·exact h
  ·exfalso;have hle:=zP r t i;rcases(rI r t i).1 with h1|⟨k,h2,h3,h4⟩
   ·omega
   ·have hke:k=e:=by omega
    subst hke;exact hte h (by omega) (by omega) t h4 ht
 have hevs:∀x∈(r i).op.operands,AV.aq G m ((st i).ev x) (a.eval x):=fun x hx=>by
  cases x with
  |tmp t=>
   have htN:t<E.N:=by simpa[Operand.mg]using hres.xs _ hx
   show AV.aq G m ((st i).env t) (a.tmps.getD t undef);rw[<-ez.e7 htN];refine henv t ?_;unfold RO.names;refine List.mem_append_left _ (abi _ ?_);exact List.mem_filterMap.2 ⟨_,hx,rfl⟩
  |const v=>exact tP G m v
  |global g=>
   show AV.aq G m (match sw g with|some ds=>.rop ds|none=>.any) (.pointer (some ⟨g,0,none⟩));cases hg:sw g with
   |none=>unfold AV.aq;trivial
   |some ds=>unfold AV.aq;exact⟨g,0,rfl,hS.gl g ds hg⟩
  |func f=>show AV.aq G m (.clo f []) _;unfold AV.aq;exact⟨#[],rfl,by simp[AV.bb]⟩
 have hL':∀j,(listed.setIfInBounds i true).getD j false=true↔(j=i\/listed.getD j false=true):=fun j=>oG (by rw[hsize];exact hlt);have hclosed':∀j,j<ops.size->(listed.setIfInBounds i true).getD j false=true->∀e∈eL ops j,(listed.setIfInBounds i true).getD e false=true:=fun j hj h e he=>by
  rw[hL']at h|-;rcases h with rfl|h
  ·exact .inr (haft e he)
  ·exact .inr (hclosed j hj h e he)
 have htm':∀{G':Gh} {m':HM} {v:Value},Gh.le G G'->HM.le m m'->(i≠e->∀d,(r i).dst=some d->AV.aq G' m' ((st (i+1)).env d) v)->(i=e->e<p->∀d,(r i).dst=some d->AV.aq G' m' ((st (i+1)).env d) v)->
   ∀t q,FY ops.size r (fun k=>(listed.setIfInBounds i true).getD k false=true) t q->(q=e+1->e<p)->AV.aq G' m' ((st q).env t) (E.val (a.put oi.dst v) t):=fun{G' m' v} hG hm hd0 hd1 t q hv hqe=>by
  rw[BN t hasz hres.lt,<-hres.dst];by_cases e':(r i).dst=some t
  ·rw[if_pos e'];have hq:i<q:=by
    rcases aaV i q with h|h
    ·exact h
    ·exact absurd e' (hv.last i h hlt ((hL' i).2 (.inl rfl)))
   rcases hv.AB with rfl|⟨k,rfl,hk,hkd⟩
   ·omega
   ·have hki:k=i:=by
     rcases ab3 k i with h|h|h
     ·omega
     ·exact h
     ·exfalso;have hkn:k<ops.size:=by have:=hv.le;omega
      have:=hancN k hkn (hD.wr i k h hkn t e' (by unfold RO.names;rw[hkd];simp));rcases(hL' k).1 hk with h'|h'
      ·omega
      ·exact this h'
    subst hki;by_cases hke:k=e
    ·exact hd1 hke (hqe (by rw[hke])) t e'
    ·exact hd0 hke t e'
  ·rw[if_neg e'];refine AV.aq.mono hG hm _ _ (htm t q ⟨hv.le,hv.AB.imp id fun⟨k,h1,h2,h3⟩=>⟨k,h1,?_,h3⟩,fun j h1 h2 h3=>hv.last j h1 h2 ((hL' j).2 (.inr h3))⟩ hqe);rcases(hL' k).1 h2 with rfl|h2
   ·exact absurd h3 e'
   ·exact h2
 have hnxmono:∀k,k<ops.size->(st k).nx<=(st (k+1)).nx:=fun k hk=>by obtain⟨o,_,_,hs⟩:=hst k hk;exact HK hs
 have hnames:∀k j,k<ops.size->(st k).nx<=j->j<(st (k+1)).nx->(r k).op.ht=true:=fun k j hk h1 h2=>by obtain⟨o,_,_,hs⟩:=hst k hk;exact aUq hs (by omega)
 have heffp:(r i).op.fu=true->p=i:=fun he=>by
  rcases ab3 p i with h|h|h
  ·exfalso;obtain⟨h1,h2⟩:=hp2 (by omega);have hie:i≠e:=fun hie=>by subst hie;obtain⟨zs,hz⟩:=hD.nw hlt;rw[hz]at he;cases he
   rw[hancL p (hD.eh p i h hlt hie h1 (C8 he))]at h2;cases h2
  ·exact h
  ·exact absurd (hp1 i h he) hunL
 have heffe:(r i).op.fu=true->i≠e:=fun he hie=>by subst hie;obtain⟨zs,hz⟩:=hD.nw hlt;rw[hz]at he;cases he
 have hvalE:p<=e->e<ops.size->i≠e->∀t v,(r e).dst=some t->E.val (a.put oi.dst v) t=E.val a t:=fun h he2 hie t v ht=>by rw[BN t hasz hres.lt,<-hres.dst,if_neg];intro h';exact hte h he2 hie t ht (by unfold RO.names;rw[h'];simp)
 have hlE:∀{b sz:Nat} {es:List (List DV)} {G':Gh} {m':HM},bg G' m' (.row true 1 es) b sz w->b<w.heap.size:=fun hb=>by unfold bg at hb;obtain⟨vs,T,h1,_⟩:=hb;exact(aad.1 h1).1
 have hearlyGo:p<=e->i≠e->∀{G':Gh} {m':HM} {w':World} {v:Value},(∀b,b<w.heap.size->¬Own m b->w'.heap[b]?=w.heap[b]?/\∀o,G' b o=G b o)->(∀b,b<w.heap.size->¬Own m b->¬Own m' b)->Gh.le G G'->
   (e<ops.size->listed.getD e false=true->p<=e->Ht r st e E G m a w)->(e<ops.size->listed.getD e false=true->Ht r st e E G' m' (a.put oi.dst v) w'):=fun hpe2 hie {G' m' w' v} h1 h2 hG h he2 hl=>by obtain⟨t,b,sz,es,a1,a2,a3,a4,a5,a6,a7,a8⟩:=h he2 hl hpe2;have hbl:b<w.heap.size:=hlE (a5 m);have hno:¬Own m b:=a7;obtain⟨g1,g2⟩:=h1 b hbl hno;exact⟨t,b,sz,es,a1,a2,a3,a4,fun m''=>(a5 m'').mono hG (HM.le.refl _) g2 g1,a6,h2 b hbl hno,by rw[hvalE hpe2 he2 hie t v a1];exact a8⟩
 have forEff:(r i).op.fu=true->∀{G':Gh} {m':HM} {w':World} {v:Value},cf G' m' (st (i+1)).lk w'->Fr (Own E.m0) (Own E.m0) E.G0 G' E.w0 w'->gu w w'->Gh.le G G'->HM.le m m'->
   (∀b,b<w.heap.size->¬Own m b->w'.heap[b]?=w.heap[b]?/\∀o,G' b o=G b o)->(∀b,b<w.heap.size->¬Own m b->¬Own m' b)->
   (∀j,dw (E.m0 (.B j)) (m' (.B j)))->(∀j,(j<(st i).nx\/(st (i+1)).nx<=j)->m (.O j)=none->m' (.O j)=none)->(∀h l b,m' h=some l->b∈l.ga->E.w0.heap.size<=b\/Own E.m0 b)->
   (∀d,(r i).dst=some d->AV.aq G' m' ((st (i+1)).env d) v)->Inv P ops r st e E (listed.setIfInBounds i true) (a.put oi.dst v) w':=fun he {G' m' w' v} hS' hF' hkeep hG' hmle hEh hEo hbase' hmO hown' hd=>by
  have hpi:=heffp he;have hie:=heffe he;subst hpi;obtain⟨p',hp'1,hp'2,hp'3,hp'4⟩:=Hr r ops.size (ops.size-(p+1)) (p+1) (by omega);have hnone:∀j,(st (p+1)).nx<=j->j<(st p').nx->m' (.O j)=none:=fun j h1 h2=>by
   obtain⟨k,q1,q2,q3,q4⟩:=Jx (st:=st) j (p'-(p+1)) (p+1) h1 (by rw[show p+1+(p'-(p+1))=p' by omega];exact h2);have hkn:k<ops.size:=by omega
   refine hmO j (.inr h1) (hfr1 k hkn ?_ j q3 q4);by_cases hke:k=e
   ·exact .inr ⟨hke,by omega⟩
   ·have hkL:¬listed.getD k false=true:=hancN k hkn (hD.eh p k (by omega) hkn hke he (hnames k j hkn q3 q4));exact .inl (by simpa using hkL)
  obtain⟨G2,hS2,hF2⟩:=Pg hst hp'1 hp'2 (fun j h1 h2=>hp'3 j h1 h2) hnone hS';have hp'u:p'<ops.size->(listed.setIfInBounds p true).getD p' false=false:=fun h=>by
   have hp'e:p'≠e:=fun hh=>by subst hh;obtain⟨zs,hz⟩:=hD.nw h;have:=hp'4 h;rw[hz]at this;cases this
   have hkL:¬listed.getD p' false=true:=hancN p' h (hD.eh p p' (by omega) h hp'e he (C8 (hp'4 h)));have:¬(listed.setIfInBounds p true).getD p' false=true:=by
    rw[hL'];rintro(h1|h1)
    ·omega
    ·exact hkL h1
   simpa using this
  have hlist':∀j,j<p'->(r j).op.fu=true->(listed.setIfInBounds p true).getD j false=true:=fun j h1 h2=>by
   rw[hL'];rcases ab3 j p with h3|h3|h3
   ·exact .inr (hp1 j h3 h2)
   ·exact .inl h3
   ·rw[hp'3 j (by omega) h1]at h2;cases h2
  have hFr2:Fr (Own E.m0) (Own E.m0) E.G0 G2 E.w0 w':=hF'.step hF2 (fun _ _ q=>q.elim) (fun b hb q=>by
   obtain⟨x,l,hx,hl⟩:=q;rcases hown' x l b hx hl with h1|h1
   ·omega
   ·exact h1)
  have hfr1':∀k,k<ops.size->((listed.setIfInBounds p true).getD k false=false\/(k=e/\p<=e))->∀j,(st k).nx<=j->j<(st (k+1)).nx->m' (.O j)=none:=fun k hk hkL j h1 h2=>by
   have hkp:k≠p:=fun e'=>by
    subst e';rcases hkL with hkL|⟨hkL,_⟩
    ·rw[(hL' k).2 (.inl rfl)]at hkL;cases hkL
    ·exact hie hkL
   have hold:listed.getD k false=false\/(k=e/\p<=e):=hkL.imp (fun hkL=>by
    have hkL':¬listed.getD k false=true:=fun h=>by rw[(hL' k).2 (.inr h)]at hkL;cases hkL
    simpa using hkL') id
   refine hmO j ?_ (hfr1 k hk hold j h1 h2);rcases acT hkp with h3|h3
   ·exact .inl (aa6 h2 (by have:=vB hst (p-(k+1)) (k+1) (by omega);rwa[show k+1+(p-(k+1))=p by omega]at this))
   ·exact .inr (aaG (by have:=vB hst (k-(p+1)) (p+1) (by omega);rwa[show p+1+(k-(p+1))=k by omega]at this) h1)
  have hfr2':∀j,(st ops.size).nx<=j->m' (.O j)=none:=fun j h=>hmO j (.inr (aaG (by have:=vB hst (ops.size-(p+1)) (p+1) (by omega);rwa[show p+1+(ops.size-(p+1))=ops.size by omega]at this) h)) (hfr2 j h);have hdef':je E.dt (E.w0.heap.size+E.sk) E.nd (a.put oi.dst v).defers w'/\E.J ((st 0).env E.N) w':=⟨by rw[rA];exact hdef.1.keep hkeep,E.iy _ _ _ hdef.2 hkeep⟩;by_cases hab:e<ops.size/\listed.getD e false=true/\p<=e/\e<p'
  ·
   obtain⟨he2,hle,hpe2,hep'⟩:=hab;have hlt2:p<e:=adx hpe2 (hpe hpe2 he2);obtain⟨t,b,sz,es,a1,a2,a3,a4,a5,a6,a7,a8⟩:=hearlyGo hpe2 hie (v:=v) hEh hEo hG' hearly he2 hle;have hn0:m' (.O (st e).nx)=none:=hfr1' e he2 (.inr ⟨rfl,hpe2⟩) _ (me _) (by omega);have hlk:(st p').lk (.O (st e).nx)=some (.row true 1 es):=by
    have:=Nj hst (p'-(e+1)) (e+1) (by omega) (fun k h1 h2=>by
     have hk1:=hp'3 k (by omega) (by omega);refine⟨hk1,?_⟩;cases hht:(r k).op.ht with
     |false=>rfl
     |true=>
      exfalso;obtain⟨q,q1,q2,q3⟩:=hD.bt he2 k (by omega) (by omega) hht hk1;rw[hp'3 q (by omega) (by omega)]at q3;cases q3)
    rw[show e+1+(p'-(e+1))=p' by omega]at this;rw[this];exact a3
   have hbl:b<w'.heap.size:=by have:=a5 m;unfold bg at this;obtain⟨vs,T,h1,_⟩:=this;exact(aad.1 h1).1
   have hno:¬Own m' b:=a7;have hS3:=hS2.FB hn0 hlk (fun m''=>(a5 m'').mono hF2.le (HM.le.refl _) (fun o=>hF2.gh b hbl hno o) rfl) a7;have hle3:=CT (loc:=.at_ b sz) hn0;refine⟨by simp[hsize],hclosed',G2,aJ m' (.O (st e).nx) (.at_ b sz),p',hp'2,hlist',fun h=>⟨hp'4 h,hp'u h⟩,hS3,fun t' q hv _=>?_,by rw[uW];exact hasz,hdef',fun k hk hkL j h1 h2=>?_,fun j h=>?_,hFr2,fun j=>?_,fun x l b' hx hl=>?_,fun _ _ h=>by omega⟩
   ·by_cases hqe:q=e+1
    ·subst hqe;have htt:t'=t:=by
      rcases hv.AB with h1|⟨k,h1,_,h3⟩
      ·omega
      ·have:k=e:=by omega
       subst this;rw[a1]at h3;cases h3;rfl
     subst htt;rw[a4,a8];exact Gc (b:=b) (sz:=sz) (by simp[aJ])
    ·exact AV.aq.mono hF2.le hle3 _ _ (htm' hG' hmle (fun _=>hd) (fun h=>absurd h hie) t' q hv (fun h=>absurd h hqe))
   ·have hke:k≠e:=fun hh=>by
     subst hh;rcases hkL with h|⟨_,h⟩
     ·rw[(hL' k).2 (.inr hle)]at h;cases h
     ·omega
    have:j≠(st e).nx:=fun hh=>by
     subst hh;rcases acT hke with h3|h3
     ·have:=vB hst (e-(k+1)) (k+1) (by omega);rw[show k+1+(e-(k+1))=e by omega]at this;omega
     ·have:=vB hst (k-(e+1)) (e+1) (by omega);rw[show e+1+(k-(e+1))=k by omega]at this;omega
    unfold aJ;rw[if_neg (fun h=>this (by cases h;rfl))];exact hfr1' k hk (hkL.imp id fun h=>absurd h.1 hke) j h1 h2
   ·have:=vB hst (ops.size-(e+1)) (e+1) (by omega);rw[show e+1+(ops.size-(e+1))=ops.size by omega]at this;unfold aJ;rw[if_neg (fun h'=>by cases h';omega)];exact hfr2' j h
   ·unfold aJ;rw[if_neg (fun h=>by cases h)];exact hbase' j
   ·unfold aJ at hx;split at hx
    ·cases hx;rw[aai.1 hl];exact .inl a6
    ·exact hown' x l b' hx hl
  ·refine⟨by simp[hsize],hclosed',G2,m',p',hp'2,hlist',fun h=>⟨hp'4 h,hp'u h⟩,hS2,fun t' q hv hqe=>?_,by rw[uW];exact hasz,hdef',fun k hk hkL=>hfr1' k hk (hkL.imp id fun h=>⟨h.1,by omega⟩),hfr2',hFr2,hbase',hown',fun he2 hle hp'e=>?_⟩
   ·refine AV.aq.mono hF2.le (HM.le.refl m') _ _ (htm' hG' hmle (fun _=>hd) (fun h=>absurd h hie) t' q hv fun hq=>?_);have h1:=hqe hq;rcases aaV e p with h2|h2
    ·exact h2
    ·exfalso;refine hab ⟨by have:=hv.le;omega,?_,h2,h1⟩;rcases hv.AB with h3|⟨k,h3,h4,_⟩
     ·omega
     ·have:k=e:=by omega
      subst this;rcases(hL' k).1 h4 with h5|h5
      ·exact absurd h5.symm hie
      ·exact h5
   ·have hle':listed.getD e false=true:=by
     rcases(hL' e).1 hle with h5|h5
     ·exact absurd h5.symm hie
     ·exact h5
    obtain⟨t,b,sz,es,a1,a2,a3,a4,a5,a6,a7,a8⟩:=hearlyGo (by omega) hie (v:=v) hEh hEo hG' hearly he2 hle';have hbl:b<w'.heap.size:=by have:=a5 m;unfold bg at this;obtain⟨vs,T,h1,_⟩:=this;exact(aad.1 h1).1
    have hno:¬Own m' b:=a7;exact⟨t,b,sz,es,a1,a2,a3,a4,fun m''=>(a5 m'').mono hF2.le (HM.le.refl _) (fun o=>hF2.gh b hbl hno o) rfl,a6,a7,a8⟩
 have forRest:(r i).op.fu=false->(i=e->e<p)->∀{G':Gh} {m':HM} {w':World} {v:Value},cf G' m' (st p).lk w'->Fr (Own E.m0) (Own E.m0) E.G0 G' E.w0 w'->gu w w'->Gh.le G G'->HM.le m m'->
   (∀b,b<w.heap.size->¬Own m b->w'.heap[b]?=w.heap[b]?/\∀o,G' b o=G b o)->(∀b,b<w.heap.size->¬Own m b->¬Own m' b)->
   (∀j,m' (.B j)=m (.B j))->(∀j,(j<(st i).nx\/(st (i+1)).nx<=j)->m' (.O j)=m (.O j))->(∀h l b,m' h=some l->b∈l.ga->E.w0.heap.size<=b\/Own E.m0 b)->
   (∀d,(r i).dst=some d->AV.aq G' m' ((st (i+1)).env d) v)->Inv P ops r st e E (listed.setIfInBounds i true) (a.put oi.dst v) w':=fun he hiep {G' m' w' v} hS' hF' hkeep hG' hm' hEh hEo hmB hmO hown' hd=>by
  refine⟨by simp[hsize],hclosed',G',m',p,hpn,fun j h1 h2=>(hL' j).2 (.inr (hp1 j h1 h2)),fun h=>⟨(hp2 h).1,?_⟩,hS',htm' hG' hm' (fun _=>hd) (fun _ _=>hd),by rw[uW];exact hasz,⟨by rw[rA];exact hdef.1.keep hkeep,E.iy _ _ _ hdef.2 hkeep⟩,fun k hk hkL j h1 h2=>?_,fun j h=>?_,hF',fun j=>by rw[hmB];exact hbase j,hown',fun he2 hle hpe2=>?_⟩
  ·have:¬(listed.setIfInBounds i true).getD p false=true:=by
    rw[hL'];rintro(h1|h1)
    ·subst h1;rw[(hp2 h).1]at he;cases he
    ·rw[(hp2 h).2]at h1;cases h1
   simpa using this
  ·have hki:k≠i:=fun e'=>by
    subst e';rcases hkL with hkL|⟨hkL,h⟩
    ·rw[(hL' k).2 (.inl rfl)]at hkL;cases hkL
    ·have:=hiep hkL;omega
   have hold:listed.getD k false=false\/(k=e/\p<=e):=hkL.imp (fun hkL=>by
    have hkL':¬listed.getD k false=true:=fun h=>by rw[(hL' k).2 (.inr h)]at hkL;cases hkL
    simpa using hkL') id
   rw[hmO j ?_]
   ·exact hfr1 k hk hold j h1 h2
   ·rcases acT hki with h3|h3
    ·exact .inl (aa6 h2 (by have:=vB hst (i-(k+1)) (k+1) (by omega);rwa[show k+1+(i-(k+1))=i by omega]at this))
    ·exact .inr (aaG (by have:=vB hst (k-(i+1)) (i+1) (by omega);rwa[show i+1+(k-(i+1))=k by omega]at this) h1)
  ·rw[hmO j (.inr (aaG (by have:=vB hst (ops.size-(i+1)) (i+1) (by omega);rwa[show i+1+(ops.size-(i+1))=ops.size by omega]at this) h))];exact hfr2 j h
  ·have hie:i≠e:=fun h=>by have:=hiep h;omega
   have hle':listed.getD e false=true:=by
    rcases(hL' e).1 hle with h5|h5
    ·exact absurd h5.symm hie
    ·exact h5
   exact hearlyGo hpe2 hie hEh hEo hG' hearly he2 hle'
 have hyield:∀(j t:Nat),(ops[j]?).bind (·.dst)=some t->yielded ops a.tmps j=match a.tmps.getD t undef with|.bool b=>some b|_=>none:=fun j t ht=>by
  unfold yielded;rw[ht];simp only[ac8,aaA];cases a.tmps[t]?with
  |none=>rfl
  |some v=>cases v<;>rfl
 have hgname:∀t want,(r i).guard=some (t,want)->t∈(r i).names:=fun t want h=>by unfold RO.names;rw[h];simp
 have hwT:yb (r i) (st i).env->Region.wanted oi (yielded ops a.tmps)=true:=fun hg=>by
  have hgd:=hres.guard;cases hog:oi.guard with
  |none=>simp[Region.wanted,hog]
  |some g=>
   obtain⟨j,want⟩:=g;rw[hog]at hgd;obtain⟨t,ht,htN,hgd⟩:=hgd;unfold yb at hg;rw[hgd]at hg;have hv:=tx (hg▸henv t (hgname t want hgd));rw[ez.e7 htN]at hv;simp only[Region.wanted,hog,hyield j t ht,hv];cases want<;>rfl
 have hwF:zT (r i) (st i).env->Region.wanted oi (yielded ops a.tmps)=false:=fun hg=>by
  have hgd:=hres.guard;cases hog:oi.guard with
  |none=>rw[hog]at hgd;unfold zT at hg;rw[hgd]at hg;exact hg.elim
  |some g=>
   obtain⟨j,want⟩:=g;rw[hog]at hgd;obtain⟨t,ht,htN,hgd⟩:=hgd;unfold zT at hg;rw[hgd]at hg;rcases hg with⟨c,hc,hne⟩|⟨v,hc⟩
   ·have hv:=tx (hc▸henv t (hgname t want hgd));rw[ez.e7 htN]at hv;simp only[Region.wanted,hog,hyield j t ht,hv];cases c<;>cases want<;>first|rfl|exact absurd rfl hne
   ·have hv:=henv t (hgname t want hgd);rw[hc,ez.e7 htN]at hv;unfold AV.aq DV.aq at hv;simp only[Region.wanted,hog,hyield j t ht,hv];rfl
 unfold wpOpIn;rw[hoi];simp only;cases hstep with
 |skip h1 h2=>
  rw[hwF h1];refine⟨fun f _=>oC rd f,?_⟩;have hun':∀(m':HM) d,(r i).dst=some d->AV.aq G m' ((st (i+1)).env d) undef:=fun m' d hd=>by rw[h2];show AV.aq G m' (dE (st i).env (r i).dst .un d) undef;rw[hd];show AV.aq G m' (gb (st i).env d .un d) undef;unfold gb;rw[if_pos rfl];unfold AV.un AV.aq DV.aq;rfl
  have hlk:(st (i+1)).lk=(st i).lk:=by rw[h2,jZ,iL,eD]
  have hnx:(st (i+1)).nx=(st i).nx:=by rw[h2];rfl
  cases he:(r i).op.fu with
  |true=>
   have hpi:=heffp he;exact forEff he (by rw[hlk,<-hpi];exact hS) hframe (gu.refl w) (Gh.le.refl G) (HM.le.refl m) (fun _ _ _=>⟨rfl,fun _=>rfl⟩) (fun _ _ h=>h) hbase (fun _ _ h=>h) hown (hun' m)
  |false=>
   refine forRest he (fun hie=>?_) hS hframe (gu.refl w) (Gh.le.refl G) (HM.le.refl m) (fun _ _ _=>⟨rfl,fun _=>rfl⟩) (fun _ _ h=>h) (fun _=>rfl) (fun _ _=>rfl) hown (hun' m);exfalso;subst hie;unfold zT at h1;rw[hD.gd hlt]at h1;exact h1
 |fu h1 he h2=>
  rw[hwT h1];have hpi:=heffp he;have hO:∀b,b<E.w0.heap.size->Own m b->Own E.m0 b:=fun b hb ⟨y,l,hy,hl⟩=>by
   rcases hown y l b hy hl with h|h
   ·omega
   ·exact h
  refine oN (h2.run G m w a.eval (fun _=>rfl) (hpi▸hS) hevs (fun j q1 q2=>hfr1 i hlt (.inl (BS hun)) _ q1 q2)) fun v w' hp'=>?_;obtain⟨G1,m1,hS1,hr1,hF1,hle1,hB1,hO1,hnew1⟩:=hp';refine forEff he hS1 (hframe.step hF1 hO hO) (hF1.keep fun b q=>hS.data q) hF1.le hle1 (fun b hb hno=>⟨hF1.heap b hb hno,fun o=>hF1.gh b hb hno o⟩) (fun b hb hno ⟨x,l,hx,hl⟩=>?_) (fun j=>(hbase j).trans (hB1 j)) (fun j hj hn=>(hO1 j hj).none hn) (fun x l b hj hl=>?_) hr1
  ·rcases hnew1 x l b hx hl with q|q
   ·omega
   ·exact hno q
  ·rcases hnew1 x l b hj hl with q|q
   ·exact .inl (aaG hframe.size q)
   ·rcases aaV b E.w0.heap.size with q2|q2
    ·exact .inr (hO b q2 q)
    ·exact .inl q2
 |run h1 he x nbs fz h2 h3 h5 h4 h6=>
  rw[hwT h1];have hnx:(st (i+1)).nx=(st i).nx+nbs.length:=by rw[h2];rfl
  by_cases hearly2:i=e/\p<=e
  ·
   obtain⟨hie,hpe2⟩:=hearly2;subst hie;obtain⟨zs,hz⟩:=hD.nw hlt;obtain⟨rfl,es,rfl,rfl,hnew⟩:=h6 (by rw[hz];rfl);obtain⟨t,ht,_⟩:=hD.us hlt;refine oN (hnew G m (st p).lk w a.eval hS) fun v w' hp'=>?_;obtain⟨rfl,vs,T,rfl,hblk⟩:=hp';have hFa:Fr (fun _=>False) (fun _=>False) G G w (w.alloc (.cells vs T)):=Fr.alloc _;refine⟨by simp[hsize],hclosed',G,m,p,hpn,fun j h1 h2=>(hL' j).2 (.inr (hp1 j h1 h2)),fun h=>⟨(hp2 h).1,?_⟩,hS.alloc _,htm' (Gh.le.refl G) (HM.le.refl m) (fun h=>absurd rfl h) (fun _ h=>by omega),by rw[uW];exact hasz,⟨by rw[rA];exact hdef.1.keep (hFa.keep fun b q=>q.elim),E.iy _ _ _ hdef.2 (hFa.keep fun b q=>q.elim)⟩,fun k hk hkL j g1 g2=>?_,hfr2,hframe.step hFa (fun _ _ q=>q.elim) (fun _ _ q=>q.elim),hbase,hown,fun _ _ _=>?_⟩
   ·have:¬(listed.setIfInBounds i true).getD p false=true:=by
     rw[hL'];rintro(g1|g1)
     ·exact hpe hpe2 hlt g1
     ·rw[(hp2 h).2]at g1;cases g1
    simpa using this
   ·by_cases hki:k=i
    ·subst hki;exact hfr1 k hk (.inl (BS hun)) j g1 g2
    ·refine hfr1 k hk (.inl ?_) j g1 g2;rcases hkL with hkL|⟨hkL,_⟩
     ·have hkL':¬listed.getD k false=true:=fun h=>by rw[(hL' k).2 (.inr h)]at hkL;cases hkL
      simpa using hkL'
     ·exact absurd hkL hki
   ·refine⟨t,w.heap.size,vs.size,es,ht,by rw[hnx];rfl,?_,?_,hblk,hframe.size,fun⟨x,l,hx,hl⟩=>?_,?_⟩
    ·rw[h2,jZ,eD];simp[ij]
    ·rw[h2];show dE (st i).env (r i).dst _ t=_;rw[ht];show gb (st i).env t _ t=_;unfold gb;rw[if_pos rfl]
    ·have:=hS.vt hx hl;omega
    ·rw[BN t hasz hres.lt,<-hres.dst,if_pos ht]
  have hiep:i=e->e<p:=fun h=>Nat.lt_of_not_le fun h'=>hearly2 ⟨h,h'⟩;have hip:(r i).op.ht=true->i<p/\∀j,i<=j->j<p->(r j).op.fu=false:=fun hht=>by
   have hlt':i<p:=by
    rcases ab3 p i with h|h|h
    ·exfalso;obtain⟨g1,g2⟩:=hp2 (by omega);rw[hancL p (hD.eh p i h hlt (fun hh=>by have:=hiep hh;omega) g1 hht)]at g2;cases g2
    ·exfalso;obtain⟨g1,g2⟩:=hp2 (by omega);rw[h]at g1;rw[g1]at he;cases he
    ·exact h
   refine⟨hlt',fun j g1 g2=>?_⟩;cases hej:(r j).op.fu with
   |false=>rfl
   |true=>
    exfalso;rcases Nat.eq_or_lt_of_le g1 with g3|g3
    ·subst g3;rw[hej]at he;cases he
    ·exact hancN j (by omega) (hD.he i j g3 (by omega) hht hej) (hp1 j g2 hej)
  have hnone:=HX hst h0;have hls:(r i).op.ht=true->ct (st i).lk (st p).lk:=fun hht=>by
   obtain⟨g1,g2⟩:=hip hht;obtain⟨hs,hh⟩:=Dd hst (p-i) i (by omega) (fun j a1 a2=>g2 j a1 (by omega));rw[show i+(p-i)=p by omega]at hh;intro h b hb;have:=hh h (fun j a1 _ e=>by
    subst e;have:(st i).own j=some b:=hb;rw[hnone i (acn hlt) j a1]at this;cases this)
   rw[hb]at this;split at this
   ·exact⟨_,this,.inr rfl⟩
   ·exact⟨_,this,.inl rfl⟩
  have hneed:kz (r i).op (st i).ev (st i).lk (st p).lk:=by
   unfold kz;split
   ·rename_i x hl;exact fun h hx=>hstab i x hlt hl h hx p hpn fun j hj he ha=>hancN j (by omega) ha (hp1 j hj he)
   ·exact hls
  refine oN (h4 G m w a.eval (fun _=>rfl) (st p).lk hneed hS hevs (fun j hj=>hfr1 i hlt (.inl (BS hun)) _ (by omega) (by omega))) fun v w' hp'=>?_;obtain⟨G1,m1,hS1,hr1,hF1,hold,hnew⟩:=hp';have hm1:HM.le m m1:=fun h loc hx=>.inl (.inl (by
   rw[hold h (fun j hj e=>by subst e;rw[hfr1 i hlt (.inl (BS hun)) _ (by omega) (by omega)]at hx;cases hx)];exact hx))
  have hfin:∃G2,cf G2 m1 (st p).lk w'/\Fr (fun _=>False) (fun b=>w.heap.size<=b\/Own m b) G1 G2 w' w':=by
   cases hht:(r i).op.ht with
   |false=>
    obtain⟨rfl,rfl⟩:=h3 hht;rw[iL,eD]at hS1;exact⟨G1,hS1,Fr.refl _ _ _ _⟩
   |true=>
    obtain⟨g1,g2⟩:=hip hht;obtain⟨hs,hh⟩:=Dd hst (p-(i+1)) (i+1) (by omega) (fun j a1 a2=>g2 j (by omega) (by omega));rw[show i+1+(p-(i+1))=p by omega]at hh;have hnew1:(st (i+1)).lk=ij (fo (st i).lk fz) (st i).nx nbs:=by rw[h2,jZ]
    let ns:List Hd:=((abc nbs.length).map fun j=>Hd.O ((st i).nx+j)).filter (fun h=>decide (h∈hs));obtain⟨G2,k1,k2,k3⟩:=hS1.freeze ns;refine⟨G2,k1.congr (fun h hh1=>?_),rfl,.same rfl rfl,rfl,me _,fun _ _ _=>rfl,fun b hb hnb o=>k3 b (fun h gk sz e=>?_) o,k2⟩
    ·by_cases hc:∃j,j<nbs.length/\h=.O ((st i).nx+j)
     ·obtain⟨j,hj,rfl⟩:=hc;have e1:(st p).lk (.O ((st i).nx+j))=if Hd.O ((st i).nx+j)∈hs then((st (i+1)).lk (.O ((st i).nx+j))).map bn.jo else(st (i+1)).lk (.O ((st i).nx+j)):=
       hh _ (fun k a1 _ e=>by cases e;omega)
      have e2:(st (i+1)).lk (.O ((st i).nx+j))=ij (fo (st p).lk fz) (st i).nx nbs (.O ((st i).nx+j)):=by rw[hnew1];simp only[ij];rw[if_pos ⟨by omega,by omega⟩,if_pos ⟨by omega,by omega⟩]
      have e3:(Hd.O ((st i).nx+j)∈ns)↔Hd.O ((st i).nx+j)∈hs:=by simp only[ns,ξ,aaS,abG,decide_eq_true_eq];exact⟨fun h=>h.2,fun h=>⟨⟨j,hj,rfl⟩,h⟩⟩
      unfold fo at*;rw[e1,e2];by_cases e4:Hd.O ((st i).nx+j)∈hs
      ·rw[if_pos e4,if_pos (e3.2 e4)]
      ·rw[if_neg e4,if_neg (fun h=>e4 (e3.1 h))]
     ·have hc':∀j,j<nbs.length->h≠.O ((st i).nx+j):=fun j hj e=>hc ⟨j,hj,e⟩;have hns:h∉ns:=fun gk=>by simp only[ns,ξ,aaS,abG]at gk;obtain⟨⟨j,hj,rfl⟩,_⟩:=gk;exact hc' j hj rfl
      have e1:ij (fo (st p).lk fz) (st i).nx nbs h=fo (st p).lk fz h:=by
       cases h with
       |B j=>rfl
       |O j=>
        simp only[ij];rw[if_neg (fun hcc=>hc' (j-(st i).nx) (by omega) (by rw[show(st i).nx+(j-(st i).nx)=j by omega]))]
      show(st p).lk h=fo (ij (fo (st p).lk fz) (st i).nx nbs) ns h;have e2:fo (ij (fo (st p).lk fz) (st i).nx nbs) ns h=ij (fo (st p).lk fz) (st i).nx nbs h:=by show(if h∈ns then _ else _)=_;rw[if_neg hns]
      rw[e2,e1];show(st p).lk h=if h∈fz then((st p).lk h).map bn.jo else(st p).lk h
      by_cases e3:h∈fz
      ·rw[if_pos e3];have hex:=h5 h e3;obtain⟨b,hb⟩:=aa5.1 hex;have hsmall:∀j,(st i).nx<=j->h≠.O j:=fun j a1 e=>by subst e;have:(st i).own j=some b:=hb;rw[hnone i (acn hlt) j a1]at this;cases this
       have e4:(st (i+1)).lk h=(some b).map bn.jo:=by
        rw[hnew1];have:ij (fo (st i).lk fz) (st i).nx nbs h=fo (st i).lk fz h:=by
         cases h with
         |B j=>rfl
         |O j=>simp only[ij];rw[if_neg (fun hcc=>hsmall j hcc.1 rfl)]
        rw[this];show(if h∈fz then((st i).lk h).map bn.jo else(st i).lk h)=_;rw[if_pos e3,hb]
       have e5:=hh h (fun j a1 _=>hsmall j (by omega));rw[e4]at e5;rw[e5];split<;>simp[bn.lz]
      ·rw[if_neg e3]
    ·simp only[ns,ξ,aaS,abG]at gk;obtain⟨⟨j,hj,rfl⟩,_⟩:=gk;exact hnb (.inl (hnew j _ b hj e (aai.2 rfl)))
  obtain⟨G2,hS2,hF2⟩:=hfin;have hF12:Fr (Own E.m0) (Own E.m0) E.G0 G2 E.w0 w':=by
   have hO:∀b,b<E.w0.heap.size->Own m b->Own E.m0 b:=fun b hb ⟨y,l,hy,hl⟩=>by
    rcases hown y l b hy hl with h|h
    ·omega
    ·exact h
   refine(hframe.step hF1 (fun _ _ q=>q.elim) hO).step hF2 (fun _ _ q=>q.elim) (fun b hb q=>?_);rcases q with q|q
   ·have:=hframe.size;omega
   ·exact hO b hb q
  refine forRest he hiep hS2 hF12 (hF1.keep fun b q=>q.elim) (hF1.le.trans hF2.le) hm1 (fun b hb hno=>⟨hF1.heap b hb (fun q=>q),fun o=>?_⟩) (fun b hb hno ⟨y,l,hy,hl⟩=>?_) (fun j=>hold _ (fun _ _ e=>by cases e)) (fun j hj=>hold _ (fun k hk e=>by cases e;omega)) (fun x l b hj hl=>?_) (fun d hd=>?_)
  ·have hb1:b<w'.heap.size:=aa6 hb hF1.size;rw[hF2.gh b hb1 (fun q=>q.elim (fun q=>by omega) hno) o];exact hF1.gh b hb hno o
  ·by_cases hc:∃k,k<nbs.length/\y=.O ((st i).nx+k)
   ·obtain⟨k,hk,rfl⟩:=hc;have:=hnew k l b hk hy hl;omega
   ·rw[hold y (fun k hk e'=>hc ⟨k,hk,e'⟩)]at hy;exact hno ⟨_,l,hy,hl⟩
  ·by_cases hc:∃k,k<nbs.length/\x=.O ((st i).nx+k)
   ·obtain⟨k,hk,rfl⟩:=hc;exact .inl (aaG hframe.size (hnew k l b hk hj hl))
   ·rw[hold x (fun k hk e=>hc ⟨k,hk,e⟩)]at hj;exact hown x l b hj hl
  ·refine AV.aq.mono hF2.le (HM.le.refl m1) _ _ ?_;rw[h2];show AV.aq G1 m1 (dE (st i).env (r i).dst x d) v;rw[hd];show AV.aq G1 m1 (gb (st i).env d x d) v;unfold gb;rw[if_pos rfl];exact hr1
end
theorem Qj{α:Type}{p p':α->Bool}:∀{l:List α},(∀x∈l,p' x=true->p x=true)->(∃x∈l,p x=true/\p' x=false)->l.countP p'<l.countP p
 |[],_,h=>by obtain⟨x,hx,_⟩:=h;simp at hx
 |y::l,h1,h2=>by
  have hle:l.countP p'<=l.countP p:=List.countP_mono_left (fun x hx=>h1 x (by simp[hx]));obtain⟨x,hx,hp,hp'⟩:=h2;rcases ω.1 hx with rfl|hx
  ·simp[hp,hp'];omega
  ·have ih:=Qj (fun z hz=>h1 z (by simp[hz])) ⟨x,hx,hp,hp'⟩;rw[List.countP_cons,List.countP_cons];have:=h1 y (by simp);cases e1:p y<;>cases e2:p' y<;>simp_all<;>omega
theorem zM{rd:Option Nat}{P:Program}{md:Region.Mode}{ops:Array Oper}{Q:Exit->Act->World->Prop}(I:Array Bool->Act->World->Prop)(hsz:∀listed a w,I listed a w->listed.size=ops.size)
  (hstep:∀listed a w i,I listed a w->i∈Region.ready md ops listed->wpOpIn (FR rd) 0 P ops Q i (I (listed.setIfInBounds i true)) a w) (hend:∀listed a w,I listed a w->Region.ready md ops listed=[]->Q .normal a w):
  ∀(fuel:Nat) (listed:Array Bool) (a:Act) (w:World),(abc ops.size).countP (fun j=>!listed.getD j true)<=fuel->I listed a w->wpAnyIn (FR rd) 0 P md ops Q fuel listed a w
 |0,listed,a,w,hc,hI=>by
  have hr:Region.ready md ops listed=[]:=by rw[List.eq_nil_iff_forall_not_mem];intro i hi;obtain⟨h1,o,h2,_⟩:=mem_ready.1 hi;have hlt:i<ops.size:=(aad.1 h2).1;have:0<(abc ops.size).countP (fun j=>!listed.getD j true):=List.countP_pos_iff.2 ⟨i,by simpa using hlt,by simp[h1]⟩;omega
  exact⟨hr,hend _ _ _ hI hr⟩
 |fuel+1,listed,a,w,hc,hI=>by
  refine⟨fun hr=>hend _ _ _ hI hr,fun i hi=>?_⟩;obtain⟨h1,o,h2,_⟩:=mem_ready.1 hi;have hlt:i<ops.size:=(aad.1 h2).1;refine wpOpIn_mono (fun a' w' h=>zM I hsz hstep hend fuel _ a' w' ?_ h) (hstep _ _ _ i hI hi);have hil:i<listed.size:=by rw[hsz _ _ _ hI];exact hlt
  have:(abc ops.size).countP (fun j=>!(listed.setIfInBounds i true).getD j true)<(abc ops.size).countP (fun j=>!listed.getD j true):=by
   refine Qj (fun j _ hj=>?_) ⟨i,by simpa using hlt,by simp[h1],by simp[hil]⟩;by_cases e:i=j
   ·subst e;simp[hil]at hj
   ·simpa only[aaA,abR e]using hj
  omega
theorem Ua{r:Nat->RO}(hst:∀i,i<ops.size->∃o,ops[i]?=some o/\fm P ops N o (r i)/\eo P o (r i) (st i) (st (i+1)))(hN:E.N=N):(st (xN r E.N ops.size)).env E.N=(st 0).env E.N:=by
 have:xN r E.N ops.size=0:=by
  rcases(rI r E.N ops.size).1 with h|⟨k,hk,_,hd⟩
  ·exact h
  ·exfalso;obtain⟨o,_,hres,_⟩:=hst k hk;have h9:E.N<N:=hres.lt E.N (by rw[<-hres.dst];exact hd);rw[hN]at h9;exact acs _ h9
 rw[this]
theorem JF{r:Nat->RO}(hm:P.follows .mixedOrders=true)(hD:nu ops r e)(hst:∀i,i<ops.size->∃o,ops[i]?=some o/\fm P ops N o (r i)/\eo P o (r i) (st i) (st (i+1)))
  (hstab:∀i x,i<ops.size->(r i).op.mw=some x->∀h,((st i).ev x).mu=some h->∀q,q<=ops.size->(∀j,j<q->(r j).op.fu=true->¬jh ops i j=true)->dv (CM (r i).op) ((st i).lk h) ((st q).lk h))
 {Q:Exit->an->Prop} (hN:E.N=N) (hst0:st 0=s) (hK':Q .normal (st ops.size)) (hA:df E s a w):(Code.region id ops true).wpIn (FR rd) 0 P (AS E Q) a w:=by
 obtain⟨G,m,hA⟩:=hA;have h0:∀j,(st 0).nx<=j->(st 0).own j=none:=by rw[hst0];exact hA.iv
 have hfresh:∀j,(st 0).nx<=j->m (.O j)=none:=by rw[hst0];exact hA.fresh
 refine wpIn_region_any hm (zM (Inv P ops r st e E) (fun _ _ _ hI=>hI.size) (fun listed a w i hI hi=>Y3 hst hD h0 hstab hN hI hi) (fun listed a w hI hr=>?_) _ _ _ _ ?_ ?_)
 ·
  obtain⟨hsize,hclosed,G,m,p,hpn,hp1,hp2,hS,htm,hasz,hdef,hfr1,hfr2,hframe,hbase,hown,_⟩:=hI;have hall:∀j,j<ops.size->listed.getD j false=true:=by
   intro j
   induction j using abH with
   |_ j ih=>
    intro hj;cases hl:listed.getD j false with
    |true=>rfl
    |false=>
     exfalso;have hjs:j<listed.size:=by rw[hsize];exact hj
     have:j∈Region.ready .any ops listed:=mem_ready.2 ⟨by simp[hjs]at hl|-;exact hl,ops[j],by simp[hj],fun e he hb=>by
      have gk:e.on∈eL ops j:=by unfold eL;rw[show ops[j]?=some ops[j] by simp[hj]];exact aaS.2 ⟨e,ξ.2 ⟨by simpa using he,hb⟩,rfl⟩
      have hlt:=hD.lt j hj _ gk;exact ih e.on hlt (by omega)⟩
     rw[hr]at this;cases this
  have hp:p=ops.size:=by
   rcases aaV p ops.size with h|h
   ·have:=(hp2 h).2;rw[hall p h]at this;cases this
   ·omega
  subst hp;refine⟨_,hK',G,m,hS,fun t=>?_,hasz,hdef.1,(by rw[<-Eu hst E.N ops.size (me _),Ua hst hN];exact hdef.2),hfr2,hframe,hbase,hown,hA.qq,HX hst h0 _ (me _)⟩;rw[<-Eu hst t ops.size (me _)];obtain⟨g1,g2⟩:=rI r t ops.size;exact htm t _ ⟨zP r t _,g1.imp (fun x=>x) fun⟨k,a,b,c⟩=>⟨k,b,hall k a,c⟩,fun j a b _=>g2 j a b⟩ (fun hq=>by have:=zP r t ops.size;omega)
 ·refine aaG List.countP_le_length (by simp)
 ·obtain⟨p,hp1,hp2,hp3,hp4⟩:=Hr r ops.size ops.size 0 (by omega);have hS0:cf G m (st 0).lk w.drew:=by rw[hst0];exact hA.ew.drew
  obtain⟨G2,hS2,hF2⟩:=Pg hst (Nat.zero_le p) hp2 (fun j a b=>hp3 j a b) (fun j a _=>hfresh j a) hS0;have hf:∀j,(abl ops.size false).getD j false=false:=fun j=>by
   rcases aaV j ops.size with h|h
   ·simp[h]
   ·simp[h]
  refine⟨by simp,(fun j _ h=>by rw[hf]at h;cases h),G2,m,p,hp2,(fun j a b=>by rw[hp3 j (Nat.zero_le _) a]at b;cases b),fun h=>⟨hp4 h,hf p⟩,hS2,fun t q hv _=>?_,hA.size,⟨hA.defers.keep fun _ _ h _=>h,by rw[hst0];exact E.iy _ _ _ hA.ki fun _ _ h _=>h⟩,
   fun k hk _ j a _=>hfresh j (aaG (by have:=vB hst k 0 (by omega);simpa using this) a),fun j a=>hfresh j (aaG (by have:=vB hst ops.size 0 (by omega);simpa using this) a),?_,hA.base,hA.own,fun _ h _=>by rw[hf]at h;cases h⟩
  ·rcases hv.AB with rfl|⟨k,_,hk,_⟩
   ·rw[hst0];exact AV.aq.mono hF2.le (HM.le.refl m) _ _ (hA.env t)
   ·rw[hf]at hk;cases hk
  ·have hd:Fr (Own E.m0) (Own E.m0) E.G0 G E.w0 w.drew:=⟨hA.frame.os,hA.frame.tape.drew,hA.frame.output,hA.frame.size,hA.frame.heap,hA.frame.gh,hA.frame.le⟩;exact hd.step hF2 (fun _ _ q=>q.elim) (fun b hb q=>hA.gq hb q)
def si:bu->Bool
 |.loadS _ _=>true
 |.faddrS _ _=>true
 |.nilcS _=>true
 |.lenS _ _=>true
 |.sllS _ _ _ _ _=>true
 |.slsA _ _ _ _=>true
 |.arrP _ _=>true
 |_=>false
theorem Qe(h:op.mw=some x):si op=true:=by cases op<;>first|rfl|(cases h;done)
def Lq(ros:List RO):Bool:=ros.any fun r=>si r.op
theorem bx.draw(hm:P.follows .mixedOrders=true)(h:yB P ops N ops.toList ros)(hd:B6 ops ros=true)(hs:Lq ros=false):bx P N (.region id ops true) (.reg true ros):=fun rd Y E Q s a w hY hN hc hA=>by
 obtain⟨st,hst0,hlen,hK,hsteps⟩:=FP h hc;have hlen':ros.length=ops.size:=by simpa using hlen
 have hget:∀i,i<ops.size->ros[i]?=some (ros.getD i default):=fun i hi=>by rw[aam,ν (by omega)];rfl
 refine JF (r:=fun i=>ros.getD i default) hm (OL hd) (fun i hi=>?_) (fun i x hi he=>?_) hN hst0 (by simpa using hK) hA
 ·obtain⟨g1,g2⟩:=hsteps i ops[i] _ (by simp[hi]) (hget i hi);exact⟨_,by simp[hi],g1,g2⟩
 ·exfalso;have:=List.any_eq_false.1 hs _ (aar (hget i hi));exact this (Qe he)
def Al(ops:Array Oper)(ros:List RO):Bool:=(ros.getD (ops.size-1) default).op.fu&&(abc ops.size).all fun i=>!si (ros.getD i default).op||jh ops i (ops.size-1)
theorem bx.Bi(hm:P.follows .mixedOrders=true)(h:yB P ops N ops.toList ros)(hd:B6 ops ros=true):bx P N (.region id ops true) (.regS (Al ops ros) ros):=fun rd Y E Q s a w hY hN hc hA=>by
 obtain⟨hs,hc⟩:=hc;obtain⟨st,hst0,hlen,hK,hkeep,hsteps⟩:=JW h hc;have hlen':ros.length=ops.size:=by simpa using hlen
 have hget:∀i,i<ops.size->ros[i]?=some (ros.getD i default):=fun i hi=>by rw[aam,ν (by omega)];rfl
 have hall:∀x,x∈hs->∀q,q<=ops.size->(Al ops ros=false\/q<ops.size)->dv (Hx ros) ((st 0).lk x) ((st q).lk x):=fun x hx q=>by
  induction q with
  |zero=>exact fun _ _=>dv.refl _ _
  |succ q ih=>exact fun hq hl=>(ih (by omega) (hl.imp (fun x=>x) fun h=>by omega)).trans (hkeep q (by rw[aby];omega) (hl.imp (fun x=>x) fun h=>by rw[aby];omega) x hx)
 refine JF (r:=fun i=>ros.getD i default) hm (OL hd) (fun i hi=>?_) (fun i x hi he=>?_) hN hst0 (by simpa using hK) hA
 ·obtain⟨g1,g2,_⟩:=hsteps i ops[i] _ (by simp[hi]) (hget i hi);exact⟨_,by simp[hi],g1,g2⟩
 ·obtain⟨_,_,g3⟩:=hsteps i ops[i] _ (by simp[hi]) (hget i hi);intro h hx q hq hbe;have he':(ros.getD i default).op.mw=some x:=he;have hl:∀k,k<=ops.size->(∀j,j<k->(ros.getD j default).op.fu=true->¬jh ops i j=true)->Al ops ros=false\/k<ops.size:=fun k hk hb=>by
   cases e:Al ops ros with
   |false=>exact .inl rfl
   |true=>
    refine .inr (adx hk fun ek=>?_);unfold Al at e;rw[μ,aa1]at e;have:=e.2 i (abG.2 hi);rw[Qe he']at this;exact hb (ops.size-1) (by omega) e.1 (by simpa using this)
  unfold B0 at g3;simp only[he']at g3;have gk:=g3 h hx;exact((hall h gk i (by omega) (.inr hi)).symm.trans (hall h gk q hq (hl q hq hbe))).Ii fun e=>List.any_eq_true.2 ⟨_,aar (hget i hi),e⟩
def ti(r:RO):Bool:=
 r.guard.isNone&&match r.op with
 |.callP _ _=>true
 |.ny _=>false
 |op=>!op.ht&& !op.fu&& !si op
def ym:bu->Bool
 |.callP _ _=>true
 |_=>false
def A2(ops:Array Oper)(σ:List Nat)(ros:List RO):Bool:=
 (abc ops.size).all (fun j=>(eL ops j).all fun e=>decide (e<j))&&
 decide (σ.length=ops.size)&&σ.all (fun i=>decide (i<ops.size))&&(abc ops.size).all (fun i=>σ.contains i)&&ros.all ti&&
 (abc ops.size).all fun q=>(abc ops.size).all fun p=>
  (!(decide (p<q))||(!jh ops (σ.getD q 0) (σ.getD p 0)&& !(σ.getD p 0==σ.getD q 0)&&(!ym (ros.getD p default).op||jh ops (σ.getD p 0) (σ.getD q 0))&&((ros.getD p default).dst.isNone|| !((ros.getD p default).dst==(ros.getD q default).dst))))&&
  (match(ros.getD p default).dst with
  |some d=>!(C7 (ros.getD q default).op.operands).contains d||jh ops (σ.getD p 0) (σ.getD q 0)
  |none=>true)
structure Bl (ops:Array Oper) (g:Nat->Nat) (r:Nat->RO):Prop where
 lt:∀j,j<ops.size->∀e∈eL ops j,e<j
 bd:∀p,p<ops.size->g p<ops.size
 sur:∀i,i<ops.size->∃p,p<ops.size/\g p=i
 pure:∀p,p<ops.size->ti (r p)=true
 ord:∀p q,p<q->q<ops.size->¬jh ops (g q) (g p)=true
 inj:∀p q,p<q->q<ops.size->g p≠g q
 call:∀p q,p<q->q<ops.size->ym (r p).op=true->jh ops (g p) (g q)=true
 dst:∀p q,p<q->q<ops.size->∀d,(r p).dst=some d->(r q).dst≠some d
 use:∀p q,p<ops.size->q<ops.size->∀d,(r p).dst=some d->d∈C7 (r q).op.operands->jh ops (g p) (g q)=true
theorem VE(hl:ros.length=ops.size)(h:A2 ops σ ros=true):Bl ops (fun p=>σ.getD p 0) (fun p=>ros.getD p default):=by
 unfold A2 at h;simp only[μ,aa1,abG,decide_eq_true_eq]at h;obtain⟨⟨⟨⟨⟨h1,h2⟩,h3⟩,h4⟩,h5⟩,h6⟩:=h;have hg:∀p,p<ops.size->σ[p]?=some (σ.getD p 0):=fun p hp=>by rw[aam,ν (by omega)];rfl
 have hr:∀p,p<ops.size->ros[p]?=some (ros.getD p default):=fun p hp=>by rw[aam,ν (by omega)];rfl
 refine⟨h1,fun p hp=>h3 _ (aar (hg p hp)),fun i hi=>?_,fun p hp=>h5 _ (aar (hr p hp)),fun p q a b hc=>?_,fun p q a b hc=>?_,fun p q a b hc=>?_,fun p q a b d hd he=>?_,fun p q a b d hd he=>?_⟩
 ·have:=h4 i hi;rw[ada,decide_eq_true_eq]at this;obtain⟨p,hp,e⟩:=adb.1 this;exact⟨p,by omega,by show σ.getD p 0=i;rw[aam,ν hp];exact e⟩
 ·have:=(h6 q b p (by omega)).1;simp only[a,decide_true,aaQ,acd,μ,aaY]at this;rw[this.1.1.1]at hc;cases hc
 ·have:=(h6 q b p (by omega)).1;simp only[a,decide_true,aaQ,acd,μ,aaY]at this;have h7:=this.1.1.2;rw[beq_eq_false_iff_ne]at h7;exact h7 hc
 ·have:=(h6 q b p (by omega)).1;simp only[a,decide_true,aaQ,acd,μ,aaY,abx]at this;exact this.1.2.resolve_left (by show¬ym (ros.getD p default).op=false;rw[show ym (ros.getD p default).op=true from hc];simp)
 ·have:=(h6 q b p (by omega)).1;simp only[a,decide_true,aaQ,acd,μ,aaY,abx]at this;have hd':(ros.getD p default).dst=some d:=hd;have he':(ros.getD q default).dst=some d:=he;have:=this.2;rw[hd',he']at this;simp at this
 ·have:=(h6 q b p a).2;have hd':(ros.getD p default).dst=some d:=hd;rw[hd']at this;simp only[abx,aaY]at this;refine this.resolve_left fun e=>?_;rw[ada,decide_eq_false_iff_not]at e;exact e he
inductive DStep (P:Program) (o:Oper) (ro:RO) (s s':an):Prop
 |pure (hc:ym ro.op=false) (h:eo P o ro s s')
 |call (f:Operand) (args:List Operand) (fn:FuncId) (caps:List AV) (r:AV) (h1:ro.op=.callP f args) (h2:s.ev f=.clo fn caps) (h3:AV.flat r=true) (h4:de P fn (AV.bq s.lk (fun _=>none) (args.map s.ev++caps)) [] r [] []) (h5:s'=s.put ro.dst r [] [])
def GQ(P:Program)(ro:RO)(s:an)(v:Value):Prop:=
 ∃f args fn caps,ro.op=.callP f args/\s.ev f=.clo fn caps/\wj P fn (AV.bq s.lk (fun _=>none) (args.map s.ev++caps)) v
theorem OV{P:Program}{ops:Array Oper}{N:Nat}:∀{os:List Oper} {ros:List RO} {s:an} {K:an->Prop} {Pn:Value->an->Prop},yB P ops N os ros->(∀r∈ros,ti r=true)->rQ P true ros s K Pn->
  ∃(st:Nat->an) (k:Nat),st 0=s/\ros.length=os.length/\k<=os.length/\(∀(i:Nat) (o:Oper) (r:RO),os[i]?=some o->ros[i]?=some r->fm P ops N o r/\(i<k->DStep P o r (st i) (st (i+1))))/\
   ((k=os.length/\K (st k))\/∃r v,ros[k]?=some r/\GQ P r (st k) v/\Pn v (st k))
 |[],[],s,K,Pn,_,_,h=>⟨fun _=>s,0,rfl,rfl,me _,fun i o r hi=>by simp at hi,.inl ⟨rfl,h⟩⟩
 |[],_::_,_,_,_,hr,_,_=>hr.elim
 |_::_,[],_,_,_,hr,_,_=>hr.elim
 |o::os,r::ros,s,K,Pn,hr,hd,h=>by
  obtain⟨h1,h2⟩:=hr;have hlens:∀(os:List Oper) (ros:List RO),yB P ops N os ros->ros.length=os.length:=fun os=>by
   induction os with
   |nil=>intro ros h;cases ros with
    |nil=>rfl
    |cons _ _=>exact h.elim
   |cons _ _ ih=>intro ros h;cases ros with
    |nil=>exact h.elim
    |cons _ _=>simp[ih _ h.2]
  have hlen:=hlens _ _ h2;have hres:∀(os:List Oper) (ros:List RO),yB P ops N os ros->∀(i:Nat) (o:Oper) (r:RO),os[i]?=some o->ros[i]?=some r->fm P ops N o r:=fun os=>by
   induction os with
   |nil=>intro ros _ i o r hi;simp at hi
   |cons o' os ih=>
    intro ros h i o r hi hi';cases ros with
    |nil=>exact h.elim
    |cons r' ros=>match i with
     |0=>simp at hi hi';subst hi;subst hi';exact h.1
     |i+1=>exact ih ros h.2 i o r (by simpa using hi) (by simpa using hi')
  have go:∀s',rQ P true ros s' K Pn->DStep P o r s s'->∃(st:Nat->an) (k:Nat),st 0=s/\(r::ros).length=(o::os).length/\k<=(o::os).length/\(∀(i:Nat) (o':Oper) (r':RO),(o::os)[i]?=some o'->(r::ros)[i]?=some r'->fm P ops N o' r'/\(i<k->DStep P o' r' (st i) (st (i+1))))/\
   ((k=(o::os).length/\K (st k))\/∃r' v,(r::ros)[k]?=some r'/\GQ P r' (st k) v/\Pn v (st k)):=fun s' hs' hstep=>by
   obtain⟨st,k,g1,g2,g3,g4,g5⟩:=OV h2 (fun x hx=>hd x (by simp[hx])) hs';refine⟨fun i=>match i with|0=>s|i+1=>st i,k+1,rfl,by simp[g2],by simpa using g3,fun i o' r' hi hi'=>?_,?_⟩
   ·match i with
    |0=>
     simp at hi hi';subst hi;subst hi';refine⟨h1,fun _=>?_⟩;show DStep P o r s (st 0);rw[g1];exact hstep
    |i+1=>
     obtain⟨q1,q2⟩:=g4 i o' r' (by simpa using hi) (by simpa using hi');exact⟨q1,fun h=>q2 (by omega)⟩
   ·rcases g5 with⟨e,hK⟩|⟨r',v,e,hp,hK⟩
    ·exact .inl ⟨by simp[e],hK⟩
    ·exact .inr ⟨r',v,by simpa using e,hp,hK⟩
  unfold rQ at h;split at h
  ·rename_i f args heq;obtain⟨hg,fn,caps,hf,h⟩:=h;rcases h with⟨rr,nbs,hfl,hcall,hK⟩|⟨pv,hpan,hK⟩
   ·obtain⟨hf2,rfl⟩:=hfl rfl;refine go _ hK (.call f args fn caps rr heq hf hf2 hcall ?_);rw[AV.kq rr hf2,if_pos ⟨hf2,rfl⟩];rfl
   ·refine⟨fun _=>s,0,rfl,by simp[hlen],by simp,fun i o' r' hi hi'=>⟨?_,fun h=>absurd h (Nat.not_lt_zero i)⟩,.inr ⟨r,pv,rfl,⟨f,args,fn,caps,heq,hf,hpan⟩,hK⟩⟩;exact hres (o::os) (r::ros) ⟨h1,h2⟩ i o' r' hi hi'
  ·rename_i x heq;have:=hd r (by simp);unfold ti at this;rw[heq]at this;simp at this
  ·obtain⟨s',hK,hs⟩:=M3 h1 h;exact go s' hK (.pure (by
    rename_i hne _;cases e:r.op with
    |callP f args=>exact absurd e (hne f args)
    |_=>rfl) hs)
theorem OK(hd:ti ro=true)(hc:ym ro.op=false):ro.guard=none/\ro.op.ht=false/\ro.op.fu=false:=by
 unfold ti at hd;rw[μ,ab9]at hd;obtain⟨hg,hd⟩:=hd;refine⟨hg,?_⟩;split at hd
 ·rename_i e;rw[e]at hc;cases hc
 ·cases hd
 ·simp only[μ,aaY]at hd;exact⟨hd.1.1,hd.1.2⟩
theorem DStep.put{P:Program}{o:Oper}{ro:RO}{s s':an}(hd:ti ro=true)(h:DStep P o ro s s'):∃x,s'=s.put ro.dst x [] []:=by
 cases h with
 |call f args fn caps r h1 h2 h3 h4 h5=>exact⟨r,h5⟩
 |pure hc h=>
  obtain⟨hg,hht,heff⟩:=OK hd hc;cases h with
  |skip h1 h2=>exact⟨_,h2⟩
  |fu h1 he h2=>rw[he]at heff;cases heff
  |run h1 he x nbs fz h2 h3 h5 h4 h6=>
   obtain⟨rfl,rfl⟩:=h3 hht;exact⟨x,h2⟩
theorem SQ{s2:an}{l:List Operand}(h:∀t∈C7 l,s2.env t=s.env t):∀x∈l,s2.ev x=s.ev x:=fun x hx=>by
 cases x with
 |tmp t=>exact h t (List.mem_filterMap.2 ⟨_,hx,rfl⟩)
 |_=>rfl
theorem DStep.sound{s2:an}(hr:fm P ops E.N o ro)(hd:ti ro=true)(h:DStep P o ro s s')(hlk:s2.lk=s.lk)
  (hev:∀x∈ro.op.operands,s2.ev x=s.ev x) (hA:df E s2 a w) (hQ:∀x a' w',s'=s.put ro.dst x [] []->df E (s2.put ro.dst x [] []) a' w'->next a' w'):o.wpIn (FR rd) 0 P a w next Q:=by
 obtain⟨G,m,hA'⟩:=hA;cases h with
 |call f args fn caps r h1 h2 h3 h4 h5=>
  obtain e0|⟨b,op0,hop,hmk⟩:=hr.op
  ·rw[h1]at e0;cases e0
  rw[h1]at hmk;rcases F5 hmk with e|e
  case inr=>rw[e]at hop;exact(H6 hop).elim
  rw[e]at hop;obtain⟨c,ho,hc,rfl⟩:=yF hop;have hxs:=hr.xs;rw[h1]at hxs hev;have hrf:=hA'.oc f (hxs f (by simp[bu.operands]));rw[hev f (by simp[bu.operands]),h2]at hrf;unfold AV.aq at hrf;obtain⟨vs,hv,hcaps⟩:=hrf;have hargs:AV.bb G m (c.args.toList.map s.ev) (c.args.toList.map a.eval):=AV.gn (fun x hx=>by
   have hx':x∈(bu.callP f c.args.toList).operands:=by simp only[bu.operands,ω];exact .inr hx
   rw[<-hev x hx'];exact hA'.oc x (hxs x hx'))
  have hrep:AV.bb G m (c.args.toList.map s.ev++caps) (c.args.map a.eval++vs).toList:=by rw[abj,abm];exact AV.cw hargs hcaps
  have hS:=hA'.ew;refine oN (C4 ho hc hv (E1 (ks:=[]) (n:=s2.nx) h4 (ct.refl _) (hlk▸hS) hrep (fun j hj=>by simp at hj))) fun v w' hp=>?_;refine hQ r _ _ h5 ?_;rw[AV.kq r h3,if_pos ⟨h3,rfl⟩,<-hlk]at hp;rw[hr.dst];exact hA'.step (dst:=o.dst) hr.lt hp
 |pure hcp h=>
  obtain⟨hg,hht,heff⟩:=OK hd hcp;cases h with
  |skip h1 h2=>
   unfold zT at h1;rw[hg]at h1;exact h1.elim
  |fu h1 he h2=>rw[he]at heff;cases heff
  |run h1 he x nbs fz h2 h3 h5 h4 h6=>
   obtain⟨rfl,rfl⟩:=h3 hht;have hneed:kz ro.op s.ev s.lk s2.lk:=by rw[hlk];exact kz.refl _ _ _
   refine oN (h4 G m w a.eval (fun v=>rfl) s2.lk hneed hA'.ew (fun y hy=>by rw[<-hev y hy];exact hA'.oc y (hr.xs y hy)) (fun j hj=>by simp at hj)) fun v w' hp=>?_;refine hQ x _ _ h2 ?_;rw[hr.dst];refine hA'.step (dst:=o.dst) hr.lt ?_;obtain⟨G',m',p1,p2,p3,p4,p5⟩:=hp;exact⟨G',m',by rw[iL]at p1|-;exact p1,p2,p3,fun h hh=>p4 h (fun j hj=>by simp at hj),fun j b sz hj=>by simp at hj⟩
theorem Me:∀(ros:List RO) (s:an),(ss ros s).bs=s.bs/\(ss ros s).own=s.own/\(ss ros s).nx=s.nx/\∀t,((∃r∈ros,r.dst=some t)/\(ss ros s).env t=.any)\/((∀r∈ros,r.dst≠some t)/\(ss ros s).env t=s.env t)
 |[],s=>⟨rfl,rfl,rfl,fun t=>.inr ⟨fun r h=>(by cases h),rfl⟩⟩
 |r::ros,s=>by
  obtain⟨h1,h2,h3,h4⟩:=Me ros (s.put r.dst .any [] []);refine⟨h1,h2,h3,fun t=>?_⟩;rcases h4 t with⟨⟨x,hx,hd⟩,h⟩|⟨h,h'⟩
  ·exact .inl ⟨⟨x,by simp[hx],hd⟩,h⟩
  ·by_cases e:r.dst=some t
   ·refine .inl ⟨⟨r,by simp,e⟩,h'.trans ?_⟩;show dE s.env r.dst .any t=_;rw[e];simp[dE,gb]
   ·refine .inr ⟨fun x hx=>?_,h'.trans ?_⟩
    ·rcases ω.1 hx with rfl|hx
     ·exact e
     ·exact h x hx
    ·show dE s.env r.dst .any t=_;cases hd:r.dst with
     |none=>rfl
     |some d=>simp only[dE,gb];rw[if_neg (fun e'=>e (by rw[hd,e']))]
theorem df.less(h:df E s a w)(h1:s'.bs=s.bs)(h2:s'.own=s.own)(h3:s'.nx=s.nx)(h4:∀t,s'.env t=s.env t\/(t<E.N/\s'.env t=.any)):df E s' a w:=by
 obtain⟨G,m,h⟩:=h;have hlk:s'.lk=s.lk:=by funext x;cases x<;>simp[an.lk,h1,h2]
 refine⟨G,m,by rw[hlk];exact h.ew,fun t=>?_,h.size,h.defers,?_,by rw[h3];exact h.fresh,h.frame,h.base,h.own,h.qq,by rw[h3,h2];exact h.iv⟩
 ·rcases h4 t with e|⟨_,e⟩
  ·rw[e];exact h.env t
  ·rw[e];unfold AV.aq;trivial
 ·rcases h4 E.N with e|⟨e,_⟩
  ·rw[e];exact h.ki
  ·exact absurd e (acs _)
def zf(k:Nat)(g:Nat->Nat)(r:Nat->RO)(L:Nat->Prop)(t:Nat):Prop:=∃p,p<k/\L (g p)/\(r p).dst=some t
noncomputable def SL(st:Nat->an)(k:Nat)(g:Nat->Nat)(r:Nat->RO)(L:Nat->Prop):an:=
 {st 0 with env:=fun t=>@ite _ (zf k g r L t) (acW _) ((st k).env t) ((st 0).env t)}
theorem Bh{r:Nat->RO}(h:zf k g r L t):(SL st k g r L).env t=(st k).env t:=by show@ite _ _ (acW _) _ _=_;exact if_pos h
theorem z8{r:Nat->RO}(h:¬zf k g r L t):(SL st k g r L).env t=(st 0).env t:=by show@ite _ _ (acW _) _ _=_;exact if_neg h
theorem ZF{r:Nat->RO}(hm:P.follows .mixedOrders=true)(hD:Bl ops g r)(hk:k<=ops.size)
  (hst:∀p,p<ops.size->∃o,ops[g p]?=some o/\fm P ops N o (r p)/\(p<k->DStep P o (r p) (st p) (st (p+1)))) (hros:∀p,p<ops.size->r p∈ros) (hros2:∀x∈ros,∃p,p<ops.size/\x=r p)
 {Q:Exit->an->Prop} (hN:E.N=N) (hst0:st 0=s)
  (hK:(k=ops.size/\Q .normal (st k))\/(k<ops.size/\∃v,GQ P (r k) (st k) v/\Q (.panic [{v:=v,recovered:=false}]) (ss ros (st k)))) (hA:df E s a w):(Code.region id ops true).wpIn (FR rd) 0 P (AS E Q) a w:=by
 subst hN;have hput:∀p,p<k->∃x,st (p+1)=(st p).put (r p).dst x [] []:=fun p hp=>by obtain⟨o,_,_,h⟩:=hst p (by omega);exact(h hp).put (hD.pure p (by omega))
 have hblk:∀p,p<=k->(st p).bs=(st 0).bs/\(st p).own=(st 0).own/\(st p).nx=(st 0).nx:=fun p=>by
  induction p with
  |zero=>exact fun _=>⟨rfl,rfl,rfl⟩
  |succ p ih=>
   intro hp;obtain⟨h1,h2,h3⟩:=ih (by omega);obtain⟨x,e⟩:=hput p (by omega);rw[e];exact⟨h1,h2,h3⟩
 have hlk:∀p,p<=k->(st p).lk=(st 0).lk:=fun p hp=>by obtain⟨h1,h2,_⟩:=hblk p hp;funext x;cases x<;>simp[an.lk,h1,h2]
 have henv:∀(d p:Nat) (t:Nat),p+d<=k->(∀q,p<=q->q<p+d->(r q).dst≠some t)->(st (p+d)).env t=(st p).env t:=fun d=>by
  induction d with
  |zero=>exact fun p t _ _=>rfl
  |succ d ih=>
   intro p t h1 h2;obtain⟨x,e⟩:=hput (p+d) (by omega);rw[<-ih p t (by omega) (fun q a b=>h2 q a (by omega))];show(st (p+d+1)).env t=_;rw[e];show dE (st (p+d)).env (r (p+d)).dst x t=_;have:=h2 (p+d) (by omega) (by omega);cases hd:(r (p+d)).dst with
   |none=>rfl
   |some d'=>simp only[dE,gb];rw[if_neg (fun e'=>this (by rw[hd,e']))]
 have hfin:∀p t,p<k->(r p).dst=some t->(st k).env t=(st (p+1)).env t:=fun p t hp hd=>by have:=henv (k-(p+1)) (p+1) t (by omega) (fun q a b e=>hD.dst p q (by omega) (by omega) t hd e);rwa[show p+1+(k-(p+1))=k by omega]at this
 have hini:∀p t,p<=k->(∀q,q<p->(r q).dst≠some t)->(st p).env t=(st 0).env t:=fun p t hp h=>by have:=henv p 0 t (by omega) (fun q _ b=>h q (by omega));rwa[show 0+p=p by omega]at this
 have hdlt:∀p,p<ops.size->∀d,(r p).dst=some d->d<E.N:=fun p hp d hd=>by obtain⟨o,_,h,_⟩:=hst p hp;exact h.lt d (by rw[<-h.dst];exact hd)
 have hSLlk:∀L,(SL st k g r L).lk=(st 0).lk:=fun L=>by funext x;cases x<;>rfl
 let I:Array Bool->Act->World->Prop:=fun listed a w=>listed.size=ops.size/\(∀j,j<ops.size->listed.getD j false=true->∀e∈eL ops j,listed.getD e false=true)/\
  (∀p,p<ops.size->listed.getD (g p) false=true->p<k)/\df E (SL st k g r fun i=>listed.getD i false=true) a w
 refine wpIn_region_any hm (zM I (fun _ _ _ hI=>hI.1) (fun listed a w i hI hi=>?_) (fun listed a w hI hr=>?_) _ _ _ _ ?_ ?_)
 ·obtain⟨hsize,hclosed,hbef,hA⟩:=hI;obtain⟨hun,oi,hoi,hall⟩:=mem_ready.1 hi;have hlt:i<ops.size:=(aad.1 hoi).1;have haft:∀e∈eL ops i,listed.getD e false=true:=fun e he=>by unfold eL at he;rw[hoi]at he;obtain⟨ed,h1,rfl⟩:=aaS.1 he;obtain⟨h1,h2⟩:=ξ.1 h1;exact hall ed (by simpa using h1) h2
  have hancL:∀j,jh ops j i=true->listed.getD j false=true:=fun j hj=>by
   obtain⟨e,he,rfl|h2⟩:=EB hD.lt hlt hj
   ·exact haft _ he
   ·exact I8 hD.lt (L:=fun k=>listed.getD k false=true) hclosed e j (Nat.lt_trans (hD.lt i hlt e he) hlt) h2 (haft e he)
  obtain⟨p,hp,rfl⟩:=hD.sur i hlt;have hpk:p<=k:=by
   rcases aaV k p with h|h
   ·exfalso;rcases hK with⟨e,_⟩|⟨hks,v,hpan,_⟩
    ·omega
    ·obtain⟨f,args,fn,caps,e,_⟩:=hpan;exact absurd (hbef k hks (hancL _ (hD.call k p h hp (by rw[e];rfl)))) (acs _)
   ·exact h
  obtain⟨o,ho,hres,hstep⟩:=hst p hp;rw[hoi]at ho;cases ho;have hg:=hD.pure p hp;have hgn:(r p).guard=none:=by unfold ti at hg;rw[μ,ab9]at hg;exact hg.1
  have hev:∀x∈(r p).op.operands,(SL st k g r fun i=>listed.getD i false=true).ev x=(st p).ev x:=by
   refine SQ fun t ht=>?_;by_cases h:zf k g r (fun i=>listed.getD i false=true) t
   ·rw[Bh h];obtain⟨q,hq,hL,hd⟩:=h;have ha:=hD.use q p (by omega) hp t hd ht;have hqp:q<p:=by
     rcases aaV q p with h|h
     ·exact h
     ·rcases aaV p q with h'|h'
      ·exact absurd ha (hD.ord p q h' (by omega))
      ·have:q=p:=by omega
       subst this;exact absurd (Sc hD.lt _ _ (hD.bd q hp) ha) (acs _)
    rw[hfin q t hq hd];have:=henv (p-(q+1)) (q+1) t (by omega) (fun x a b e=>hD.dst q x (by omega) (by omega) t hd e);rw[show q+1+(p-(q+1))=p by omega]at this;exact this.symm
   ·rw[z8 h];exact(hini p t hpk fun q hq hd=>h ⟨q,by omega,hancL _ (hD.use q p (by omega) hp t hd ht),hd⟩).symm
  unfold wpOpIn;rw[hoi];simp only;rw[if_pos (by simp[Region.wanted,hres.oq hgn])];rcases aaV p k with hlt2|hge
  ·refine(hstep hlt2).sound hres hg (by rw[hSLlk,hlk p hpk]) hev hA fun x a' w' he hA'=>?_;refine⟨by simp[hsize],fun j hj hL e he=>?_,fun q hq hL=>?_,?_⟩
   ·rw[oG (by omega)]at hL|-;rcases hL with rfl|hL
    ·exact .inr (haft e he)
    ·exact .inr (hclosed j hj hL e he)
   ·rw[oG (by omega)]at hL;rcases hL with hL|hL
    ·have:q=p:=by
      rcases ab3 q p with h|h|h
      ·exact absurd hL (hD.inj q p h hp)
      ·exact h
      ·exact absurd hL.symm (hD.inj p q h hq)
     omega
    ·exact hbef q hq hL
   ·refine hA'.less rfl rfl rfl fun t=>.inl ?_;show _=dE (SL st k g r fun i=>listed.getD i false=true).env (r p).dst x t;by_cases hd:(r p).dst=some t
    ·rw[Bh ⟨p,hlt2,(oG (by omega)).2 (.inl rfl),hd⟩,hfin p t hlt2 hd,he];show dE (st p).env (r p).dst x t=_;rw[hd];simp[dE,gb]
    ·have hset:∀env:Nat->AV,dE env (r p).dst x t=env t:=fun env=>by
      cases hdd:(r p).dst with
      |none=>rfl
      |some d'=>simp only[dE,gb];rw[if_neg (fun e'=>hd (by rw[hdd,e']))]
     rw[hset];by_cases hs:zf k g r (fun i=>listed.getD i false=true) t
     ·rw[Bh hs];obtain⟨q,h1,h2,h3⟩:=hs;exact Bh ⟨q,h1,(oG (by omega)).2 (.inr h2),h3⟩
     ·rw[z8 hs];refine z8 fun⟨q,h1,h2,h3⟩=>hs ⟨q,h1,?_,h3⟩;rcases(oG (by omega)).1 h2 with h2|h2
      ·exfalso;have:q=p:=by
        rcases ab3 q p with h|h|h
        ·exact absurd h2 (hD.inj q p h hp)
        ·exact h
        ·exact absurd h2.symm (hD.inj p q h (by omega))
       subst this;exact hd h3
      ·exact h2
  ·have hpe:p=k:=by omega
   subst hpe;rcases hK with⟨e,_⟩|⟨hks,v,⟨f,args,fn,caps,h1,h2,h3⟩,hQ⟩
   ·omega
   obtain e0|⟨b,op0,hop,hmk⟩:=hres.op
   ·rw[h1]at e0;cases e0
   rw[h1]at hmk;rcases F5 hmk with e|e
   case inr=>rw[e]at hop;exact(H6 hop).elim
   rw[e]at hop;obtain⟨c,ho,hc,rfl⟩:=yF hop;have hxs:=hres.xs;rw[h1]at hxs hev;obtain⟨G,m,hA'⟩:=hA;have hrf:=hA'.oc f (hxs f (by simp[bu.operands]));rw[hev f (by simp[bu.operands]),h2]at hrf;unfold AV.aq at hrf;obtain⟨vs,hv,hcaps⟩:=hrf;have hargs:AV.bb G m (c.args.toList.map (st p).ev) (c.args.toList.map a.eval):=AV.gn (fun x hx=>by
    have hx':x∈(bu.callP f c.args.toList).operands:=by simp only[bu.operands,ω];exact .inr hx
    rw[<-hev x hx'];exact hA'.oc x (hxs x hx'))
   have hrep:AV.bb G m (c.args.toList.map (st p).ev++caps) (c.args.map a.eval++vs).toList:=by rw[abj,abm];exact AV.cw hargs hcaps
   have hS:=hA'.ew;rw[hSLlk,<-hlk p (me _)]at hS;refine LR ho hc hv (JD (n:=(st 0).nx) h3 (ct.refl _) hS hrep) fun v' w' hp=>?_;refine⟨_,hQ,?_⟩;have hA2:=hA'.step (dst:=none) (fun d hd=>by cases hd) (by rw[hSLlk,<-hlk p (me _)];exact hp);obtain⟨m1,m2,m3,m4⟩:=Me ros (st p);obtain⟨b1,b2,b3⟩:=hblk p (me _);refine hA2.less (m1.trans b1) (m2.trans b2) (m3.trans b3) fun t=>?_;rcases m4 t with⟨⟨x,hx,hd⟩,h⟩|⟨hn,h⟩
   ·obtain⟨q,hq,rfl⟩:=hros2 x hx;exact .inr ⟨hdlt q hq t hd,h⟩
   ·refine .inl (h.trans ?_);rw[hini p t (me _) (fun q hq hd=>hn _ (hros q (by omega)) hd)];exact(z8 fun⟨q,h1,_,h3⟩=>hn _ (hros q (by omega)) h3).symm
 ·obtain⟨hsize,hclosed,hbef,hA⟩:=hI;have hall:∀j,j<ops.size->listed.getD j false=true:=by
   intro j
   induction j using abH with
   |_ j ih=>
    intro hj;cases hl:listed.getD j false with
    |true=>rfl
    |false=>
     exfalso;have hjs:j<listed.size:=by rw[hsize];exact hj
     have:j∈Region.ready .any ops listed:=mem_ready.2 ⟨by simp[hjs]at hl|-;exact hl,ops[j],by simp[hj],fun e he hb=>by
      have gk:e.on∈eL ops j:=by unfold eL;rw[show ops[j]?=some ops[j] by simp[hj]];exact aaS.2 ⟨e,ξ.2 ⟨by simpa using he,hb⟩,rfl⟩
      have hlt:=hD.lt j hj _ gk;exact ih e.on hlt (by omega)⟩
     rw[hr]at this;cases this
  rcases hK with⟨e,hQ⟩|⟨hks,_⟩
  ·refine⟨_,hQ,?_⟩;obtain⟨b1,b2,b3⟩:=hblk k (me _);refine hA.less b1 b2 b3 fun t=>.inl ?_;by_cases h:zf k g r (fun i=>listed.getD i false=true) t
   ·rw[Bh h]
   ·rw[z8 h];exact hini k t (me _) fun q hq hd=>h ⟨q,hq,hall _ (hD.bd q (by omega)),hd⟩
  ·exact absurd (hbef k hks (hall _ (hD.bd k hks))) (acs _)
 ·refine aaG List.countP_le_length (by simp)
 ·have hf:∀j,(abl ops.size false).getD j false=false:=fun j=>by
   rcases aaV j ops.size with h|h
   ·simp[h]
   ·simp[h]
  refine⟨by simp,fun j _ h=>(by rw[hf]at h;cases h),fun p _ h=>(by rw[hf]at h;cases h),?_⟩;obtain⟨G,m,hA⟩:=hA;have hd:df E s a w.drew:=⟨G,m,hA.ew.drew,hA.env,hA.size,hA.defers.keep fun _ _ h _=>h,E.iy _ _ _ hA.ki fun _ _ h _=>h,hA.fresh,⟨hA.frame.os,hA.frame.tape.drew,hA.frame.output,hA.frame.size,hA.frame.heap,hA.frame.gh,hA.frame.le⟩,hA.base,hA.own,hA.qq,hA.iv⟩;rw[<-hst0]at hd;refine hd.less rfl rfl rfl fun t=>.inl ?_;exact z8 fun⟨p,_,h,_⟩=>absurd ((hf (g p)).symm.trans h) (by decide)
theorem bx.AH(hm:P.follows .mixedOrders=true)(h:yB P ops N (σ.map fun i=>ops.getD i default) ros)(hd:A2 ops σ ros=true):bx P N (.region id ops true) (.regDP ros):=fun rd Y E Q s a w hY hN hc hA=>by
 have hd':=hd;unfold A2 at hd';simp only[μ,aa1,abG,decide_eq_true_eq]at hd';obtain⟨⟨⟨⟨⟨_,hsl⟩,hsb⟩,_⟩,hdr⟩,_⟩:=hd';obtain⟨st,k,hst0,hlen,hk,hsteps,hK⟩:=OV h hdr hc;rw[List.length_map,hsl]at hlen hk hK;have hget:∀p,p<ops.size->ros[p]?=some (ros.getD p default):=fun p hp=>by rw[aam,ν (by omega)];rfl
 have hg:∀p,p<ops.size->σ[p]?=some (σ.getD p 0):=fun p hp=>by rw[aam,ν (by omega)];rfl
 refine ZF (g:=fun p=>σ.getD p 0) (r:=fun p=>ros.getD p default) (ros:=ros) hm (VE hlen hd) hk (fun p hp=>?_) (fun p hp=>aar (hget p hp)) (fun x hx=>?_) hN hst0 ?_ hA
 ·have hb:σ.getD p 0<ops.size:=hsb _ (aar (hg p hp));obtain⟨g1,g2⟩:=hsteps p ops[σ.getD p 0] _ (by rw[aac,hg p hp];simp only[aaZ,Array.getD,hb,dif_pos];rfl) (hget p hp);exact⟨_,by simp[hb],g1,g2⟩
 ·obtain⟨p,hp,e⟩:=adb.1 hx;exact⟨p,by omega,by show x=ros.getD p default;rw[aam,ν hp];exact e.symm⟩
 ·rcases hK with⟨e,hQ⟩|⟨r,v,e,hp,hQ⟩
  ·exact .inl ⟨e,hQ⟩
  ·have hks:k<ops.size:=by have:=(υ.1 e).1;omega
   refine .inr ⟨hks,v,?_,hQ⟩;rw[hget k hks]at e;cases e;exact hp
def Zk:Nat:=1000000
def gC(P:Program)(fl:List Nat)(N:Nat)(ops:Array Oper):List Oper->Option (List RO)
 |[]=>some []
 |o::os=>match I7 P fl N ops o,gC P fl N ops os with
  |some r,some rs=>some (r::rs)
  |_,_=>none
def PG(ops:Array Oper)(ros:List RO):List Nat:=
 let late:=fun j=>EM (ros.getD j default).op||(abc j).any fun i=>EM (ros.getD i default).op&&jh ops i j
 ((abc ops.size).filter fun j=>!late j)++(abc ops.size).filter late
theorem kQ{P:Program}{fl:List Nat}{N:Nat}{ops:Array Oper}:∀{os:List Oper} {ros:List RO},gC P fl N ops os=some ros->yB P ops N os ros
 |[],ros,h=>by unfold gC at h;cases h;trivial
 |o::os,ros,h=>by
  unfold gC at h;split at h
  ·rename_i r rs h1 h2;cases h;exact⟨Q7 h1,kQ h2⟩
  ·cases h
theorem bx.vn{P:Program}{N:Nat}{c:Code}:bx P N c (.vn N c):=fun r Y E Q s a w hY hN h hA=>by obtain rfl:=(hY.1 h.1).1;exact h.2 E a w hY hN hA
def bM4:Nat:=2000000
def qd:Bool->bo->bo
 |true,rc=>.wkr rc
 |false,rc=>rc
theorem bx.qd{P:Program}{N:Nat}{c:Code}{rc:bo}(h:bx P N c rc):∀b,bx P N c (qd b rc)
 |true=>fun r Y E Q s a w hY hN ⟨s0,hw,hc⟩ hA=>h r Y E Q s0 a w hY hN hc (hw _ _ _ hA)
 |false=>h
def isN:bu->Bool
 |.nxt _=>true
 |_=>false
def Qa(_P:Program)(_fl:List Nat)(_N:Nat)(_ops:Array Oper):Option bo:=none
theorem Qy{rc:bo}(h:Qa P fl N ops=some rc):bx P N (.region id ops false) rc:=by cases h
def aH(P:Program)(fl:List Nat)(N:Nat):Code->Option bo
 |.skip=>some .skip
 |.region id ops draw=>if(!draw&&XE ops)=true then Qa P fl N ops else Option.map (qd (fl.contains (bM4+id)))<|match gC P fl N ops ops.toList with
  |some ros=>if draw=true then(if B6 ops ros=true then(if ros.any (fun r=>EM r.op)=true then(match gC P fl N ops ((PG ops ros).map fun i=>ops.getD i default)with|some rs=>if A2 ops (PG ops ros) rs=true then some (.regDP rs)else none|none=>none)else if Lq ros=true then some (.regS (Al ops ros) ros)else some (.reg true ros))else none)else(if ros.any (fun r=>isN r.op)=true then none else if ros.any (fun r=>EM r.op)=true then some (.regP ros)else if fl.contains Zk then some (.regY ros)else some (.reg false ros))
  |none=>none
 |.seq a b=>match aH P fl N a,aH P fl N b with
  |some x,some y=>some (.seq x (qd true y))
  |_,_=>none
 |.cond c a b=>match aH P fl N a,aH P fl N b with
  |some x,some y=>if c.mg N=true then some (.cond c x y)else none
  |_,_=>none
 |.block id b=>(aH P fl N b).map (.block id)
 |.loop b=>(aH P fl N b).map .loop
 |.exit id=>some (.exit id)
 |.scope b=>(aH P fl N b).map .scope
 |.ret=>some .ret
 |.rangeFunc g ps as bd=>some (.vn N (.rangeFunc g ps as bd))
 |.label _=>some .skip
 |_=>none
theorem bA{P:Program}{fl:List Nat}{N:Nat}(hm:P.follows .mixedOrders=true):∀{c:Code} {rc:bo},aH P fl N c=some rc->bx P N c rc
 |.skip,rc,h=>by unfold aH at h;cases h;exact .skip
 |.label l,rc,h=>by unfold aH at h;cases h;exact .label
 |.region id ops draw,rc,h=>by
  unfold aH at h;split at h
  ·rename_i hc;rw[μ]at hc;cases draw with
   |true=>cases hc.1
   |false=>exact Qy h
  rw[ι]at h;obtain⟨rc0,h,e⟩:=h;subst e;refine bx.qd ?_ _;split at h
  ·rename_i ros h1;have h2:=kQ h1;cases draw with
   |true=>
    simp only[if_true]at h;split at h
    ·rename_i hd;split at h
     ·split at h
      ·rename_i rs h3;rw[ζ]at h;obtain⟨h4,h⟩:=h;cases h;exact .AH hm (kQ h3) h4
      ·cases h
     ·split at h
      ·cases h;exact .Bi hm h2 hd
      ·rename_i hs;cases h;exact .draw hm h2 hd (by simpa using hs)
    ·cases h
   |false=>
    simp only[abu,if_false]at h;split at h
    ·cases h
    split at h
    ·cases h;exact .tq h2
    ·split at h
     ·cases h;exact .uw h2
     ·cases h;exact .region h2
  ·cases h
 |.seq a b,rc,h=>by
  unfold aH at h;split at h
  ·rename_i x y h1 h2;cases h;exact .seq (bA hm h1) (bx.qd (bA hm h2) true)
  ·cases h
 |.cond c a b,rc,h=>by
  unfold aH at h;split at h
  ·rename_i x y h1 h2;rw[ζ]at h;obtain⟨hx,h⟩:=h;cases h;exact .cond hx (bA hm h1) (bA hm h2)
  ·cases h
 |.block id b,rc,h=>by
  unfold aH at h;rw[ι]at h;obtain⟨x,h1,rfl⟩:=h;exact .block (bA hm h1)
 |.loop b,rc,h=>by
  unfold aH at h;rw[ι]at h;obtain⟨x,h1,rfl⟩:=h;exact .loop (bA hm h1)
 |.exit id,rc,h=>by unfold aH at h;cases h;exact .exit
 |.scope b,rc,h=>by
  unfold aH at h;rw[ι]at h;obtain⟨x,h1,rfl⟩:=h;exact .scope (bA hm h1)
 |.ret,rc,h=>by unfold aH at h;cases h;exact .ret
 |.rangeFunc ..,rc,h=>by unfold aH at h;cases h;exact .vn
 |.goto _,rc,h=>by unfold aH at h;cases h
 |.refuse _,rc,h=>by unfold aH at h;cases h
def uS(j:Nat):List Nat->Nat->Option Nat
 |[],_=>none
 |x::xs,i=>if x=j then some i else uS j xs (i+1)
theorem vO{j:Nat}:∀{l:List Nat} {n i:Nat},uS j l n=some i->n<=i/\l[i-n]?=some j
 |[],_,_,h=>by cases h
 |x::xs,n,i,h=>by
  unfold uS at h;split at h
  ·rename_i e;cases h;simp[e]
  ·obtain⟨h1,h2⟩:=vO h;refine⟨by omega,?_⟩;rw[show i-n=(i-(n+1))+1 by omega];simpa using h2
theorem Fw{j:Nat}:∀{l:List Nat} {n:Nat},uS j l n=none->j∉l
 |[],_,_=>by simp
 |x::xs,n,h=>by
  unfold uS at h;split at h
  ·cases h
  ·rename_i e;have:=Fw h;simp only[ω,not_or];exact⟨fun q=>e q.symm,this⟩
def jx(slots:List Nat):Hd->Option Hd
 |.B i=>some (.B i)
 |.O j=>(uS j slots 0).map .O
def so:List (Nat×AV)->Nat->AV
 |[],_=>.any
 |(t,a)::r,i=>if i=t then a else so r i
def an.wk(s:an)(keep:List Nat)(slots:List Nat):an:=
 {env:=so (keep.map fun t=>(t,AV.conv s.lk (jx slots) (s.env t)))
  bs:=fun i=>(s.bs i).map (bn.conv s.lk (jx slots))
  own:=fun i=>(slots[i]?).bind fun j=>(s.own j).map (bn.conv s.lk (jx slots))
  nx:=slots.length}
theorem HH(f:Nat->AV):∀(keep:List Nat) (t:Nat),so (keep.map fun t=>(t,f t)) t=.any\/so (keep.map fun t=>(t,f t)) t=f t
 |[],_=>.inl rfl
 |k::ks,t=>by
  simp only[aaM,so];split
  ·rename_i e;subst e;exact .inr rfl
  ·exact HH f ks t
def vS(nx:Nat)(slots:List Nat):List Hd:=((abc nx).filter fun j=>decide (j∉slots)).map .O
def nj(m:HM)(slots:List Nat):HM
 |.B i=>m (.B i)
 |.O i=>(slots[i]?).bind fun j=>m (.O j)
theorem ir.wk{E:ez}{G:Gh}{m:HM}{s:an}{a:Act}{w:World}(h:ir E G m s a w)(keep:List Nat){slots:List Nat}(hn:slots.Nodup):
  ∃G',ir E G' (nj m slots) (s.wk keep slots) a w/\∀x v,AV.aq G m x v->AV.aq G' (nj m slots) (AV.conv s.lk (jx slots) x) v:=by
 obtain⟨G',hS,hle,hG⟩:=h.ew.freeze (vS s.nx slots);have hmem:∀j,(.O j:Hd)∈vS s.nx slots↔j<s.nx/\j∉slots:=fun j=>by simp[vS]
 have hphi:∀hd hd' loc,jx slots hd=some hd'->m hd=some loc->nj m slots hd'=some loc:=by
  intro hd hd' loc hp hm;cases hd with
  |B i=>cases hp;exact hm
  |O j=>
   simp only[jx,ι]at hp;obtain⟨i,hi,rfl⟩:=hp;obtain⟨_,h2⟩:=vO hi;show(slots[i]?).bind _=_;rw[show slots[i]?=some j by simpa using h2];exact hm
 have hrow:∀hd mt k es,s.lk hd=some (.row mt k es)->∃mt',fo s.lk (vS s.nx slots) hd=some (.row mt' k es):=fun hd mt k es hh=>by
  unfold fo;split
  ·exact⟨false,by rw[hh];rfl⟩
  ·exact⟨mt,hh⟩
 have hfz:∀hd mt k es,jx slots hd=none->(s.lk hd).isSome=true->fo s.lk (vS s.nx slots) hd=some (.row mt k es)->mt=false:=by
  intro hd mt k es hp hsome hr;cases hd with
  |B i=>cases hp
  |O j=>
   simp only[jx,Option.map_eq_none_iff]at hp;have hj:j<s.nx:=by
    rcases aaV j s.nx with h'|h'
    ·exact h'
    ·have:s.lk (.O j)=none:=h.iv j h';rw[this]at hsome;cases hsome
   unfold fo at hr;rw[if_pos ((hmem j).2 ⟨hj,Fw hp⟩)]at hr;cases hx:s.lk (.O j)with
   |none=>rw[hx]at hr;cases hr
   |some bl=>
    rw[hx]at hr;cases bl with
    |row mt' k' es'=>cases hr;rfl
    |_=>cases hr
 have hrep:∀x v,AV.aq G m x v->AV.aq G' (nj m slots) (AV.conv s.lk (jx slots) x) v:=fun x v hx=>
  AV.kx hS hrow hphi x v (fun hd _ mt k es a b c=>hfz hd mt k es a b c) (AV.aq.mono hle (HM.le.refl m) _ _ hx)
 have hblk:∀bl b sz,bg G' m bl b sz w->bg G' (nj m slots) (bn.conv s.lk (jx slots) bl) b sz w:=fun bl b sz hb=>by
  cases bl with
  |row mt k es=>cases mt<;>exact hb
  |box cs=>
   obtain⟨vs,T,h1,h2,h3,h4⟩:=hb;exact⟨vs,T,h1,h2,AV.ef hS hrow hphi cs _ (fun hd _ mt k es a b c=>hfz hd mt k es a b c) h3,h4⟩
  |_=>exact hb.elim
 have hlkB:∀i,fo s.lk (vS s.nx slots) (.B i)=s.bs i:=fun i=>by unfold fo;rw[if_neg (by simp[vS])];rfl
 have hlkO:∀j,j∈slots->fo s.lk (vS s.nx slots) (.O j)=s.own j:=fun j hj=>by unfold fo;rw[if_neg (by rw[hmem];exact fun q=>q.2 hj)];rfl
 have hgetO:∀{i loc},nj m slots (.O i)=some loc->∃j,slots[i]?=some j/\m (.O j)=some loc:=fun{i loc} hx=>by simpa[nj,η]using hx
 have hlk':∀i j,slots[i]?=some j->(s.wk keep slots).lk (.O i)=(s.own j).map (bn.conv s.lk (jx slots)):=fun i j hj=>by show(slots[i]?).bind _=_;rw[hj];rfl
 have hbk:∀hd loc,nj m slots hd=some loc->∃hd0,m hd0=some loc/\(s.wk keep slots).lk hd=(fo s.lk (vS s.nx slots) hd0).map (bn.conv s.lk (jx slots))/\(∀hd',nj m slots hd'≠none->(∃loc',nj m slots hd'=some loc'/\((∃i,hd'=.B i/\hd0=.B i)\/∃i j,hd'=.O i/\hd0=.O j/\slots[i]?=some j))->hd'=hd):=by
  intro hd loc hx;cases hd with
  |B i=>
   refine⟨.B i,hx,by rw[hlkB];rfl,fun hd' _ ⟨loc',_,h2⟩=>?_⟩;rcases h2 with⟨i',rfl,e⟩|⟨_,_,_,e,_⟩
   ·cases e;rfl
   ·cases e
  |O i=>
   obtain⟨j,hj,hm⟩:=hgetO hx;refine⟨.O j,hm,by rw[hlkO j (aar hj),hlk' i j hj],fun hd' _ ⟨loc',_,h2⟩=>?_⟩;rcases h2 with⟨_,_,e⟩|⟨i',j',rfl,e,hj'⟩
   ·cases e
   ·cases e;have h2:=(υ.1 hj');rw[(acz h2.1 hn).1 (hj'.trans hj.symm)]
 have hjok:E.J ((s.wk keep slots).env E.N) w:=by
  show E.J (so (keep.map fun t=>(t,AV.conv s.lk (jx slots) (s.env t))) E.N) w;rcases HH (fun t=>AV.conv s.lk (jx slots) (s.env t)) keep E.N with e|e
  ·rw[e];exact E.qw _ _ h.ki
  ·rw[e];exact E.qy _ _ _ _ h.ki
 refine⟨G',⟨⟨?_,?_,?_,hS.gh,?_,hS.gl,fun hd b sz fp hx=>?_⟩,?_,h.size,h.defers,hjok,?_,?_,h.base,?_,h.qq,?_⟩,hrep⟩
 rotate_left 4
 ·obtain⟨hd0,h1,h2,_⟩:=hbk hd _ hx;obtain⟨bl,h3,h4⟩:=hS.di _ _ _ _ h1;exact⟨_,by rw[h2,h3];rfl,h4.conv hphi⟩
 rotate_right 4
 ·intro hd b sz hx;obtain⟨hd0,h1,h2,_⟩:=hbk hd _ hx;obtain⟨bl,h3,h4⟩:=hS.fh _ _ _ h1;exact⟨_,by rw[h2,h3];rfl,hblk _ _ _ h4⟩
 ·intro hd hx;obtain⟨hd0,h1,h2,_⟩:=hbk hd _ hx;obtain⟨mt,k,h3⟩:=hS.nil _ h1;exact⟨mt,k,by rw[h2,h3];rfl⟩
 ·intro hd hd' l l' b hx hx' hb hb';cases hd with
  |B i=>
   cases hd' with
   |B i'=>exact hS.da (.B i) (.B i') l l' b hx hx' hb hb'
   |O i'=>
    obtain⟨j,_,hm⟩:=hgetO hx';have:=hS.da (.B i) (.O j) l l' b hx hm hb hb';cases this
  |O i=>
   obtain⟨j,hj,hm⟩:=hgetO hx;cases hd' with
   |B i'=>
    have:=hS.da (.O j) (.B i') l l' b hm hx' hb hb';cases this
   |O i'=>
    obtain⟨j',hj',hm'⟩:=hgetO hx';have:=hS.da (.O j) (.O j') l l' b hm hm' hb hb';cases this;have h2:=(υ.1 hj');rw[(acz h2.1 hn).1 (hj'.trans hj.symm)]
 ·intro hd hx;obtain⟨hd0,h1,h2,_⟩:=hbk hd _ hx;rw[h2,hS.dead _ h1];rfl
 ·intro t;show AV.aq G' _ (so (keep.map fun t=>(t,AV.conv s.lk (jx slots) (s.env t))) t) _;rcases HH (fun t=>AV.conv s.lk (jx slots) (s.env t)) keep t with e|e
  ·rw[e];unfold AV.aq;trivial
  ·rw[e];exact hrep _ _ (h.env t)
 ·intro i hi;have hi':slots.length<=i:=hi;show(slots[i]?).bind _=none;rw[aay hi'];rfl
 ·have hF:Fr (fun _=>False) (Own m) G G' w w:=⟨rfl,.same rfl rfl,rfl,me _,fun _ _ _=>rfl,fun b _ ho o=>hG b (fun h' _ sz q=>ho (.at_ q)) o,hle⟩;exact h.frame.step hF (fun b _ q=>q.elim) (fun b hb q=>h.gq hb q)
 ·intro x l b hx hl;cases x with
  |B i=>exact h.own _ l b hx hl
  |O i=>
   obtain⟨j,_,hm⟩:=hgetO hx;exact h.own _ l b hm hl
 ·intro i hi;have hi':slots.length<=i:=hi;show(slots[i]?).bind _=none;rw[aay hi'];rfl
theorem an.Bv(s:an)(keep:List Nat)(hn:slots.Nodup):Wk s (s.wk keep slots):=fun _ _ _ ⟨_,_,h⟩=>
 let⟨G',h',_⟩:=h.wk keep hn;⟨G',_,h'⟩
inductive ee where
 |tmp (t:Nat)
 |cell (ag:Option Nat) (t:Nat)
 deriving Inhabited
def iQ(P:Program):List ResultVar->Option (List ee)
 |[]=>some []
 |.tmp t::r=>(iQ P r).map (.tmp t::·)
 |.cell t T::r=>match P.underlying T,P.info? T,iQ P r with
  |some d,some i,some rs=>some (.cell (if bH d then some i.size else none) t::rs)
  |_,_,_=>none
def w7(N:Nat):ResultVar->Bool
 |.tmp t=>decide (t<N)
 |.cell t _=>decide (t<N)
def fF(P:Program)(N:Nat)(l:List ResultVar):Option (List ee):=if l.all (w7 N)=true then iQ P l else none
def tX(s:an):ee->Option AV
 |.tmp t=>some (s.env t)
 |.cell ag t=>match s.env t with
  |.ptr h off=>match s.lk h with
   |some (.box cs)=>match ag with
    |none=>cs[off]?
    |some n=>if off+n<=cs.length then some (.agg ((cs.drop off).take n))else none
   |_=>none
  |.eptr h k ix off=>match s.lk h,ag with
   |some (.row _ k' es),some n=>if k=1/\k'=1/\off=0/\ix+n<=es.length then some (.agg ((((es.drop ix).take n).flatten).map .D))else none
   |_,_=>none
  |_=>none
def nM(s:an):List ee->Option (List AV)
 |[]=>some []
 |r::rs=>match tX s r,nM s rs with
  |some a,some as=>some (a::as)
  |_,_=>none
def Bc(s:an)(rs:List ee):Option AV:=
 match nM s rs with
 |some [a]=>some a
 |some as=>some (.cn as)
 |none=>none
def xn(tmps:Array Value):ResultVar->Sem Value
 |.tmp t=>pure (tmps.getD t undef)
 |.cell a t=>do loadVar t (<-asAddr (tmps.getD a undef))
theorem rT{P:Program}{E:ez}{G:Gh}{m:HM}{s:an}{a:Act}{w:World}(h:ir E G m s a w):∀{rvs:List ResultVar} {rs:List ee} {as:List AV},(∀x∈rvs,w7 E.N x=true)->iQ P rvs=some rs->nM s rs=some as->
  ∃vs:List Value,(rvs.mapM (xn a.tmps)).run P w=.ok vs w/\AV.bb G m as vs
 |[],rs,as,_,h1,h2=>by
  cases h1;cases h2;exact⟨[],by simp,by simp[AV.bb]⟩
 |.tmp t::rvs,rs,as,h0,h1,h2=>by
  have htN:t<E.N:=by simpa[w7]using h0 (.tmp t) (by simp)
  simp only[iQ,ι]at h1;obtain⟨rs',h1,rfl⟩:=h1;simp only[nM,tX]at h2;split at h2
  ·rename_i x y e1 e2;cases e1;cases h2;obtain⟨vs,k1,k2⟩:=rT h (fun x hx=>h0 x (by simp[hx])) h1 e2;exact⟨a.tmps.getD t undef::vs,by simp[xn,k1],by unfold AV.bb;exact⟨_,_,rfl,ez.e7 htN▸h.env t,k2⟩⟩
  ·cases h2
 |.cell t T::rvs,rs,as,h0,h1,h2=>by
  have htN:t<E.N:=by simpa[w7]using h0 (.cell t T) (by simp)
  simp only[iQ]at h1;split at h1
  ·rename_i d i rs' hd hi hrs;cases h1;simp only[nM]at h2;split at h2
   ·rename_i x y e1 e2;cases h2;obtain⟨vs,k1,k2⟩:=rT h (fun x hx=>h0 x (by simp[hx])) hrs e2;have hv:=h.env t;rw[ez.e7 htN]at hv;simp only[tX]at e1;split at e1
    ·rename_i hd' off he;rw[he]at hv;unfold AV.aq at hv;obtain⟨_,loc,hloc,hp⟩:=hv;split at e1
     ·rename_i cs hl;have hnd:loc≠.dead:=fun e=>by subst e;rw[h.ew.dead _ hloc]at hl;cases hl
      obtain⟨b,sz,rfl,hp'⟩:=hp hnd;obtain⟨bl,hl3,hb⟩:=h.ew.fh _ _ _ hloc;rw[hl]at hl3;cases hl3;obtain⟨ws,T',h1,h2,h3,h4⟩:=hb;have hm:(match(if bH d then some i.size else none)with
       |none=>∃x',cs[off]?=some x'/\x=x'
       |some n=>off+n<=cs.length/\x=.agg ((cs.drop off).take n)):=by
       split at e1
       ·exact⟨x,e1,rfl⟩
       ·rw[ζ]at e1;exact⟨e1.1,(Option.some.inj e1.2).symm⟩
      obtain⟨v,hv,hrep⟩:=Mc (P:=P) hd hi h1 h3 hm;refine⟨v::vs,?_,by unfold AV.bb;exact⟨_,_,rfl,hrep,k2⟩⟩;simp only[aaA]at hp';simp[xn,hp',asAddr,hv,k1]
     ·cases e1
    ·rename_i hd' k ix off he;rw[he]at hv;unfold AV.aq at hv;obtain⟨_,loc,hloc,hp⟩:=hv;split at e1
     ·rename_i mt k' es n hl hag;rw[ζ]at e1;obtain⟨⟨rfl,rfl,rfl,hle⟩,e1⟩:=e1;cases e1;have ha:bH d=true:=by
       cases hh:bH d with
       |true=>rfl
       |false=>rw[hh]at hag;cases hag
      rw[ha]at hag;cases hag;have hnd:loc≠.dead:=fun e=>by subst e;rw[h.ew.dead _ hloc]at hl;cases hl
      obtain⟨b,sz,rfl,hp'⟩:=hp hnd;obtain⟨bl,hl3,hb⟩:=h.ew.fh _ _ _ hloc;rw[hl]at hl3;cases hl3;obtain⟨f,hrow,hf,_⟩:=qR hb h.ew.gh;have hrow2:=DV.ei ix hrow;rw[Nat.zero_add]at hrow2;have hcell:=gw hrow2;have hfl:=FI hrow2;rw[List.length_drop,Nat.mul_one]at hfl;obtain⟨v,hv,hrep⟩:=wO (P:=P) (m:=m) hd hi (b:=b) hcell hf (a:=.agg ((((es.drop ix).take i.size).flatten).map .D)) (by
       rw[ha];exact⟨by rw[hfl];omega,by rw[rY i.size hrow2]⟩)
      refine⟨v::vs,?_,by unfold AV.bb;exact⟨_,_,rfl,hrep,k2⟩⟩;simp only[aaA,Nat.mul_one,Nat.add_zero]at hp' hv;simp[xn,hp',asAddr,hv,k1]
     ·cases e1
    ·cases e1
   ·cases h2
  ·cases h1
theorem Ri(h:ir E G m s a w){rs:List ee}{x:AV}(h0:∀x∈fn.results.toList,w7 E.N x=true)(h1:iQ P fn.results.toList=some rs)(h2:Bc s rs=some x):
  ∃v,(results fn a.tmps).run P w=.ok v w/\AV.aq G m x v:=by
 have key:∀as,nM s rs=some as->∃vs:List Value,(fn.results.mapM (xn a.tmps)).run P w=.ok vs.toArray w/\AV.bb G m as vs:=fun as he=>by obtain⟨vs,k1,k2⟩:=rT (P:=P) h h0 h1 he;refine⟨vs,?_,k2⟩;rw[Array.mapM_eq_mapM_toList];simp[k1]
 have hres:∀vs:List Value,(fn.results.mapM (xn a.tmps)).run P w=.ok vs.toArray w->(results fn a.tmps).run P w=.ok (if h:vs.toArray.size=1 then vs.toArray[0]else .tuple vs.toArray) w:=fun vs hr=>by have:results fn a.tmps=(do let vs<-fn.results.mapM (xn a.tmps);pure (if h:vs.size=1 then vs[0]else .tuple vs)):=rfl;rw[this];simp[hr]
 unfold Bc at h2;split at h2
 ·rename_i y he;cases h2;obtain⟨vs,k1,k2⟩:=key _ he;refine⟨_,hres vs k1,?_⟩;unfold AV.bb AV.bb at k2;obtain⟨v,vs',rfl,k3,rfl⟩:=k2;simpa using k3
 ·rename_i as hne he;cases h2;obtain⟨vs,k1,k2⟩:=key _ he;refine⟨_,hres vs k1,?_⟩;have hl:=AV.cd k2;have:¬vs.toArray.size=1:=fun e=>by
   have:as.length=1:=by simpa[hl]using e
   match as,this with
   |[y],_=>exact hne y rfl
  rw[dif_neg this];unfold AV.aq;exact⟨_,rfl,by simpa using k2⟩
 ·cases h2
def Oe(n:Nat)(rs:List ee)(r:AV)(bs':List (Option bn))(nbs:List bn):Exit->an->Prop:=fun e s=>
 (e=.normal\/e=.ret)/\∃slots x,slots.Nodup/\Bc s rs=some x/\AV.conv s.lk (jx slots) x=r/\((abc n).map fun i=>(s.bs i).map (bn.conv s.lk (jx slots)))=bs'/\
  (slots.map fun j=>(s.own j).map (bn.conv s.lk (jx slots)))=nbs.map some
def entry(args:List AV)(bs:List (Option bn)):an:=
 {env:=fun t=>args.getD t .un,bs:=fun i=>(bs[i]?).join,own:=fun _=>none,nx:=0}
theorem cf.putObj{G:Gh}{m:HM}{lk:bJ}{w:World}(h:cf G m lk w){r:Nat}{o o':Obj}(hr:w.heap[r]?=some o)(hn:o.qi=false):cf G m lk (w.putObj r o'):=by
 refine⟨fun x b sz hx=>?_,h.nil,h.da,fun b q v hv=>?_,h.dead,h.gl,fun x b sz fp hx=>?_⟩
 rotate_right
 ·obtain⟨bl,h1,h2⟩:=h.di x b sz fp hx;have hne:∀c∈b::fp,c≠r:=fun c hc e=>by obtain⟨o2,hc2,hd2⟩:=h2.data c hc;subst e;rw[hr]at hc2;cases hc2;rw[hd2]at hn;cases hn
  refine⟨bl,h1,h2.mono (Gh.le.refl G) (HM.le.refl m) (fun _ _ _=>rfl) (fun c hc=>World.putObj_heap_other (hne c hc)) fun _ c _ _ _ _ _ _ _ hc=>World.putObj_heap_other (fun e=>?_)⟩;subst e;rw[hr]at hc;cases hc;cases hn
 ·obtain⟨bl,h1,h2⟩:=h.fh x b sz hx;obtain⟨o2,hc,hd⟩:=h.data (.at_ hx);have hne:b≠r:=fun e=>by subst e;rw[hr]at hc;cases hc;rw[hd]at hn;cases hn
  exact⟨bl,h1,h2.mono (Gh.le.refl G) (HM.le.refl m) (fun _=>rfl) (World.putObj_heap_other hne)⟩
 ·have hv':=h.gh b q v hv;have hne:b≠r:=fun e=>by subst e;unfold World.cell? at hv';simp only[hr]at hv';cases o<;>first|(cases hn;done)|cases hv'
  unfold World.cell?;rw[World.putObj_heap_other hne];exact hv'
theorem Fr.putObj{oh og:Nat->Prop}{G0 G:Gh}{w0 w:World}(h:Fr oh og G0 G w0 w){r:Nat}{o:Obj}(hr:w0.heap.size<=r):Fr oh og G0 G w0 (w.putObj r o):=
 ⟨h.os,h.tape,h.output,by rw[World.putObj_size];exact h.size,fun b hb ho=>by rw[World.putObj_heap_other (by omega)];exact h.heap b hb ho,h.gh,h.le⟩
theorem OX{P:Program}{fn:Func}{E:ez}{G:Gh}{m:HM}{s:an}{R:Ending->World->Prop}{tmps:Array Value}:∀(ms:List Deferred) (w:World),ir E G m s {tmps:=tmps,defers:=ms++E.dt} w->Marks (E.w0.heap.size+E.sk) E.nd ms w->
  (∀w',ir E G m s {tmps:=tmps,defers:=E.dt} w'->LeavesInM (FR none) 0 P fn tmps R E.dt .returning w')->LeavesInM (FR none) 0 P fn tmps R (ms++E.dt) .returning w
 |[],w,h,_,hR=>hR w h
 |d::ms,w,h,hM,hR=>by
  obtain⟨r,rfl,hr1,hr2⟩:=hM.1 d (by simp);have hnd:=hM.2.1;have hM':Marks (E.w0.heap.size+E.sk) E.nd ms (w.putObj r (.deferred none)):=by refine⟨fun d' hd'=>?_,(abk.1 hnd).2,fun e=>by have:=hM.2.2 e;cases this⟩;obtain⟨r',rfl,q1,q2⟩:=hM.1 d' (by simp[hd']);refine⟨r',rfl,q1,?_⟩;rw[World.putObj_heap_other (fun e=>(abk.1 hnd).1 (by subst e;exact hd'))];exact q2
  refine⟨by simp,.inl ⟨r,w.putObj r (.deferred none),rfl,run_takeDeferred hr2,OX ms _ ?_ hM' hR⟩⟩;exact⟨h.ew.putObj hr2 rfl,h.env,h.size,⟨ms,rfl,hM'⟩,E.pq _ _ _ _ h.ki hr1,h.fresh,h.frame.putObj (aaG (abJ _ _) hr1),h.base,h.own,h.qq,h.iv⟩
theorem uJ(hdt:E.dt=[])(ds:List Deferred)(w:World)(h:ir E G m s {tmps:=tmps,defers:=ds} w)
  (hR:∀w',ir E G m s {tmps:=tmps,defers:=[]} w'->∃v,(results fn tmps).run P w'=.ok v w'/\R (.returned v) w'):LeavesInM (FR none) 0 P fn tmps R ds .returning w:=by obtain⟨ms,e,hM⟩:=h.defers;have e:ds=ms++E.dt:=e;subst e;exact OX ms w h hM (fun w' h'=>by rw[hdt]at h'|-;exact hR w' h')
def tZ(n:Nat)(rs:List ee)(r:AV)(bs':List (Option bn))(nbs:List bn):Exit->an->Prop:=fun e s=>∃s',Wk s s'/\Oe n rs r bs' nbs e s'
theorem xU(nd:Bool)(hn:args.length<=N)(hS:cf G m (gH bs []) w)(hO:∀i,m (.O i)=none)(hA:AV.bb G m args vs.toList):
  ir {w0:=w,G0:=G,m0:=m,N:=N,nd:=nd:ez} G m (entry args bs) {tmps:=vs++abl (N-vs.size) undef,defers:=[]} w:=by
 have hlen:=AV.cd hA;have hlen':args.length=vs.size:=by simpa using hlen
 refine⟨?_,fun t=>?_,?_,dG.2 Marks.nil,trivial,fun i _=>hO i,Fr.refl _ _ _ _,fun i=>.inl rfl,fun x l b hi hl=>.inr ⟨x,l,hi,hl⟩,trivial,fun _ _=>rfl⟩
 ·have:(entry args bs).lk=gH bs []:=by funext h;cases h<;>simp[an.lk,entry,gH]
  rw[this];exact hS
 ·have hval:ez.val {w0:=w,G0:=G,m0:=m,N:=N,nd:=nd:ez} {tmps:=vs++abl (N-vs.size) undef,defers:=[]} t=(vs++abl (N-vs.size) undef).getD t undef:=by
   unfold ez.val;split
   ·rfl
   ·rename_i ht;have ht:N<=t:=Nat.le_of_not_lt ht;have:(vs++abl (N-vs.size) undef)[t]?=none:=acm (by simp;omega);simp only[aaA,this];rfl
  rw[hval];show AV.aq G m (args.getD t .un) ((vs++abl (N-vs.size) undef).getD t undef);rcases aaV t vs.size with ht|ht
  ·have h1:args[t]?=some args[t]:=by simp[hlen',ht]
   obtain⟨v,h2,h3⟩:=AV.gf hA h1;rw[aam,h1];simp only[aaj]at h2;simp only[aaA,acF ht,h2];exact h3
  ·rw[aam,aay (by omega)];have:(vs++abl (N-vs.size) undef).getD t undef=undef:=by simp only[aaA,acA ht,Array.getElem?_replicate];split<;>rfl
   rw[this];show AV.aq G m .un undef;unfold AV.un AV.aq DV.aq;rfl
 ·simp;omega
theorem Au{rs:List ee}{r:AV}(hrs0:(∀x∈fn.results.toList,w7 fn.ntmps x=true)/\iQ P fn.results.toList=some rs)
 (h0:E.w0=w) (h1:E.G0=G) (h2:E.m0=m) (hN:E.N=fn.ntmps) (hS:cf G m (gH bs []) w) {m1:HM} (hA':ir E G1 m1 s a' w') {e:Exit} (hq:Oe bs.length rs r bs' nbs e s):
  ∃v,(results fn a'.tmps).run P w'=.ok v w'/\pZ w G m (gH bs' nbs) r v w':=by
 subst h0;subst h1;subst h2;rw[<-hN]at hrs0;obtain⟨he,slots,x,hnd,hx,hr,hbs,hnbs⟩:=hq;obtain⟨v,hv,hrep⟩:=Ri (P:=P) (fn:=fn) hA' hrs0.1 hrs0.2 hx;obtain⟨G2,hA2,hconv⟩:=hA'.wk [] hnd;have hlkO:∀i,gH bs' nbs (.O i)=(s.wk [] slots).lk (.O i):=fun i=>by
  show nbs[i]?=(slots[i]?).bind _;have:=congrArg (fun l=>l[i]?) hnbs;simp only[aac]at this;cases h1:nbs[i]?with
  |none=>cases h2:slots[i]?with
   |none=>rfl
   |some j=>rw[h1,h2]at this;cases this
  |some b=>cases h2:slots[i]?with
   |none=>rw[h1,h2]at this;cases this
   |some j=>
    rw[h1,h2]at this;exact(Option.some.inj this).symm
 have hlen2:slots.length=nbs.length:=by simpa using congrArg List.length hnbs
 have hpost:pZ E.w0 E.G0 E.m0 (gH bs' nbs) r v w':=by
  have hS2:cf G2 (nj m1 slots) (gH bs' nbs) w':=by
   have hB:∀i,i<bs.length->gH bs' nbs (.B i)=(s.wk [] slots).lk (.B i):=fun i hi=>by show(bs'[i]?).join=_;rw[<-hbs];simp[hi];rfl
   have hB':∀i,bs.length<=i->gH bs' nbs (.B i)=none/\(nj m1 slots (.B i)=none\/nj m1 slots (.B i)=some .dead):=fun i hi=>by
    refine⟨?_,?_⟩
    ·show(bs'[i]?).join=_;have:bs'.length=bs.length:=by rw[<-hbs];simp
     rw[aay (by omega)];rfl
    ·have hno:gH bs [] (.B i)=none:=by show(bs[i]?).join=none;rw[aay hi];rfl
     rcases hA2.base i with h1|⟨_,h1⟩|⟨_,_,_,_,h1,_⟩
     rotate_right
     ·obtain⟨bl,h3,_⟩:=hS.di _ _ _ _ h1;rw[hno]at h3;cases h3
     ·rw[h1];show E.m0 (.B i)=none\/E.m0 (.B i)=some .dead;cases hm:E.m0 (.B i)with
      |none=>exact .inl rfl
      |some loc=>
       cases loc with
       |dead=>exact .inr rfl
       |none=>obtain⟨mt,k,h3⟩:=hS.nil _ hm;rw[hno]at h3;cases h3
       |at_ b sz=>obtain⟨bl,h3,_⟩:=hS.fh _ _ _ hm;rw[hno]at h3;cases h3
       |atx b sz fp=>obtain⟨bl,h3,_⟩:=hS.di _ _ _ _ hm;rw[hno]at h3;cases h3
     ·exact .inr h1
   have hcase:∀x,gH bs' nbs x=(s.wk [] slots).lk x\/(gH bs' nbs x=none/\(nj m1 slots x=none\/nj m1 slots x=some .dead)):=fun x=>by
    cases x with
    |O i=>exact .inl (hlkO i)
    |B i=>
     rcases aaV i bs.length with h|h
     ·exact .inl (hB i h)
     ·exact .inr (hB' i h)
   refine⟨fun x b sz hx=>?_,fun x hx=>?_,hA2.ew.da,hA2.ew.gh,fun x hx=>?_,hA2.ew.gl,fun x b sz fp hx=>?_⟩
   rotate_right
   ·rcases hcase x with h|⟨_,h|h⟩
    ·rw[h];exact hA2.ew.di x b sz fp hx
    ·rw[h]at hx;cases hx
    ·rw[h]at hx;cases hx
   ·rcases hcase x with h|⟨_,h|h⟩
    ·rw[h];exact hA2.ew.fh x b sz hx
    ·rw[h]at hx;cases hx
    ·rw[h]at hx;cases hx
   ·rcases hcase x with h|⟨_,h|h⟩
    ·rw[h];exact hA2.ew.nil x hx
    ·rw[h]at hx;cases hx
    ·rw[h]at hx;cases hx
   ·rcases hcase x with h|⟨h,_⟩
    ·rw[h];exact hA2.ew.dead x hx
    ·exact h
  refine⟨G2,nj m1 slots,hS2,hr▸hconv _ _ hrep,hA2.frame,hA2.base,hA2.own,fun i hi=>?_⟩;have:slots[i]?=none:=by have hi:nbs[i]?=none:=hi;rw[List.getElem?_eq_none_iff]at hi|-;omega
  show(slots[i]?).bind _=none;rw[this];rfl
 exact⟨v,hv,hpost⟩
theorem CU{rs:List ee}(hrs:fF P fn.ntmps fn.results.toList=some rs):(∀x∈fn.results.toList,w7 fn.ntmps x=true)/\iQ P fn.results.toList=some rs:=by unfold fF at hrs;rw[ζ,aa1]at hrs;exact hrs
theorem de.re(fl:List Nat)(S:an->Prop){f:FuncId}{rc:bo}{rs:List ee}{r:AV}
  (hf:P.funcs[f]?=some fn) (hb:fn.body=some c) (hname:(fn.name== "runtime.NumGoroutine")=false) (hm:P.follows .mixedOrders=true) (hrc:aH P fl fn.ntmps c=some rc) (hrs:fF P fn.ntmps fn.results.toList=some rs)
  (hn:args.length<=fn.ntmps) (hw0:∀E a w,E.N=fn.ntmps->df E (entry args bs) a w->∃s0,S s0/\df E s0 a w) (h:∀s0,S s0->gD P zd rc (tZ bs.length rs r bs' nbs) s0):de P f args bs r bs' nbs:=by
 have hrs0:=CU hrs;refine fun w G m vs hS hO hA=>.inl ⟨⟨fn,hf,by rw[hb];rfl,hname⟩,DE (r:=none) (n:=0) (callsIn_of_wp_marks hf hb (oC none f) ?_)⟩;have hent:=xU false hn hS hO hA;obtain⟨s0,hs0,hsim0⟩:=hw0 _ _ _ rfl ⟨G,m,hent⟩;refine wpIn_mono (bA hm hrc none zd _ _ _ _ _ (mz.none rfl rfl) rfl (h s0 hs0) hsim0) fun e a' w' ⟨s00,⟨s,hw,hq⟩,hA0⟩=>?_;obtain⟨G1,m1,hA'⟩:=hw _ _ _ hA0;have key:∀w',ir {w0:=w,G0:=G,m0:=m,N:=fn.ntmps:ez} G1 m1 s {tmps:=a'.tmps,defers:=[]} w'->∃v,(results fn a'.tmps).run P w'=.ok v w'/\∃v',Ending.returned v=.returned v'/\pZ w G m (gH bs' nbs) r v' w':=fun w' hA'=>by obtain⟨v,hv,hp⟩:=Au hrs0 rfl rfl rfl rfl hS hA' hq;exact⟨v,hv,v,rfl,hp⟩
 rcases hq.1 with rfl|rfl<;>exact uJ rfl a'.defers w' hA' key
theorem de.ju(fl:List Nat)(s0:an){f:FuncId}{rc:bo}{rs:List ee}{r:AV}
  (hf:P.funcs[f]?=some fn) (hb:fn.body=some c) (hname:(fn.name== "runtime.NumGoroutine")=false) (hm:P.follows .mixedOrders=true) (hrc:aH P fl fn.ntmps c=some rc) (hrs:fF P fn.ntmps fn.results.toList=some rs)
  (hn:args.length<=fn.ntmps) (hw0:Wk (entry args bs) s0) (h:gD P zd rc (tZ bs.length rs r bs' nbs) s0):de P f args bs r bs' nbs:=
 de.re fl (·=s0) hf hb hname hm hrc hrs hn (fun E a w _ h=>⟨s0,rfl,hw0 E a w h⟩) (fun _ e=>e▸h)
def xi(N:Nat)(top:Nat->AV)(g:AV)(low:Nat->AV):Nat->AV:=fun t=>if t<N then top t else if t=N then g else low (t-N-1)
def yq(N:Nat)(env:Nat->AV):Nat->AV:=fun t=>env (N+1+t)
def EL(l:List AV):Nat->AV:=fun t=>l.getD t .un
def we:List Nat->List AV->(Nat->AV)->Nat->AV
 |p::ps,x::xs,env=>we ps xs (gb env p x)
 |_,_,env=>env
def an.withEnv(s:an)(env:Nat->AV):an:={s with env:=env}
def By(N2 l:Nat)(caps:List AV)(s:an):an:=s.withEnv (xi N2 (EL (.yld l::caps)) (.gst none) s.env)
def Aj(N N2:Nat)(s:an):an:=s.withEnv (gb (yq N2 s.env) N .any)
def Gn(N N2:Nat)(ps:List Nat)(args:List AV)(s:an):an:=s.withEnv (xi N (we ps args (yq N2 s.env)) .any s.env)
def Bf(N N2:Nat)(c:Option Code)(s:an):an:=s.withEnv (gb (yq N s.env) N2 (.gst c))
def nrm(k:an->Prop):Exit->an->Prop
 |.normal,s=>k s
 |_,_=>False
def Re(N N2:Nat)(K:Bool->an->Prop):Exit->an->Prop
 |.normal,s=>K true (Bf N N2 none s)
 |.exit id,s=>K false (Bf N N2 (some (.exit id)) s)
 |.ret,s=>K false (Bf N N2 (some .ret) s)
 |_,_=>False
def Bu(Q:Exit->an->Prop)(s:an):AV->Prop
 |.gst none=>Q .normal s
 |.gst (some (.exit id))=>Q (.exit id) s
 |.gst (some .ret)=>Q .ret s
 |_=>False
def YU(N N2:Nat)(Q:Exit->an->Prop):Exit->an->Prop:=fun e s=>(e=.normal\/e=.ret)/\Bu Q (Aj N N2 s) (s.env N2)
def F0(P:Program)(rcA rcB:bo)(N N2 l:Nat)(ps:List Nat):Yh:=
 ⟨false,fun l' args s K=>l'=l/\args.length=ps.length/\s.env N2=.gst none/\gD P jQ rcA (nrm (gD P jQ rcB (Re N N2 K))) (Gn N N2 ps args s)⟩
structure ie (B:Nat) (fid:FuncId) (tmps:Array Value) (ps:Array Tmp) (as bd:Code) (ds:List Deferred) (st:LoopState) (pd:Option Code) (E:ez) (x0:AV) (w:World):Prop where
 jf:w.heap[B+1]?=some (.loop {state:=st,pending:=pd,fn:=fid,tmps:=tmps,params:=ps,assign:=as,body:=bd,defers:=B})
 fh:w.heap[B]?=some (.deferred (some []))
 marks:Marks (E.w0.heap.size+E.sk) E.nd ds w
 j:E.J x0 w
theorem ie.keep{B:Nat}{fid:FuncId}{tmps:Array Value}{ps:Array Tmp}{as bd:Code}{ds:List Deferred}{st:LoopState}{pd:Option Code}{E:ez}{x0:AV}{w w':World}(h:ie B fid tmps ps as bd ds st pd E x0 w)(hk:gu w w'):ie B fid tmps ps as bd ds st pd E x0 w':=
 ⟨hk _ _ h.jf rfl,hk _ _ h.fh rfl,h.marks.keep hk,E.iy _ _ _ h.j hk⟩
theorem Marks.put{nd:Bool}(h:Marks B nd ds w){r:Nat}{o:Obj}(hr:∀d∈ds,d.target≠.collected r):Marks B nd ds (w.putObj r o):=
 ⟨fun d hd=>let⟨r',h1,h2,h3⟩:=h.1 d hd;⟨r',h1,h2,by rw[World.putObj_heap_other (fun e=>hr d hd (by rw[h1,e]))];exact h3⟩,h.2⟩
theorem ie.put{B:Nat}{fid:FuncId}{tmps:Array Value}{ps:Array Tmp}{as bd:Code}{ds:List Deferred}{st st':LoopState}{pd pd':Option Code}{E:ez}{x0:AV}{w:World}(h:ie B fid tmps ps as bd ds st pd E x0 w)(hB:E.w0.heap.size+E.sk<=B):
    ie B fid tmps ps as bd ds st' pd' E x0 (w.putObj (B+1) (.loop {state:=st',pending:=pd',fn:=fid,tmps:=tmps,params:=ps,assign:=as,body:=bd,defers:=B})):=
  ⟨World.putObj_heap_same (aad.1 h.jf).1,by rw[World.putObj_heap_other (by omega)];exact h.fh,
   h.marks.put (fun d hd e=>by
     obtain⟨r,h1,_,h3⟩:=h.marks.1 d hd;rw[h1]at e;cases e;rw[h.jf]at h3;cases h3),E.pq _ _ _ _ h.j (by omega)⟩
theorem ie.th{ps:Array Tmp}{st:LoopState}(h:ie B fid tmps ps as bd ds st pd E x0 w)(hlt:∀d∈ds,∀r,d.target=.collected r->r<B)
  (hB:E.w0.heap.size+E.sk<=B) {r:Nat} {o:Obj} (hr:B+2<=r):ie B fid tmps ps as bd ds st pd E x0 (w.putObj r o):=
 ⟨by rw[World.putObj_heap_other (by omega)];exact h.jf,by rw[World.putObj_heap_other (by omega)];exact h.fh,h.marks.put (fun d hd e=>by have:=hlt d hd r e;omega),E.pq _ _ _ _ h.j (by omega)⟩
def jt(B:Nat)(fid:FuncId)(tmps:Array Value)(ps:Array Tmp)(as bd:Code)(ds:List Deferred)(E:ez)(x0:AV)(x:AV)(w:World):Prop:=
 AV.m5 x=false/\∃st pd,st≠.busy/\ie B fid tmps ps as bd ds st pd E x0 w/\∀c,x=.gst c->pd=c/\(c=none->st=.ready)
theorem bH4{ψ:Hd->Hd}{x:AV}{c:Option Code}(h:AV.cg ψ x=.gst c):x=.gst c:=by cases x<;>simp_all[AV.cg]
theorem Vh{ψ:Hd->Hd}{x:AV}:AV.m5 (AV.cg ψ x)=AV.m5 x:=by cases x<;>simp[AV.cg,AV.m5]
theorem S6{x:AV}{c:Option Code}(h:AV.conv lk φ x=.gst c):x=.gst c:=by cases x<;>simp only[AV.conv]at h<;>(repeat' split at h)<;>first|(cases h;done)|exact h
theorem W7{x:AV}(h:AV.m5 x=false):AV.m5 (AV.conv lk φ x)=false:=by cases x<;>simp only[AV.conv]<;>(repeat' split)<;>first|rfl|(cases h;done)
section
variable{B:Nat}{fid:FuncId}{tmps:Array Value}{ps:Array Tmp}{as bd:Code}{ds:List Deferred}{E:ez}{x0:AV}
theorem jt.keep(x:AV)(w w':World)(h:jt B fid tmps ps as bd ds E x0 x w)(hk:gu w w'):jt B fid tmps ps as bd ds E x0 x w':=
 let⟨h0,st,pd,h1,h2,h3⟩:=h;⟨h0,st,pd,h1,h2.keep hk,h3⟩
theorem jt.any(x:AV)(w:World)(h:jt B fid tmps ps as bd ds E x0 x w):jt B fid tmps ps as bd ds E x0 .any w:=
 let⟨_,st,pd,h1,h2,_⟩:=h;⟨rfl,st,pd,h1,h2,(fun _ e=>by cases e)⟩
theorem jt.sl(x:AV)(w:World)(y:AV)(hx:AV.m5 x=true)(h:jt B fid tmps ps as bd ds E x0 x w):jt B fid tmps ps as bd ds E x0 y w:=by have:=h.1;rw[hx]at this;cases this
theorem jt.cg(x:AV)(w:World)(ψ:Hd->Hd)(h:jt B fid tmps ps as bd ds E x0 x w):jt B fid tmps ps as bd ds E x0 (AV.cg ψ x) w:=
 let⟨h0,st,pd,h1,h2,h3⟩:=h;⟨by rw[Vh];exact h0,st,pd,h1,h2,fun c e=>h3 c (bH4 e)⟩
theorem jt.conv(x:AV)(w:World)(lk:bJ)(φ:Hd->Option Hd)(h:jt B fid tmps ps as bd ds E x0 x w):jt B fid tmps ps as bd ds E x0 (AV.conv lk φ x) w:=
 let⟨h0,st,pd,h1,h2,h3⟩:=h;⟨W7 h0,st,pd,h1,h2,fun c e=>h3 c (S6 e)⟩
theorem jt.put(hlt:∀d∈ds,∀r,d.target=.collected r->r<B)(hB:E.w0.heap.size+E.sk<=B)(x:AV)(w:World)(r:Nat)(o:Obj)(h:jt B fid tmps ps as bd ds E x0 x w)(hr:B+2<=r):jt B fid tmps ps as bd ds E x0 x (w.putObj r o):=
 let⟨h0,st,pd,h1,h2,h3⟩:=h;⟨h0,st,pd,h1,h2.th hlt hB hr,h3⟩
theorem jt.sz(x:AV)(w:World)(h:jt B fid tmps ps as bd ds E x0 x w):B+2<=w.heap.size:=
 let⟨_,_,_,_,h2,_⟩:=h;(aad.1 h2.jf).1
end
theorem Lp{G:Gh}{m:HM}:∀{ps:List Nat} {xs:List AV} {vs:List Value} {env:Nat->AV} {tmps:Array Value},AV.bb G m xs vs->(∀t,t<tmps.size->AV.aq G m (env t) (tmps.getD t undef))->
  ((ps.zip vs).foldl (fun tmps (t,a)=>tmps.setIfInBounds t a) tmps).size=tmps.size/\∀t,t<tmps.size->AV.aq G m (we ps xs env t) (((ps.zip vs).foldl (fun tmps (t,a)=>tmps.setIfInBounds t a) tmps).getD t undef)
 |[],xs,vs,env,tmps,_,h=>by simpa[we]using h
 |p::ps,[],vs,env,tmps,hx,h=>by unfold AV.bb at hx;subst hx;simpa[we]using h
 |p::ps,x::xs,vs,env,tmps,hx,h=>by
  unfold AV.bb at hx;obtain⟨v,vs',rfl,hv,hvs⟩:=hx;simp only[List.zip_cons_cons,List.foldl_cons,we];have ih:=Lp (ps:=ps) (env:=gb env p x) (tmps:=tmps.setIfInBounds p v) hvs (fun t ht=>by
   rw[Array.size_setIfInBounds]at ht;unfold gb;by_cases e:t=p
   ·rw[if_pos e];subst e;simpa[aaA,Array.getElem?_setIfInBounds_self_of_lt ht]using hv
   ·rw[if_neg e];simpa only[aaA,abR (Ne.symm e)]using h t ht)
  rw[Array.size_setIfInBounds]at ih;exact ih
theorem IQ(s:an)(env:Nat->AV):(s.withEnv env).lk=s.lk:=by funext h;cases h<;>rfl
theorem ir.ta{E':ez}(h:ir E G m s a w)(env:Nat->AV)(h0:E'.w0=E.w0)(h1:E'.G0=E.G0)(h2:E'.m0=E.m0)(hs:cf G m s.lk w')(hf:Fr (Own E.m0) (Own E.m0) E.G0 G E.w0 w')
  (he:∀t,AV.aq G m (env t) (E'.val a' t)) (hsz:a'.tmps.size=E'.N) (hd:je E'.dt (E'.w0.heap.size+E'.sk) E'.nd a'.defers w') (hj:E'.J (env E'.N) w'):ir E' G m (s.withEnv env) a' w':=by refine⟨by rw[IQ];exact hs,he,hsz,hd,hj,h.fresh,by rw[h0,h1,h2];exact hf,by rw[h2];exact h.base,by rw[h0,h2];exact h.own,trivial,h.iv⟩
theorem H2{top low:Nat->AV}{g:AV}{v:Nat->Value}(h1:∀t,t<N->AV.aq G m (top t) (v t))(h2:AV.aq G m g (v N))(h3:∀t,AV.aq G m (low t) (v (N+1+t)))(t:Nat):AV.aq G m (xi N top g low t) (v t):=by
 unfold xi;split
 ·exact h1 t ‹_›
 ·split
  ·rename_i e;subst e;exact h2
  ·rename_i ha hb;have:=h3 (t-N-1);rwa[show N+1+(t-N-1)=t by omega]at this
def zr(f:Nat->Value):Nat->Value:=fun j=>if j=0 then undef else f (j-1)
theorem Iz{f:Nat->Value}(h:E.cv=zr f)(t:Nat):E.val a (E.N+1+t)=f t:=by rw[ez.nv (by omega),h];unfold zr;rw[if_neg (by omega),show E.N+1+t-E.N-1=t by omega]
theorem yh:AV.aq G m .any v:=by unfold AV.aq;trivial
theorem Nc{c:Option Code}:AV.aq G m (.gst c) v:=by unfold AV.aq;trivial
theorem bF6{Y:Yh}{Q:Exit->an->Prop}{g:Operand}{ps:Array Tmp}(fl flB:List Nat){f:FuncId}{c2:Code}{rc2 rcA rcB:bo}{caps:List AV}
  (hf:P.funcs[f]?=some fn) (hb:fn.body=some c2) (hname:(fn.name== "runtime.NumGoroutine")=false) (hm:P.follows .mixedOrders=true) (hrc:aH P fl fn.ntmps c2=some rc2) (hAs:aH P flB N as=some rcA) (hBd:aH P flB N bd=some rcB)
  (hres:fn.results=#[]) (hg:g.mg N=true) (hs:s.ev g=.clo f caps) (hn:caps.length+1<=fn.ntmps) (hY:Y.plain=true)
  (h:∀l,gD P (F0 P rcA rcB N fn.ntmps l ps.toList) rc2 (YU N fn.ntmps Q) (By fn.ntmps l caps s)):gD P Y (.vn N (.rangeFunc g ps as bd)) Q s:=by
 refine⟨hY,fun E a w hYE hN ⟨G,m,hA⟩=>?_⟩;subst hN;have hnd:=(hYE.1 hY).2.1;have hdt:=(hYE.1 hY).2.2;have hAd:Marks (E.w0.heap.size+E.sk) E.nd a.defers w:=by have:=hA.defers;rw[hdt]at this;exact dG.1 this
 obtain⟨B,hB⟩:∃B,B=w.heap.size:=⟨_,rfl⟩;have hBE:E.w0.heap.size+E.sk<=B:=hB▸E.GG _ _ hA.ki hA.frame.size;have hdlt:∀d∈a.defers,∀r,d.target=.collected r->r<B:=fun d hd r hr=>by obtain⟨r',h1,_,h3⟩:=hAd.1 d hd;rw[h1]at hr;cases hr;rw[hB];exact(aad.1 h3).1
 have hgr:=hA.oc g hg;rw[hs]at hgr;unfold AV.aq at hgr;obtain⟨cvs,hgv,hcvs⟩:=hgr;refine wpIn_rangeFunc fun fid _=>?_;obtain⟨w1,hw1⟩:∃w1,w1=(w.alloc (.deferred (some []))).alloc (.loop {state:=.ready,pending:=none,fn:=fid,tmps:=a.tmps,params:=ps,assign:=as,body:=bd,defers:=B}):=⟨_,rfl⟩;obtain⟨args,hargs⟩:∃args:Array Value,args=#[.func (.yield (B+1)) #[] #[]]++cvs:=⟨_,rfl⟩;have hlenc:caps.length=cvs.size:=by simpa using AV.cd hcvs
 have hrec:ie B fid a.tmps ps as bd a.defers .ready none E (s.env E.N) w1:=by
  have hk:gu w w1:=fun b o hb' _=>by have hlt:=(aad.1 hb').1;rw[hw1,heap_alloc_old _ _ (by simp;omega),heap_alloc_old _ _ hlt];exact hb'
  refine⟨?_,?_,hAd.keep hk,E.iy _ _ _ hA.ki hk⟩
  ·have:=World.alloc_heap_new (w.alloc (.deferred (some []))) (.loop {state:=.ready,pending:=none,fn:=fid,tmps:=a.tmps,params:=ps,assign:=as,body:=bd,defers:=B});rw[World.size_alloc,<-hB,<-hw1]at this;exact this
  ·rw[hw1,heap_alloc_old _ _ (by simp;omega),hB];exact World.alloc_heap_new w _
 let E2:ez:={w0:=w,G0:=G,m0:=m,N:=fn.ntmps,cv:=zr (E.val a),J:=jt B fid a.tmps ps as bd a.defers E (s.env E.N),iy:=jt.keep,qw:=jt.any,IS:=jt.sl,yd:=jt.cg,qy:=jt.conv,sk:=2,nd:=true,pq:=fun x w' r o hj hr=>jt.put hdlt hBE x w' r o hj (by omega),GG:=fun x w' hj _=>(by have:=jt.sz x w' hj;omega)};have hE2v:∀a2 t,E2.val a2 (fn.ntmps+1+t)=E.val a t:=fun a2 t=>Iz (E:=E2) rfl t;have harg0:((#[.const (.func (.yield (B+1)) #[] #[])]:Array Operand).map a.eval)=#[.func (.yield (B+1)) #[] #[]]:=by simp[Act.eval]
 refine⟨B+1,[{target:=.collected B,args:=#[]}],w1,⟨.fn (.func f) cvs,#[.func (.yield (B+1)) #[] #[]]⟩,w1,f,args,w1,by rw[hw1,hB];exact run_enterLoop_outer _ _ _ _ _,?_,fun _ _=>trivial,?_,fun hd=>by simp[FR,Fence.wide]at hd,?_⟩
 ·simp only[resolve,rangeCall,harg0,hgv,Deferred.ofValue];simp
 ·have hnone:fn.body.isNone=false:=by rw[hb];rfl
  simp only[invoke,callFunc,Sem.run_bind,run_program,hf,hname,hnone,abu,if_false,Result.andThen_ok,hargs];simp
 have hargsize:args.size=cvs.size+1:=by rw[hargs];simp;omega
 refine callsIn_of_wp_marks hf hb (oC none f) ?_;have hlen:args.size<=fn.ntmps:=by omega
 have hfr1:Fr (Own m) (Own m) G G w w1:=by rw[hw1];exact(Fr.alloc _).trans (Fr.alloc _)
 have hent:ir E2 G m (By fn.ntmps (B+1) caps s) {tmps:=args++abl (fn.ntmps-args.size) undef,defers:=[]} w1:=by
  refine⟨by rw[By,IQ,hw1];exact(hA.ew.alloc _).alloc _,fun t=>?_,by simp[E2];omega,dG.2 Marks.nil,?_,hA.fresh,hfr1,fun i=>.inl rfl,fun x l b hi hl=>.inr ⟨x,l,hi,hl⟩,trivial,hA.iv⟩
  ·refine H2 (N:=fn.ntmps) (v:=E2.val _) (fun t ht=>?_) Nc (fun t=>by rw[hE2v];exact hA.env t) t;rw[ez.e7 (E:=E2) ht];show AV.aq G m (EL (.yld (B+1)::caps) t) _;have hrl:AV.bb G m (.yld (B+1)::caps) args.toList:=by rw[hargs,abj];unfold AV.bb;exact⟨_,_,rfl,by unfold AV.aq;rfl,hcvs⟩
   rcases aaV t args.size with ht'|ht'
   ·have h1:(AV.yld (B+1)::caps)[t]?=some ((AV.yld (B+1)::caps)[t]'(by simp;omega)):=by simp
    obtain⟨v,h2,h3⟩:=AV.gf hrl h1;unfold EL;rw[aam,h1];simp only[aaj]at h2;simp only[aaA,acF ht',h2];exact h3
   ·unfold EL;rw[aam,aay (by simp;omega)];have:(args++abl (fn.ntmps-args.size) undef).getD t undef=undef:=by simp only[aaA,acA ht',Array.getElem?_replicate];split<;>rfl
    rw[this];show AV.aq G m .un undef;unfold AV.un AV.aq DV.aq;rfl
  ·show jt _ _ _ _ _ _ _ _ _ (xi fn.ntmps _ (.gst none) _ fn.ntmps) _;unfold xi;rw[if_neg (by omega),if_pos rfl];exact⟨rfl,.ready,none,(by intro e;cases e),hrec,fun c e=>by cases e;exact⟨rfl,fun _=>rfl⟩⟩
 have hY2:mz P none E2 (F0 P rcA rcB E.N fn.ntmps (B+1) ps.toList):=by
  refine⟨fun h=>(by cases h),fun l' xs s1 K a2 w2 vs G1 m1 hf1 hA1 hxs=>?_⟩;obtain⟨rfl,hlx,hgst,hrun⟩:=hf1;have hj1:=hA1.ki;rw[show s1.env E2.N=.gst none from hgst]at hj1;obtain⟨_,st,pd,_,hR,hpd⟩:=hj1;obtain⟨rfl,hst⟩:=hpd none rfl;obtain rfl:=hst rfl;have hlv:=AV.cd hxs;have hd2:a2.defers=[]:=(dG.1 hA1.defers).2.2 rfl;have hps:=Lp (ps:=ps.toList) (env:=yq fn.ntmps s1.env) (tmps:=a.tmps) hxs (fun t ht=>by
   have:=hA1.env (fn.ntmps+1+t);rw[hE2v,ez.e7 (by rw[<-hA.size];exact ht)]at this;exact this)
  let E3:LoopState->ez:=fun st=>{w0:=w,G0:=G,m0:=m,N:=E.N,cv:=zr (E2.val a2),J:=fun _ w'=>ie B fid a.tmps ps as bd a.defers st none E (s.env E.N) w',iy:=fun _ _ _ h hk=>h.keep hk,qw:=fun _ _ h=>h,IS:=fun _ _ _ _ h=>h,yd:=fun _ _ _ h=>h,qy:=fun _ _ _ _ h=>h,sk:=2,pq:=fun x w' r o hj hr=>hj.th hdlt hBE (by omega),GG:=fun x w' hj _=>(by have:=(aad.1 hj.jf).1;omega)};have hE3v:∀st a3 t,(E3 st).val a3 (E.N+1+t)=E2.val a2 t:=fun st a3 t=>Iz (E:=E3 st) rfl t;have hback:∀(s3:an) (a3:Act) (w3:World) (c:Option Code),df (E3 .busy) s3 a3 w3->∃w4,(Instr.endRound (B+1) c).run P w3=.ok (.bool c.isNone) w4/\df E2 (Bf E.N fn.ntmps c s3) a2 w4:=fun s3 a3 w3 c ⟨G3,m3,hA3⟩=>by
   have hR3:ie B fid a.tmps ps as bd a.defers .busy none E (s.env E.N) w3:=hA3.ki;refine⟨_,run_endRound c hR3.jf,G3,m3,hA3.ta (E':=E2) _ rfl rfl rfl (hA3.ew.putObj hR3.jf rfl) (hA3.frame.putObj (by show w.heap.size<=B+1;omega)) (fun t=>?_) hA1.size (by rw[hd2];exact dG.2 Marks.nil) ?_⟩
   ·unfold gb;split
    ·exact Nc
    ·have:=hA3.env (E.N+1+t);rw[hE3v]at this;exact this
   ·show jt B fid a.tmps ps as bd a.defers E (s.env E.N) (gb _ fn.ntmps (.gst c) fn.ntmps) _;unfold gb;rw[if_pos rfl];refine⟨rfl,_,_,?_,hR3.put hBE,fun c' e=>by cases e;exact⟨rfl,fun e=>by subst e;rfl⟩⟩;cases c<;>(intro e;cases e)
  refine⟨fid,_,as,bd,run_yield hR.jf (by simp only[List.size_toArray];rw[<-hlv,hlx];simp),?_⟩;refine roundIn_of_wpIn (oC none _) ?_;have hfold:((ps.zip vs.toArray).foldl (fun(tmps:Array Value) (x:Tmp×Value)=>tmps.setIfInBounds x.1 x.2) a.tmps)=(ps.toList.zip vs).foldl (fun tmps (t,a)=>tmps.setIfInBounds t a) a.tmps:=by rw[<-Array.foldl_toList,Array.toList_zip]
  have hA3:ir (E3 .ready) G1 m1 (Gn E.N fn.ntmps ps.toList xs s1) {tmps:=(ps.toList.zip vs).foldl (fun tmps (t,a)=>tmps.setIfInBounds t a) a.tmps,defers:=[]} w2:=by refine hA1.ta (E':=E3 .ready) _ rfl rfl rfl hA1.ew hA1.frame (H2 (N:=E.N) (v:=(E3 .ready).val _) (fun t ht=>?_) yh (fun t=>by rw[hE3v];exact hA1.env t)) (by rw[hps.1];exact hA.size) (dG.2 Marks.nil) hR;rw[ez.e7 (E:=E3 .ready) ht];exact hps.2 t (by rw[hA.size];exact ht)
  have hgoal:=bA hm hAs (some (B+1)) jQ (E3 .ready) _ _ _ _ mz.body rfl hrun ⟨G1,m1,hA3⟩;rw[<-hfold]at hgoal;refine wpIn_mono hgoal fun e a3 w3 ⟨s3,hq3,G3,m3,hA3'⟩=>?_;cases e with
  |normal=>
   have hR3:ie B fid a.tmps ps as bd a.defers .ready none E (s.env E.N) w3:=hA3'.ki;refine⟨_,run_beginRound hR3.jf rfl,?_⟩;have hA4:ir (E3 .busy) G3 m3 s3 a3 (w3.putObj (B+1) (.loop {state:=.busy,pending:=none,fn:=fid,tmps:=a.tmps,params:=ps,assign:=as,body:=bd,defers:=B})):=by
    have:=hA3'.ta (E':=E3 .busy) s3.env rfl rfl rfl (hA3'.ew.putObj (o':=.loop {state:=.busy,pending:=none,fn:=fid,tmps:=a.tmps,params:=ps,assign:=as,body:=bd,defers:=B}) hR3.jf rfl) (hA3'.frame.putObj (by show w.heap.size<=B+1;omega)) hA3'.env hA3'.size
     (dG.2 ⟨fun d hd=>by
      obtain⟨r,q1,q2,q3⟩:=(dG.1 hA3'.defers).1 d hd;refine⟨r,q1,q2,?_⟩;rw[World.putObj_heap_other (fun e=>by subst e;rw[hR3.jf]at q3;cases q3)];exact q3,(dG.1 hA3'.defers).2⟩) (hR3.put hBE)
    exact this
   refine wpIn_mono (bA hm hBd (some (B+1)) jQ (E3 .busy) _ _ _ _ mz.body rfl hq3 ⟨G3,m3,hA4⟩) fun e a5 w5 ⟨s5,hq5,hA5⟩=>?_;cases e with
   |normal=>obtain⟨w6,h1,h2⟩:=hback _ _ _ none hA5;exact⟨_,w6,h1,true,_,rfl,hq5,h2⟩
   |ret=>obtain⟨w6,h1,h2⟩:=hback _ _ _ (some .ret) hA5;exact⟨_,w6,h1,false,_,rfl,hq5,h2⟩
   |exit id=>obtain⟨w6,h1,h2⟩:=hback _ _ _ (some (.exit id)) hA5;exact⟨_,w6,h1,false,_,rfl,hq5,h2⟩
   |goto l=>exact hq5.elim
   |panic ch=>exact hq5.elim
   |outgrown=>exact hq5.elim
  |_=>exact hq3.elim
 refine wpIn_mono (bA hm hrc none _ E2 _ _ _ _ hY2 rfl (h (B+1)) ⟨G,m,hent⟩) fun e a' w' ⟨s2,⟨he,hend⟩,G1,m1,hA2⟩=>?_;have key:∀w',ir E2 G1 m1 s2 {tmps:=a'.tmps,defers:=[]} w'->∃v,(results fn a'.tmps).run P w'=.ok v w'/\rangePost (FR none) 0 P (B+1) (AS E Q) {a with defers:=[{target:=.collected B,args:=#[]}]++a.defers} (.returned v) w':=fun w' hA2=>by
  refine⟨.tuple #[],by simp[results,hres],?_⟩;have hj2:=hA2.ki;obtain⟨_,st,pd,hnb,hR,hpd⟩:=hj2;have hw4:df E (Aj E.N fn.ntmps s2) {a with defers:=[{target:=.collected B,args:=#[]}]++a.defers} (w'.putObj (B+1) (.loop {state:=.exhausted,pending:=pd,fn:=fid,tmps:=a.tmps,params:=ps,assign:=as,body:=bd,defers:=B})):=by
   have hR4:=hR.put (st':=.exhausted) (pd':=pd) hBE;have hfr:=hA2.frame.putObj (r:=B+1) (o:=.loop {state:=.exhausted,pending:=pd,fn:=fid,tmps:=a.tmps,params:=ps,assign:=as,body:=bd,defers:=B}) (by show w.heap.size<=B+1;omega);refine⟨G1,m1,by rw[Aj,IQ];exact hA2.ew.putObj hR.jf rfl,fun t=>?_,hA.size,?_,?_,hA2.fresh,hA.frame.step hfr (fun b hb q=>hA.gq hb q) (fun b hb q=>hA.gq hb q),fun i=>(hA.base i).trans (hA2.base i),fun x l b hi hl=>?_,trivial,hA2.iv⟩
   ·show AV.aq G1 m1 (gb (yq fn.ntmps s2.env) E.N .any t) _;unfold gb;split
    ·exact yh
    ·have:=hA2.env (fn.ntmps+1+t);rw[hE2v]at this;exact this
   ·rw[hdt];refine dG.2 ⟨fun d hd=>?_,?_,fun e=>by rw[hnd]at e;cases e⟩
    ·rcases aau.1 hd with hd|hd
     ·simp only[aai]at hd;subst hd;exact⟨B,rfl,hBE,hR4.fh⟩
     ·exact hR4.marks.1 d hd
    ·refine abk.2 ⟨fun hd=>?_,hR4.marks.2.1⟩;exact acs _ (hdlt _ hd B rfl)
   ·show E.J (gb (yq fn.ntmps s2.env) E.N .any E.N) _;unfold gb;rw[if_pos rfl];exact E.qw _ _ hR4.j
   ·rcases hA2.own x l b hi hl with h1|h1
    ·exact .inl (aaG hA.frame.size h1)
    ·rcases aaV b E.w0.heap.size with h2|h2
     ·exact .inr (hA.gq h2 h1)
     ·exact .inl h2
  refine⟨pd,_,run_endLoop hR.jf hnb,?_⟩;generalize hgs:s2.env E2.N=gs at hpd;have hend':Bu Q (Aj E.N fn.ntmps s2) gs:=by rw[<-hgs];exact hend
  unfold Bu at hend';split at hend'
  ·obtain⟨rfl,_⟩:=hpd _ rfl;exact⟨_,hend',hw4⟩
  ·obtain⟨rfl,_⟩:=hpd _ rfl;exact wpIn_exit ⟨_,hend',hw4⟩
  ·obtain⟨rfl,_⟩:=hpd _ rfl;exact wpIn_ret ⟨_,hend',hw4⟩
  ·exact hend'.elim
 rcases he with rfl|rfl<;>exact uJ rfl a'.defers w' hA2 key
theorem ir.BU(h:ir E G m s a w)(henv:∀t,s'.env t=s.env t)(hnx:s.nx<=s'.nx)(hown:(∀i,s.nx<=i->s.own i=none)->∀i,s'.nx<=i->s'.own i=none)(hp:tp G m s none s' w v w'):df E s' a w':=by
 obtain⟨G',m',hS,_,hF,hle,hB,hO,hnew⟩:=hp;have hk:gu w w':=hF.keep (fun b q=>h.ew.data q);refine⟨G',m',hS,fun t=>?_,h.size,h.defers.keep hk,by rw[henv];exact E.iy _ _ _ h.ki hk,fun i hi=>?_,h.frame.step hF (fun b hb q=>h.gq hb q) (fun b hb q=>h.gq hb q),fun i=>(h.base i).trans (hB i),fun x l b hi hl=>?_,h.qq,hown h.iv⟩
 ·rw[henv t];exact AV.aq.mono hF.le hle _ _ (h.env t)
 ·exact(hO i (.inr hi)).none (h.fresh i (aaG hnx hi))
 ·rcases hnew x l b hi hl with h1|h1
  ·exact .inl (aaG h.frame.size h1)
  ·rcases aaV b E.w0.heap.size with h2|h2
   ·exact .inr (h.gq h2 h1)
   ·exact .inl h2
def Tq(N:Nat)(xs:List AV)(env:Nat->AV):Nat->AV:=xi N env .any fun t=>xs.getD t .any
def BD(N:Nat)(xs:List AV)(s:an):an:=s.withEnv (Tq N xs s.env)
def qg(N:Nat)(s:an):Nat->List AV
 |0=>[]
 |n+1=>qg N s n++[s.env (N+1+n)]
def xd(P:Program):List bo->(an->Prop)->(Exit->an->Prop)->an->Prop
 |[],K,_,s=>K s
 |rc::rcs,K,Q,s=>gD P jQ rc (yJ (xd P rcs K Q) Q) s
def lX(P:Program)(fl:List Nat)(N:Nat):List Code->Option (List bo)
 |[]=>some []
 |c::cs=>match aH P fl N c,lX P fl N cs with
  |some x,some y=>some (x::y)
  |_,_=>none
theorem Jz{P:Program}{fl:List Nat}{N:Nat}(hm:P.follows .mixedOrders=true){E:ez}(hE:E.N=N){c:Code}{K:an->Prop}{Q:Exit->an->Prop}{R:Exit->Act->World->Prop}
  (hK:∀s a w,K s->df E s a w->c.wpIn (FR none) 0 P R a w) (hQ:∀e s a w,Q e s->df E s a w->R e a w):∀{cs:List Code} {rcs:List bo} {s:an} {a:Act} {w:World},lX P fl N cs=some rcs->xd P rcs K Q s->df E s a w->(cs.foldr Code.seq c).wpIn (FR none) 0 P R a w
 |[],rcs,s,a,w,hr,h,hA=>by
  unfold lX at hr;cases hr;exact hK s a w h hA
 |d::cs,rcs,s,a,w,hr,h,hA=>by
  unfold lX at hr;split at hr
  ·rename_i x y h1 h2;cases hr;subst hE;refine wpIn_seq ?_;refine wpIn_mono (bA hm h1 none jQ E _ _ _ _ mz.body rfl h hA) fun e a' w' ⟨s',hq,hA'⟩=>?_;cases e with
   |normal=>exact Jz hm rfl hK hQ h2 hq hA'
   |_=>exact hQ _ _ _ _ hq hA'
  ·cases hr
theorem Kj{r:Option Nat}{P:Program}{ops:Array Oper}{E:ez}{Q:Exit->Act->World->Prop}{tl:List Oper}:∀{os:List Oper} {ros:List RO} {s:an} {a:Act} {w:World} {K:an->Prop},yB P ops E.N os ros->lH P ros s K->df E s a w->
  (∀s' a' w',K s'->df E s' a' w'->wpListIn (FR r) 0 P ops Q tl a' w')->wpListIn (FR r) 0 P ops Q (os++tl) a w
 |[],[],s,a,w,K,_,h,hA,hQ=>hQ _ _ _ h hA
 |[],_::_,_,_,_,_,hr,_,_,_=>hr.elim
 |_::_,[],_,_,_,_,hr,_,_,_=>hr.elim
 |o::os,ro::ros,s,a,w,K,hr,h,hA,hQ=>
  Ct (K:=fun s'=>lH P ros s' K) hr.1 h hA fun s' a' w' hK hA'=>Kj hr.2 hK hA' hQ
theorem Kl{G:Gh}{m:HM}{N:Nat}{s:an}{vs:List Value}(h:∀i v,vs[i]?=some v->AV.aq G m (s.env (N+1+i)) v):∀k,k<=vs.length->AV.bb G m (qg N s k) (vs.take k)
 |0,_=>by simp[qg,AV.bb]
 |k+1,hk=>by
  have h1:vs[k]?=some vs[k]:=by simp
  rw[List.take_add_one,h1];unfold qg;refine AV.cw (Kl h k (by omega)) ?_;unfold AV.bb;exact⟨_,_,rfl,h k _ h1,by unfold AV.bb;rfl⟩
def FJ(l:List Oper):Option (List Oper×Oper):=match l.reverse with
 |od::r=>some (r.reverse,od)
 |[]=>none
theorem WN{l:List Oper}{od:Oper}(h:FJ l=some (os,od)):l=os++[od]:=by
 unfold FJ at h;split at h
 ·rename_i x r e;cases h;have:=congrArg List.reverse e;simpa using this
 ·cases h
def PE(P:Program)(fl:List Nat)(N:Nat)(ops:Array Oper):Option (List RO×FuncId×List Operand):=
 match FJ ops.toList with
 |some (os,od)=>match od.op with
  |.defer cl=>match cl.callee with
   |.value (.func g)=>if(od.guard.isNone&&od.dst.isNone&&cl.args.toList.all (Operand.mg N))=true then(gC P fl N ops os).map fun ros=>(ros,g,cl.args.toList)else none
   |_=>none
  |_=>none
 |none=>none
def Gy(P:Program)(fl:List Nat)(N:Nat):Code->Option (List RO×FuncId×List Operand)
 |.region _ ops false=>PE P fl N ops
 |_=>none
def fD(P:Program)(fl:List Nat)(N:Nat):Code->Option (List bo×List RO×FuncId×List Operand×bo)
 |.seq a b=>match Gy P fl N a with
  |some (ros,g,xs)=>(aH P fl N b).map fun rc=>([],ros,g,xs,rc)
  |none=>match aH P fl N a,fD P fl N b with
   |some x,some (rcs,r)=>some (x::rcs,r)
   |_,_=>none
 |_=>none
theorem Xu{g:FuncId}(h:Gy P fl N c=some (ros,g,xs)):∃id ops os od cl,c=.region id ops false/\ops.toList=os++[od]/\od.op=.defer cl/\od.guard=none/\od.dst=none/\
  cl.callee=.value (.func g)/\cl.args.toList.all (Operand.mg N)=true/\gC P fl N ops os=some ros/\xs=cl.args.toList:=by
 unfold Gy at h;split at h
 case h_2=>cases h
 rename_i id ops;unfold PE at h;split at h
 case h_2=>cases h
 rename_i os od hl;split at h
 case h_2=>cases h
 rename_i cl hop;split at h
 case h_2=>cases h
 rename_i g' hc;rw[ζ]at h;obtain⟨hb,h⟩:=h;rw[ι]at h;obtain⟨ros',hr,e⟩:=h;cases e;simp only[μ,ab9]at hb;exact⟨id,ops,os,od,cl,rfl,WN hl,hop,hb.1.1,hb.1.2,hc,hb.2,hr,rfl⟩
theorem Kv{P:Program}{fl:List Nat}{N:Nat}:∀{c:Code} {rcs:List bo} {ros:List RO} {g:FuncId} {xs:List Operand} {rc:bo},fD P fl N c=some (rcs,ros,g,xs,rc)->
  ∃cs id ops os od cl rest,c=cs.foldr Code.seq (.seq (.region id ops false) rest)/\lX P fl N cs=some rcs/\ops.toList=os++[od]/\od.op=.defer cl/\od.guard=none/\od.dst=none/\
  cl.callee=.value (.func g)/\cl.args.toList.all (Operand.mg N)=true/\gC P fl N ops os=some ros/\xs=cl.args.toList/\aH P fl N rest=some rc
 |.seq a b,rcs,ros,g,xs,rc,h=>by
  unfold fD at h;split at h
  ·rename_i ros' g' xs' hd;rw[ι]at h;obtain⟨rc',hr,e⟩:=h;cases e;obtain⟨id,ops,os,od,cl,rfl,h1,h2,h3,h4,h5,h6,h7,h8⟩:=Xu hd;exact⟨[],id,ops,os,od,cl,b,rfl,rfl,h1,h2,h3,h4,h5,h6,h7,h8,hr⟩
  ·split at h
   case h_2=>cases h
   rename_i x rcs' r' hx hD;cases h;obtain⟨cs,id,ops,os,od,cl,rest,rfl,h0,hrest⟩:=Kv hD;exact⟨a::cs,id,ops,os,od,cl,rest,rfl,by unfold lX;rw[hx,h0],hrest⟩
 |.skip,_,_,_,_,_,h=>by unfold fD at h;cases h
 |.region ..,_,_,_,_,_,h=>by unfold fD at h;cases h
 |.cond ..,_,_,_,_,_,h=>by unfold fD at h;cases h
 |.block ..,_,_,_,_,_,h=>by unfold fD at h;cases h
 |.loop ..,_,_,_,_,_,h=>by unfold fD at h;cases h
 |.exit ..,_,_,_,_,_,h=>by unfold fD at h;cases h
 |.scope ..,_,_,_,_,_,h=>by unfold fD at h;cases h
 |.ret,_,_,_,_,_,h=>by unfold fD at h;cases h
 |.rangeFunc ..,_,_,_,_,_,h=>by unfold fD at h;cases h
 |.label ..,_,_,_,_,_,h=>by unfold fD at h;cases h
 |.goto ..,_,_,_,_,_,h=>by unfold fD at h;cases h
 |.refuse ..,_,_,_,_,_,h=>by unfold fD at h;cases h
def x9(P:Program)(f:FuncId)(args:List AV)(pv:Value):Option (AV×List bn)->Prop
 |some p=>de P f args [] p.1 [] p.2
 |none=>wj P f args pv
theorem bIf{P:Program}(h0:E.w0=w)(h1:E.G0=G)(h2:E.m0=m)(hN:E.N=N)(hS:cf G m (gH bs []) w){m1:HM}(hA':ir E G1 m1 s a' w')
  (hn:bs.length=n) (hbs:((abc n).map fun i=>(s.bs i).map (bn.conv s.lk (jx [])))=bs'):pZ w G m (gH bs' []) .any undef w':=by subst hn;obtain⟨v,_,G2,m2,a1,a2,a3,a4,a5,a6⟩:=Au (P:=P) (fn:={(default:Func)with ntmps:=N,results:=#[]}) (rs:=[]) (r:=.cn []) (bs':=bs') (nbs:=[]) ⟨fun x hx=>by simp at hx,rfl⟩ h0 h1 h2 hN hS hA' (e:=.ret) ⟨.inr rfl,[],.cn [],ab7,rfl,rfl,hbs,rfl⟩;exact⟨G2,m2,a1,yh,a3,a4,a5,a6⟩
def pw(P:Program)(f:FuncId)(args:List AV)(bs:List (Option bn))(u u1:FrameMode)(bs':List (Option bn)):Prop:=
 x7 P f/\∀(w:World) (G:Gh) (m:HM) (vs:Array Value),cf G m (gH bs []) w->(∀i,m (.O i)=none)->AV.bb G m args vs.toList->
  CallsDIn (FR none) 0 P f vs u w fun e u' w'=>u'=u1/\∃v,e=.returned v/\pZ w G m (gH bs' []) .any v w'
def ER(u u1:FrameMode)(pv:Value):Prop:=∀(c0:Frame) (cs:List Frame),c0.mode=u->(recoverD (c0::cs)=none/\pv=.nilIface/\u1=u)\/recoverD (c0::cs)=some (pv,{c0 with mode:=u1}::cs)
theorem YK:ER .returning .returning .nilIface:=fun c0 cs h=>.inl ⟨by simp[recoverD,h],rfl,rfl⟩
theorem bBp:ER (.panicking [{v:=pv,recovered:=false}]) (.panicking [{v:=pv,recovered:=true}]) pv:=fun c0 cs h=>.inr (by simp[recoverD,h])
def BC(args:List AV)(bs:List (Option bn))(t:Nat)(v:Value):an:=(entry args bs).put (some t) (.D (.C v)) [] []
theorem pw.uc(fl:List Nat){f:FuncId}{cl:Call}{rest:Code}{rc:bo}{rs:List ee}{u1:FrameMode}{r:AV}
  (hf:P.funcs[f]?=some fn) (hb:fn.body=some (.seq (.region id #[o] false) rest)) (hname:(fn.name== "runtime.NumGoroutine")=false)
  (ho:o.op=.call cl) (hcl:cl.callee=.builtin .recover) (hca:cl.args=#[]) (hog:o.guard=none) (hot:o.dst=some t) (ht:t<fn.ntmps) (hm:P.follows .mixedOrders=true) (hrc:aH P fl fn.ntmps rest=some rc) (hrs:fF P fn.ntmps fn.results.toList=some rs)
  (hn:args.length<=fn.ntmps) (hrec:ER u u1 pv) (hw0:Wk (BC args bs t pv) s0) (h:gD P jQ rc (tZ bs.length rs r bs' []) s0):pw P f args bs u u1 bs':=by
 have hrs0:=CU hrs;refine⟨⟨fn,hf,by rw[hb];rfl,hname⟩,fun w G m vs hS hO hA=>callsDIn_of_wpSIn hf hb (oC none f) fun c0 cs hu=>?_⟩;refine wpSIn_seq (wpSIn_region ?_);have hnd:∀c,o.op≠.defer c:=fun c e=>by rw[ho]at e;cases e
 have hrun:∀ρ:Operand->Value,(execOp ρ o).run P w=.ok .recover w:=fun ρ=>by simp[execOp,ho,resolve,hcl,hca,invoke,builtin]
 have hent:=xU true hn hS hO hA;have hsim:∀pv',pv'=pv->df {w0:=w,G0:=G,m0:=m,N:=fn.ntmps,nd:=true:ez} (BC args bs t pv) (({tmps:=vs++abl (fn.ntmps-vs.size) undef,defers:=[]}:Act).put (some t) pv') w:=fun pv' e=>by subst e;exact hent.step (dst:=some t) (fun d hd=>by cases hd;exact ht) (bj.val hent.ew (by unfold AV.aq DV.aq;rfl))
 have key:∀(a:Act),df {w0:=w,G0:=G,m0:=m,N:=fn.ntmps,nd:=true:ez} (BC args bs t pv) a w->∀cs1,cs1={c0 with mode:=u1}::cs->rest.wpSIn (FR none) 0 P (bodyPostS P fn c0 cs fun e u' w'=>u'=u1/\∃v,e=.returned v/\pZ w G m (gH bs' []) .any v w') a cs1 w:=fun a ha cs1 hcs=>by
  refine wpSIn_of_wpIn rfl (wpIn_mono (bA hm hrc none jQ _ _ _ _ _ mz.body rfl h (hw0 _ _ _ ha)) fun e a' w' ⟨s00,⟨s,hw,hq⟩,hA0⟩=>?_);obtain⟨G1,m1,hA'⟩:=hw _ _ _ hA0;obtain⟨v,hv,hp⟩:=Au hrs0 rfl rfl rfl rfl hS hA' hq;have hd:a'.defers=[]:=(dG.1 hA'.defers).2.2 rfl;have hp':pZ w G m (gH bs' []) .any v w':=by obtain⟨G2,m2,a1,_,a3⟩:=hp;exact⟨G2,m2,a1,yh,a3⟩
  rcases hq.1 with rfl|rfl<;>exact⟨hd,u1,hcs,v,hv,rfl,v,rfl,hp'⟩
 have hab:∀f',o.about P w (({tmps:=vs++abl (fn.ntmps-vs.size) undef,defers:=[]}:Act).eval)=some f'->(FR none).fn f':=fun f' _=>oC none f';have hw:Region.wanted o (yielded #[o] (vs++abl (fn.ntmps-vs.size) undef))=true:=by simp[Region.wanted,hog]
 show wpOpsSIn _ _ _ #[o] _ [0] _ _ _;unfold wpOpsSIn;simp only[List.getElem?_toArray,abA];refine⟨hab,?_⟩;rw[if_pos hw,hrun];rcases hrec c0 cs hu with⟨h1,h2,h3⟩|h1
 ·rw[h1];simp only;unfold wpOpsSIn;refine key _ ?_ _ ?_
  ·rw[hot];exact hsim _ h2.symm
  ·rw[h3,<-hu]
 ·rw[h1];simp only;unfold wpOpsSIn;refine key _ ?_ _ rfl;rw[hot];exact hsim _ rfl
theorem Ot{P:Program}{fn:Func}{E:ez}{G:Gh}{m:HM}{s:an}{R:Ending->World->Prop}{tmps:Array Value}{u:FrameMode}(hu:u≠.run):∀(ms:List Deferred) (w:World),ir E G m s {tmps:=tmps,defers:=ms++E.dt} w->Marks (E.w0.heap.size+E.sk) E.nd ms w->
  (∀w',ir E G m s {tmps:=tmps,defers:=E.dt} w'->LeavesInM (FR none) 0 P fn tmps R E.dt u w')->LeavesInM (FR none) 0 P fn tmps R (ms++E.dt) u w
 |[],w,h,_,hR=>hR w h
 |d::ms,w,h,hM,hR=>by
  obtain⟨r,rfl,hr1,hr2⟩:=hM.1 d (by simp);have hnd:=hM.2.1;have hM':Marks (E.w0.heap.size+E.sk) E.nd ms (w.putObj r (.deferred none)):=by refine⟨fun d' hd'=>?_,(abk.1 hnd).2,fun e=>by have:=hM.2.2 e;cases this⟩;obtain⟨r',rfl,q1,q2⟩:=hM.1 d' (by simp[hd']);refine⟨r',rfl,q1,?_⟩;rw[World.putObj_heap_other (fun e=>(abk.1 hnd).1 (by subst e;exact hd'))];exact q2
  refine⟨hu,.inl ⟨r,w.putObj r (.deferred none),rfl,run_takeDeferred hr2,Ot hu ms _ ?_ hM' hR⟩⟩;exact⟨h.ew.putObj hr2 rfl,h.env,h.size,⟨ms,rfl,hM'⟩,E.pq _ _ _ _ h.ki hr1,h.fresh,h.frame.putObj (aaG (abJ _ _) hr1),h.base,h.own,h.qq,h.iv⟩
def EO(P:Program)(N n:Nat)(g:FuncId)(k:Nat)(rs:List ee)(r:AV)(bs':List (Option bn))(nbs:List bn):Exit->an->Prop:=fun e s=>
 ∃u u1,(((e=.normal\/e=.ret)/\u=.returning/\u1=.returning)\/∃pv,e=.panic [{v:=pv,recovered:=false}]/\u=.panicking [{v:=pv,recovered:=false}]/\u1=.panicking [{v:=pv,recovered:=true}])/\
  ∃hs ma,hs.Nodup/\sn s.nx hs=true/\(∀h∈hs,(s.lk h).any bn.qe=false)/\ma.length=hs.length/\
  pw P g (AV.bq s.lk (np hs) (qg N s k)) (uN s.lk hs) u u1 ma/\tZ n rs r bs' nbs .ret (hH s hs (qg N s k) none .any ma [])
theorem de.py(fl:List Nat){f:FuncId}(cs:List Code){od:Oper}{cl:Call}{g:FuncId}{rest:Code}{rcs:List bo}{rc:bo}{rs:List ee}{r:AV}
  (hf:P.funcs[f]?=some fn) (hb:fn.body=some (cs.foldr Code.seq (.seq (.region id ops false) rest))) (hname:(fn.name== "runtime.NumGoroutine")=false) (hm:P.follows .mixedOrders=true)
  (hcs:lX P fl fn.ntmps cs=some rcs) (hops:ops.toList=os++[od]) (hod:od.op=.defer cl) (hog:od.guard=none) (hdst:od.dst=none) (hcl:cl.callee=.value (.func g)) (hxs:cl.args.toList.all (Operand.mg fn.ntmps)=true)
  (hos:gC P fl fn.ntmps ops os=some ros) (hrest:aH P fl fn.ntmps rest=some rc) (hrs:fF P fn.ntmps fn.results.toList=some rs)
  (hn:args.length<=fn.ntmps) (hw0:Wk (entry args bs) s0) (h:xd P rcs (fun s=>lH P ros s fun s'=>gD P jQ rc (EO P fn.ntmps bs.length g cl.args.size rs r bs' nbs) (BD fn.ntmps (cl.args.toList.map s'.ev) s')) (tZ bs.length rs r bs' nbs) s0):de P f args bs r bs' nbs:=by
 have hrs0:=CU hrs;refine fun w G m vs hS hO hA=>.inl ⟨⟨fn,hf,by rw[hb];rfl,hname⟩,DE (r:=none) (n:=0) (callsIn_of_wp_marks hf hb (oC none f) ?_)⟩;have hent:=xU true hn hS hO hA;refine Jz hm (N:=fn.ntmps) rfl (fun s a1 w1 hK hA1=>?_) (fun e s a1 w1 hq hA1=>?_) hcs h (hw0 _ _ _ ⟨G,m,hent⟩)
 ·refine wpIn_seq (wpIn_region_list ?_);rw[hops];refine Kj (kQ hos) hK hA1 fun s' a2 w2 hq ⟨G2,m2,hA2⟩=>?_;unfold wpListIn;rw[if_pos (by simp[Region.wanted,hog])];unfold Oper.wpIn;refine⟨fun f' _=>oC none f',?_⟩;rw[UL,Oper.semAt_none];have hexec:(execOp a2.eval od).run P w2=.ok (.defer {target:=.fn (.func g) #[],args:=cl.args.map a2.eval}) w2:=by simp only[execOp,hod,resolve,hcl,Deferred.ofValue,Act.eval,Sem.run_bind];simp
  rw[hexec,Oper.uponIn_defer,hdst];unfold wpListIn;show Exit.then _ _ .normal _ _;show rest.wpIn _ _ _ _ _ _;have hd0:a2.defers=[]:=(dG.1 hA2.defers).2.2 rfl;obtain⟨d,hd⟩:∃d:Deferred,d={target:=.fn (.func g) #[],args:=cl.args.map a2.eval}:=⟨_,rfl⟩;have hrl:AV.bb G2 m2 (cl.args.toList.map s'.ev) d.args.toList:=by rw[hd,abm];exact AV.gn fun x hx=>hA2.oc x (aa1.1 hxs x hx)
  let E2:ez:={w0:=w,G0:=G,m0:=m,N:=fn.ntmps,cv:=zr fun i=>d.args.toList.getD i undef,dt:=[d]};have hE2v:∀a t,E2.val a (fn.ntmps+1+t)=d.args.toList.getD t undef:=fun a t=>Iz (E:=E2) (f:=fun i=>d.args.toList.getD i undef) rfl t;have hA3:ir E2 G2 m2 (BD fn.ntmps (cl.args.toList.map s'.ev) s') {a2 with defers:=d::a2.defers} w2:=by
   refine hA2.ta (E':=E2) _ rfl rfl rfl hA2.ew hA2.frame (H2 (N:=fn.ntmps) (v:=E2.val _) (fun t ht=>?_) yh fun t=>?_) hA2.size ⟨[],by rw[hd0];rfl,Marks.nil⟩ trivial
   ·have:=hA2.env t;rw[ez.e7 ht]at this;rw[ez.e7 (E:=E2) ht];exact this
   ·rw[hE2v];rw[aam,aam];cases h1:(cl.args.toList.map s'.ev)[t]?with
    |none=>exact yh
    |some x=>
     obtain⟨v,h2,h3⟩:=AV.gf hrl h1;rw[h2];exact h3
  rw[<-hd];refine wpIn_mono (bA hm hrest none jQ E2 _ _ _ _ mz.body rfl hq ⟨G2,m2,hA3⟩) fun e a' w' ⟨s,hq,G1,m1,hA1⟩=>?_;obtain⟨u,u1,he,hs,ma,hnd,hok,hits,hlen,hcall,hend⟩:=hq;obtain⟨tmps,ds⟩:=a';obtain⟨ms,e1,hM⟩:=hA1.defers;have e1:ds=ms++E2.dt:=e1;subst e1;obtain⟨fd,hfd,hbd,hnm⟩:=hcall.1;have hset:settle u1=.returning:=by rcases he with⟨_,_,rfl⟩|⟨pv,_,_,rfl⟩<;>rfl
  have hur:u≠.run:=by rcases he with⟨_,rfl,_⟩|⟨pv,_,rfl,_⟩<;>(intro e;cases e)
  have key:LeavesInM (FR none) 0 P fn tmps (fun e w'=>∃v,e=.returned v/\pZ w G m (gH bs' nbs) r v w') (ms++E2.dt) u w':=by
   refine Ot (E:=E2) hur ms w' hA1 hM fun w4 h4=>?_;refine⟨hur,.inr ⟨fun hd=>by simp[FR,Fence.wide]at hd,.func g,#[],g,d.args,by rw[hd],?_,fun f' _=>oC none f',?_⟩⟩
   ·rw[hd];have hnone:fd.body.isNone=false:=by cases hb2:fd.body<;>rw[hb2]at hbd<;>simp_all
    simp only[invoke,callFunc,Sem.run_bind,run_program,hfd,hnm,hnone,abu,if_false,Result.andThen_ok];simp
   ·obtain⟨c1,c2,c3,c4⟩:=NX (s:=s) (dst:=none) (vals:=qg fn.ntmps s cl.args.size) (r:=.any) (nbs:=[]) hnd hok hits hlen;have hrep4:AV.bb G1 m1 (qg fn.ntmps s cl.args.size) d.args.toList:=by
     have:=Kl (G:=G1) (m:=m1) (N:=fn.ntmps) (s:=s) (vs:=d.args.toList) (fun i v hi=>by
      have:=h4.env (fn.ntmps+1+i);rw[hE2v,aam,hi]at this;exact this) cl.args.size (by rw[hd];simp)
     rwa[List.take_of_length_le (by rw[hd];simp)]at this
    obtain⟨G3,m3,hS3,hO3,hr3,hpost⟩:=c4 G1 m1 w4 d.args h4.ew hrep4 (fun j hj _=>h4.fresh j hj);refine(hcall.2 w4 G3 m3 d.args hS3 hO3 hr3).mono ?_;rintro e u' w5 ⟨hu',v,rfl,hp⟩;have hA5:ir {w0:=w,G0:=G,m0:=m,N:=fn.ntmps,cv:=zr fun i=>d.args.toList.getD i undef:ez} G1 m1 s {tmps:=tmps,defers:=[]} w4:=
     ⟨h4.ew,h4.env,h4.size,dG.2 Marks.nil,trivial,h4.fresh,h4.frame,h4.base,h4.own,trivial,h4.iv⟩
    obtain⟨s6,hw6,hq6⟩:=hend;obtain⟨G6,m6,hA6⟩:=hw6 _ _ _ (hA5.BU (fun t=>c1 t (by simp)) c2 c3 (hpost v w5 hp));obtain⟨v6,hv6,hp6⟩:=Au hrs0 rfl rfl rfl rfl hS hA6 hq6;show LeavesInM _ _ _ _ _ _ [] (settle u') _;rw[hu',hset];exact⟨v6,hv6,v6,rfl,hp6⟩
  rcases he with⟨rfl|rfl,rfl,_⟩|⟨pv,rfl,rfl,_⟩<;>exact key
 ·obtain⟨s',hw,hq⟩:=hq;obtain⟨G1,m1,hA'⟩:=hw _ _ _ hA1;have key:∀w',ir {w0:=w,G0:=G,m0:=m,N:=fn.ntmps,nd:=true:ez} G1 m1 s' {tmps:=a1.tmps,defers:=[]} w'->∃v,(results fn a1.tmps).run P w'=.ok v w'/\∃v',Ending.returned v=.returned v'/\pZ w G m (gH bs' nbs) r v' w':=fun w' hA'=>by obtain⟨v,hv,hp⟩:=Au hrs0 rfl rfl rfl rfl hS hA' hq;exact⟨v,hv,v,rfl,hp⟩
  rcases hq.1 with rfl|rfl<;>exact uJ rfl a1.defers w1 hA' key
theorem de.pj(fl:List Nat){f:FuncId}{g:FuncId}{rcs:List bo}{rc:bo}{rs:List ee}{r:AV}
  (hf:P.funcs[f]?=some fn) (hb:fn.body=some c) (hname:(fn.name== "runtime.NumGoroutine")=false) (hm:P.follows .mixedOrders=true)
  (hrc:fD P fl fn.ntmps c=some (rcs,ros,g,xs,rc)) (hrs:fF P fn.ntmps fn.results.toList=some rs)
  (hn:args.length<=fn.ntmps) (hw0:Wk (entry args bs) s0) (h:xd P rcs (fun s=>lH P ros s fun s'=>gD P jQ rc (EO P fn.ntmps bs.length g xs.length rs r bs' nbs) (BD fn.ntmps (xs.map s'.ev) s')) (tZ bs.length rs r bs' nbs) s0):de P f args bs r bs' nbs:=by obtain⟨cs,id,ops,os,od,cl,rest,rfl,h0,h1,h2,h3,h4,h5,h6,h7,rfl,h8⟩:=Kv hrc;exact de.py fl cs hf hb hname hm h0 h1 h2 h3 h4 h5 h6 h7 h8 hrs hn hw0 (by simpa using h)
end Go.Eng
