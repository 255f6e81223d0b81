/- Texts of this claim. -/
import Derived.Test.YtloponjgedpffaaGreatE14d
import Derived.Maps.RangeRun
set_option linter.all false
set_option linter.unusedSimpArgs false
set_option linter.unusedVariables false
namespace Go.Eng
open Go.RowKit

mutual
theorem AV.hfree_rep {G:Gh} {m m':HM}:∀ (a:AV) (v:Value),a.hfree=true->AV.Rep G m a v->AV.Rep G m' a v
 | .D x,v,_,q=>by unfold AV.Rep at q |-;exact q
 | .fl x,v,_,q=>by unfold AV.Rep at q |-;exact q
 | .agg cs,v,h,q=>by
  unfold AV.hfree at h
  unfold AV.Rep at q |-
  obtain ⟨vs,h1,h2⟩:=q
  exact ⟨vs,h1,AV.hfreeL_rep cs _ h h2⟩
 | .any,_,h,_=>by cases h
 | .sc,_,h,_=>by cases h
 | .ab,_,h,_=>by cases h
 | .ptr _ _,_,h,_=>by cases h
 | .eptr _ _ _ _,_,h,_=>by cases h
 | .rop _,_,h,_=>by cases h
 | .sl _ _ _ _,_,h,_=>by cases h
 | .slk _ _ _ _ _,_,h,_=>by cases h
 | .tup _,_,h,_=>by cases h
 | .clo _ _,_,h,_=>by cases h
 | .yld _,_,h,_=>by cases h
 | .gst _,_,h,_=>by cases h
 | .mref _,_,h,_=>by cases h
 | .itr _ _,_,h,_=>by cases h
 | .nsl _ _ _ _,_,h,_=>by cases h
 | .nptr _ _ _ _,_,h,_=>by cases h
theorem AV.hfreeL_rep {G:Gh} {m m':HM}:∀ (as:List AV) (vs:List Value),AV.hfreeL as=true->AV.RepL G m as vs->AV.RepL G m' as vs
 | [],_,_,q=>by unfold AV.RepL at q |-;exact q
 | a :: as,_,h,q=>by
  unfold AV.hfreeL at h
  rw [Bool.and_eq_true] at h
  unfold AV.RepL at q |-
  obtain ⟨v,vs',h1,h2,h3⟩:=q
  exact ⟨v,vs',h1,AV.hfree_rep a v h.1 h2,AV.hfreeL_rep as vs' h.2 h3⟩
end
theorem EntsRep.at {G:Gh} {w:World}:∀ {es:List (AV × MV)} {xs:List MapEntry} {f:List Nat} {j:Nat} {e:AV × MV} {x:MapEntry},EntsRep G es xs f w->es[j]?=some e->xs[j]?=some x ->
  ∃ f1 g f3,f=f1 ++ g ++ f3/\AV.Rep G (fun _=>none) e.1 x.key/\MV.Rep G e.2 x.val g w/\EntsRep G (es.eraseIdx j) (xs.eraseIdx j) (f1 ++ f3) w /\
   ∀ e' x' g',AV.Rep G (fun _=>none) e'.1 x'.key->MV.Rep G e'.2 x'.val g' w->EntsRep G (es.set j e') (xs.set j x') (f1 ++ g' ++ f3) w
 | [],_,_,_,_,_,_,h,_=>by simp at h
 | e :: es,xs,f,0,e0,x0,h,he,hx=>by
  obtain ⟨x,xs',g,fp',rfl,rfl,h1,h2,h3⟩:=h
  simp only [List.getElem?_cons_zero,Option.some.injEq] at he hx
  subst he;subst hx
  refine ⟨[],g,fp',rfl,h1,h2,h3,fun e' x' g' q1 q2=>?_⟩
  exact ⟨x',xs',g',fp',rfl,rfl,q1,q2,h3⟩
 | e :: es,xs,f,j + 1,e0,x0,h,he,hx=>by
  obtain ⟨x,xs',g,fp',rfl,rfl,h1,h2,h3⟩:=h
  simp only [List.getElem?_cons_succ] at he hx
  obtain ⟨f1,g1,f3,rfl,q1,q2,q3,q4⟩:=h3.at he hx
  refine ⟨g ++ f1,g1,f3,by simp,q1,q2,?_,fun e' x' g' r1 r2=>?_⟩
  ·exact ⟨x,_,g,f1 ++ f3,rfl,by simp,h1,h2,q3⟩
  ·exact ⟨x,_,g,f1 ++ g' ++ f3,rfl,by simp,h1,h2,q4 e' x' g' r1 r2⟩
theorem EntsRep.push {G:Gh} {w:World} {e':AV × MV} {x':MapEntry} {g':List Nat} (r1:AV.Rep G (fun _=>none) e'.1 x'.key) (r2:MV.Rep G e'.2 x'.val g' w):∀ {es:List (AV × MV)} {xs:List MapEntry} {f:List Nat},EntsRep G es xs f w ->
  EntsRep G (es ++ [e']) (xs ++ [x']) (f ++ g') w
 | [],_,_,h=>by
  obtain ⟨rfl,rfl⟩:=h
  exact ⟨x',[],g',[],rfl,by simp,r1,r2,rfl,rfl⟩
 | e :: es,_,_,h=>by
  obtain ⟨x,xs',g,fp',rfl,rfl,h1,h2,h3⟩:=h
  exact ⟨x,_,g,fp' ++ g',rfl,by simp,h1,h2,h3.push r1 r2⟩
theorem aNl {arr:Array MapEntry} {j:Nat} {x:MapEntry} (f:MapEntry->MapEntry) (h:arr.toList[j]?=some x):(arr.modify j f).toList=arr.toList.set j (f x):=by
 have hlt:=(List.getElem?_eq_some_iff.1 h).1
 apply List.ext_getElem?
 intro i
 rw [Array.getElem?_toList,Array.getElem?_modify,List.getElem?_set]
 by_cases e:j=i
 ·subst e
  rw [Array.getElem?_toList] at h
  rw [if_pos rfl,if_pos rfl,h]
  simp only [Option.map_some]
  rw [if_pos (by simpa using hlt)]
 ·rw [if_neg e,if_neg e,Array.getElem?_toList]
theorem xI {arr:Array MapEntry} {j:Nat} (h:j < arr.toList.length):(arr.eraseIdxIfInBounds j).toList=arr.toList.eraseIdx j:=by
 unfold Array.eraseIdxIfInBounds
 rw [dif_pos (by simpa using h)]
 simp
theorem Sim.setX {G:Gh} {m:HM} {s:AState} {w:World} (hS:Sim G m s.lk w) {h:Hd} {b sz:Nat} {fp fp':List Nat} (hm:m h=some (.atx b sz fp)) {arr:Array MapEntry} {clk:Nat} (hb:w.heap[b]?=some (.map arr clk)) {o':Obj} {bl':Blk}
  (hsub:∀ c ∈ fp',c ∈ fp\/¬ Own m c) (hbl:BlkX G (aB m h (.atx b sz fp')) bl' b sz fp' (w.putObj b o')):Sim G (aB m h (.atx b sz fp')) (s.setBlk h (some bl')).lk (w.putObj b o')/\HM.le m (aB m h (.atx b sz fp')):=by
 have hle:HM.le m (aB m h (.atx b sz fp')):=fun x l hx=>.inl (by
  unfold aB
  by_cases e:x=h
  ·subst e;rw [hm] at hx;cases hx;exact .inr ⟨b,sz,fp,fp',rfl,if_pos rfl⟩
  ·rw [if_neg e];exact .inl hx)
 have hki:KeepIt m w (w.putObj b o'):=fun _ c _ _ _ _ _ _ _ hc=>World.putObj_heap_other (fun e=>by rw [e,hb] at hc;cases hc)
 have get:∀ {x l},aB m h (.atx b sz fp') x=some l->(x=h/\l=.atx b sz fp')\/(x ≠ h/\m x=some l):=fun {x l} hx=>by
  unfold aB at hx
  split at hx
  ·cases hx;exact .inl ⟨‹_›,rfl⟩
  ·exact .inr ⟨‹_›,hx⟩
 have hnb:∀ x l,x ≠ h->m x=some l->∀ c ∈ l.blks,c ≠ b:=fun x l hx hl c hc e=>hx (hS.injG x h l _ c hl hm hc (by rw [e];exact List.mem_cons_self))
 have clash:∀ x l c,x ≠ h->m x=some l->c ∈ l.blks->c ∈ b :: fp'->False:=fun x l c hx hl hc hc'=>by
  rcases List.mem_cons.1 hc' with rfl | hc'
  ·exact hnb x l hx hl _ hc rfl
  ·rcases hsub c hc' with q | q
   ·exact hx (hS.injG x h l _ c hl hm hc (List.mem_cons_of_mem _ q))
   ·exact q ⟨x,l,hl,hc⟩
 refine ⟨⟨fun x b' sz' hx=>?_,fun x hx=>?_,fun x y l l' c hx hy hc hc'=>?_,fun b' o v hv=>?_,fun x hx=>?_,hS.gl,fun x b' sz' fp2 hx=>?_⟩,hle⟩
 ·rcases get hx with ⟨_,e⟩ | ⟨e,hx⟩
  ·cases e
  ·obtain ⟨bl,h1,h2⟩:=hS.blk x b' sz' hx
   exact ⟨bl,by rw [aD,if_neg e];exact h1,h2.mono (Gh.le.refl G) hle (fun _=>rfl) (World.putObj_heap_other (hnb x _ e hx _ (List.mem_singleton.2 rfl)))⟩
 ·rcases get hx with ⟨_,e⟩ | ⟨e,hx⟩
  ·cases e
  ·rw [aD,if_neg e];exact hS.nil x hx
 ·rcases get hx with ⟨e,rfl⟩ | ⟨e,hx⟩ <;> rcases get hy with ⟨e',rfl⟩ | ⟨e',hy⟩
  ·rw [e,e']
  ·exact (clash y l' c e' hy hc' hc).elim
  ·exact (clash x l c e hx hc hc').elim
  ·exact hS.injG x y l l' c hx hy hc hc'
 ·have:=hS.gh b' o v hv
  have hne:b' ≠ b:=fun e=>by
   subst e
   unfold World.cell? at this
   simp only [hb] at this
   cases this
  rw [World.cell?_of_block (w:=w) (World.putObj_heap_other hne)];exact this
 ·rcases get hx with ⟨_,e⟩ | ⟨e,hx⟩
  ·cases e
  ·rw [aD,if_neg e];exact hS.dead x hx
 ·rcases get hx with ⟨e,e2⟩ | ⟨e,hx⟩
  ·cases e2;exact ⟨bl',by rw [aD,if_pos e],hbl⟩
  ·obtain ⟨bl,h1,h2⟩:=hS.blkx x b' sz' fp2 hx
   exact ⟨bl,by rw [aD,if_neg e];exact h1,h2.mono (Gh.le.refl G) hle (fun _ _ _=>rfl) (fun c hc=>World.putObj_heap_other (hnb x _ e hx c hc)) hki⟩
theorem bCx {w:World} {b:Nat} {o:Obj} (h:w.heap[b]?=some o):w.putObj b o=w:=by
 obtain ⟨hp,tp,dr,os,ou⟩:=w
 have:hp.setIfInBounds b o=hp:=by
  have h:hp[b]?=some o:=h
  apply Array.ext_getElem?
  intro i
  rw [Array.getElem?_setIfInBounds]
  split
  ·rename_i e
   subst e
   rw [h];split
   ·rfl
   ·rename_i hlt;exact absurd (Array.getElem?_eq_some_iff.1 h).1 hlt
  ·rfl
 show World.mk (hp.setIfInBounds b o) tp dr os ou=_
 rw [this]
theorem Fr.putO {oh og:Nat->Prop} {G:Gh} {w:World} {b:Nat} {o:Obj} (h:oh b):Fr oh og G G w (w.putObj b o) :=
 ⟨rfl,.same rfl rfl,rfl,by rw [World.putObj_size];exact Nat.le_refl _,fun c _ hc=>World.putObj_heap_other (fun e=>hc (e ▸ h)),fun _ _ _ _=>rfl,Gh.le.refl G⟩
theorem aEz {G G1:Gh} {m:HM} {s:AState} {lk1:aH} {w:World} {v:Value} {hd:Hd} {k:Nat} {es:List (List DV)} {mt:Bool} {bl0:Blk} (hS:Sim G m s.lk w) (hl0:s.lk hd=some bl0) (hS1:Sim G1 m lk1 w) (hl:lk1 hd=some (.row mt k es)) (hle:Gh.le G G1) (hG:∀ b,(∀ sz,m hd ≠ some (.at_ b sz))->∀ o,G1 b o=G b o)
  (hlk:(s.setBlk hd none).lk=fun x=>if x=hd then none else lk1 x) (hr:AV.Rep G m (.sl hd k 0 es.length) v) :
  ∃ m1 g,Sim G1 m1 (s.setBlk hd none).lk w/\OwnRep G1 mt k es v g w/\g.Nodup/\(∀ c ∈ g,¬ Own m1 c/\Own m c)/\Fr (fun _=>False) (Own m) G G1 w w/\(∀ x,SameB (m x) (m1 x))/\∀ x l b,m1 x=some l->b ∈ l.blks->Own m b:=by
 have hS2:=hS1.kill hd
 unfold AV.Rep at hr
 obtain ⟨_,loc,hloc,hsl⟩:=hr
 have hnd:loc ≠ .dead:=fun e=>by subst e;rw [hS.dead _ hloc] at hl0;cases hl0
 have get:∀ {x l},aB m hd .dead x=some l->(x=hd/\l=.dead)\/(x ≠ hd/\m x=some l):=fun {x l} hx=>by
  unfold aB at hx
  split at hx
  ·cases hx;exact .inl ⟨‹_›,rfl⟩
  ·exact .inr ⟨‹_›,hx⟩
 have hfr:Fr (fun _=>False) (Own m) G G1 w w:=⟨rfl,.same rfl rfl,rfl,Nat.le_refl _,fun _ _ _=>rfl,fun b _ ho o=>hG b (fun sz e=>ho (.at_ e)) o,hle⟩
 have hsame:∀ x,SameB (m x) (aB m hd .dead x):=fun x=>by
  unfold aB
  split
  ·rename_i e;exact .inr (.inl ⟨by rw [e,hloc];simp,rfl⟩)
  ·exact .inl rfl
 have hown:∀ x l b,aB m hd .dead x=some l->b ∈ l.blks->Own m b:=fun x l b hx hb=>by
  rcases get hx with ⟨_,rfl⟩ | ⟨_,hx⟩
  ·cases hb
  ·exact ⟨x,l,hx,hb⟩
 rcases hsl hnd with ⟨a,rfl,h0⟩ | ⟨b,sz,cap,rfl,rfl,hcap,hsz⟩
 ·refine ⟨_,[],hlk ▸ hS2,.inl ⟨a,rfl,List.length_eq_zero_iff.1 h0,rfl⟩,List.nodup_nil,(fun c hc=>by cases hc),hfr,hsame,hown⟩
 ·obtain ⟨bl,hl',hb⟩:=hS1.blk _ _ _ hloc
  rw [hl] at hl'
  cases hl'
  have hb:BlkRep G1 (fun _=>none) (.row mt k es) b sz w:=by cases mt <;> exact hb
  refine ⟨_,[b],hlk ▸ hS2,.inr ⟨b,sz,cap,rfl,by simp,hcap,by simpa using hsz,hb⟩,(by simp),fun c hc=>?_,hfr,hsame,hown⟩
  rw [List.mem_singleton.1 hc]
  refine ⟨fun ⟨x,l,hx,hbx⟩=>?_,.at_ hloc⟩
  rcases get hx with ⟨_,rfl⟩ | ⟨hne,hx⟩
  ·cases hbx
  ·exact hne (hS.injG x hd l _ b hx hloc hbx (List.mem_singleton.2 rfl))
theorem aW6 {s:AState} {z:AV} {K:MV->AState->Prop} (h:aWf s z K):∃ mv s1,K mv s1/\s1.env=s.env/\s1.nx=s.nx/\(∀ x bl,s.lk x=some bl->(∀ mt k es,bl ≠ .row mt k es)->s1.lk x=some bl)/\(∀ j,s.own j=none->s1.own j=none) /\
  ∀ (G:Gh) (m:HM) (w:World) (v:Value),Sim G m s.lk w->AV.Rep G m z v->∃ G1 m1 g,Sim G1 m1 s1.lk w/\MV.Rep G1 mv v g w/\g.Nodup/\(∀ c ∈ g,¬ Own m1 c/\Own m c)/\Fr (fun _=>False) (Own m) G G1 w w/\(∀ x,SameB (m x) (m1 x))/\∀ x l b,m1 x=some l->b ∈ l.blks->Own m b:=by
 rcases h with ⟨hf,hK⟩ | ⟨hd,k,mt,es,rfl,hl,hK⟩
 ·exact ⟨_,_,hK,rfl,rfl,fun _ _ h _=>h,fun _ h=>h,fun G m w v hS hr=>⟨G,m,[],hS,⟨rfl,AV.hfree_rep _ _ hf hr⟩,List.nodup_nil,(fun c hc=>by cases hc),Fr.refl _ _ _ _,fun _=>.inl rfl,fun x l b h1 h2=>⟨x,l,h1,h2⟩⟩⟩
 ·have side:(∀ x bl,s.lk x=some bl->(∀ mt k es,bl ≠ .row mt k es)->(s.setBlk hd none).lk x=some bl)/\∀ j,s.own j=none->(s.setBlk hd none).own j=none:=⟨fun x bl hx hn=>by
   rw [aD,if_neg (fun e=>by subst e;rw [hl] at hx;cases hx;exact hn _ _ _ rfl)];exact hx,fun j hj=>by
   have:(s.setBlk hd none).lk (.O j)=none:=by
    rw [aD]
    split
    ·rfl
    ·exact hj
   exact this⟩
  rcases hK with hK | ⟨rfl,hK⟩
  ·refine ⟨_,_,hK,aK _ _ _,aF _ _ _,side.1,side.2,fun G m w v hS hr=>?_⟩
   obtain ⟨G1,hS1,hle,hG⟩:=hS.freeze1 hd
   obtain ⟨m1,g,q⟩:=aEz (mt:=false) hS hl hS1 (by rw [if_pos rfl,hl];rfl) hle hG (by
    funext x
    rw [aD]
    by_cases e:x=hd
    ·rw [if_pos e,if_pos e]
    ·rw [if_neg e,if_neg e,if_neg e]) hr
   exact ⟨G1,m1,g,q⟩
  ·refine ⟨_,_,hK,aK _ _ _,aF _ _ _,side.1,side.2,fun G m w v hS hr=>?_⟩
   obtain ⟨m1,g,q⟩:=aEz (mt:=true) hS hl hS hl (Gh.le.refl G) (fun _ _ _=>rfl) (by funext x;rw [aD]) hr
   exact ⟨G,m1,g,q⟩
theorem aQr:∀ {ks:List IntKind} {cs:List AV},uA ks cs=true->AV.hfreeL cs=true
 | ks,cs,h=>by
  unfold uA at h
  split at h
  ·rfl
  ·rw [Bool.and_eq_true] at h
   show (true && AV.hfreeL _)=true
   rw [Bool.true_and]
   exact aQr h.2
  ·cases h
theorem aY5 {kd:KD} {a:AV} (h:a.isK kd=true):a.hfree=true:=by
 unfold AV.isK at h
 split at h
 ·rfl
 ·rfl
 ·exact aQr h
 ·cases h
section
variable {P:Program} {o:Oper}
structure EOkP (Pre:(Operand->Value)->World->Prop) (P:Program) (o:Oper) (xs:List Operand) (dst:Option Nat) (s s':AState):Prop where
 env:∀ t,dst ≠ some t->s'.env t=s.env t
 nx:s.nx <= s'.nx
 own:(∀ i,s.nx <= i->s.own i=none)->∀ i,s'.nx <= i->s'.own i=none
 run:∀ (G:Gh) (m:HM) (w:World) (ρ:Operand->Value),Pre ρ w->(∀ v,ρ (.const v)=v)->Sim G m s.lk w->(∀ x ∈ xs,AV.Rep G m (s.ev x) (ρ x))->(∀ j,s.nx <= j->j < s'.nx->m (.O j)=none) ->
  Does P o ρ w (wE G m s dst s' w)
theorem EOkP.ok {Pre:(Operand->Value)->World->Prop} {P:Program} {o:Oper} {xs:List Operand} {dst:Option Nat} {s s':AState} (h:EOkP Pre P o xs dst s s') (hp:∀ ρ w,Pre ρ w):EOk P o xs dst s s' :=
 ⟨h.env,h.nx,h.own,fun G m w ρ=>h.run G m w ρ (hp ρ w)⟩
theorem aMa {kd:KD} {x y z:Operand} {s:AState} {dst:Option Nat} {K:AState->Prop} (Pre:(Operand->Value)->World->Prop) (hd:dst=none)
  (hex0:∀ (ρ:Operand->Value) (w:World) (b:Nat) (arr:Array MapEntry) (clk:Nat),Pre ρ w->ρ x=.map (some b)->w.heap[b]?=some (.map arr clk)->MapKept.Stamped arr clk->(∀ e ∈ arr.toList,fM kd e.key)->fM kd (ρ y)->(∀ e ∈ arr.toList,e.key ≠ ρ y)->(execOp ρ o).run P w=.ok .skip (w.putObj b (.map (arr.push { key:=ρ y,val:=ρ z,born:=clk }) (clk + 1))))
  (hex1:∀ (ρ:Operand->Value) (w:World) (b:Nat) (arr:Array MapEntry) (clk j:Nat) (u:MapEntry),Pre ρ w->ρ x=.map (some b)->w.heap[b]?=some (.map arr clk)->MapKept.Stamped arr clk->(∀ e ∈ arr.toList,fM kd e.key)->fM kd (ρ y)->arr.toList[j]?=some u->u.key=ρ y->(execOp ρ o).run P w=.ok .skip (w.putObj b (.map (arr.modify j fun e=>{ e with key:=ρ y,val:=ρ z }) clk)))
  (h:vW s kd y z K (s.ev x)):∃ s',K s'/\EOkP Pre P o [x,y,z] dst s s':=by
 subst hd
 generalize hx:s.ev x=ax at h
 unfold vW at h
 split at h
 case h_2=>exact h.elim
 rename_i hd
 obtain ⟨hky,h⟩:=h
 obtain ⟨mv,s1,⟨es,it,r,hl,hf,hK⟩,he1,hn1,hl1,ho1,hval⟩:=aW6 h
 have hl':s1.lk hd=some (.mp kd es it):=hl1 _ _ hl (fun _ _ _=>by simp)
 refine ⟨_,hK,⟨fun t _=>by rw [aK,he1],by rw [aF,hn1];exact Nat.le_refl _,fun hown j hj=>?_,fun G m w ρ hpre hρ hS hev hn=>?_⟩⟩
 ·rw [aF,hn1] at hj
  refine eG (s:=s1) (fun j hj=>ho1 j (hown j (hn1 ▸ hj))) ⟨_,hl'⟩ j (by rw [hn1];exact hj)
 ·obtain ⟨G1,m1,g,hS1,hmv,hgn,hgo,hF1,hsame1,hown1⟩:=hval G m w (ρ z) hS (hev z (by simp))
  have hle1:HM.le m m1:=fun x l hx=>(hsame1 x).le hx
  have hrx:=hev x (by simp)
  rw [hx] at hrx
  have hry:=AV.Rep.mono hF1.le hle1 _ _ (hev y (by simp))
  obtain ⟨b,sz,fp,hm,hv,hb⟩:=eU hS1 (AV.Rep.mono hF1.le hle1 _ _ hrx) hl'
  obtain ⟨h0,h0',arr,clk,h1,h2,h3,h4,h5⟩:=hb
  have hkv:=aBq hry hky
  have hfo:=lY hry h4 hf
  have hrk:AV.Rep G1 (fun _=>none) (s.ev y) (ρ y):=AV.hfree_rep _ _ (aY5 hky) hry
  have hcell:∀ c ∈ fp,c ≠ b:=fun c hc e=>by
   obtain ⟨_,_,q⟩:=h4.lt c hc
   rw [e,h1] at q;cases q
  have hcell2:∀ c ∈ g,c ≠ b:=fun c hc e=>(hgo c hc).1 (e ▸ ⟨_,_,hm,List.mem_cons_self⟩)
  have fin:∀ (arr':Array MapEntry) (clk':Nat) (es':List (AV × MV)) (fp':List Nat),MapKept.Stamped arr' clk'->(∀ x ∈ arr'.toList,fM kd x.key)->EntsRep G1 es' arr'.toList fp' w->fp'.Nodup->(∀ c ∈ fp',c ∈ fp\/c ∈ g) ->
    wE G m s none (s1.setBlk hd (some (.mp kd es' none))) w undef (w.putObj b (.map arr' clk')):=fun arr' clk' es' fp' q1 q2 q3 q4 q5=>by
   have hlt:=(Array.getElem?_eq_some_iff.1 h1).1
   have hbl:BlkX G1 (aB m1 hd (.atx b sz fp')) (.mp kd es' none) b sz fp' (w.putObj b (.map arr' clk')) :=
    ⟨h0,q4,arr',clk',World.putObj_heap_same hlt,q1,q2,q3.mono (Gh.le.refl _) (fun _ _ _=>rfl) (fun c hc=>World.putObj_heap_other (by rcases q5 c hc with q | q <;> first | exact hcell c q | exact hcell2 c q)),fun _ _ e=>by cases e⟩
   obtain ⟨hS2,hle2⟩:=hS1.setX hm h1 (fun c hc=>(q5 c hc).imp id fun q=>(hgo c q).1) hbl
   have hsame2:∀ x,SameB (m1 x) (aB m1 hd (.atx b sz fp') x):=fun x=>by
    unfold aB
    split
    ·rename_i e;exact .inr (.inr ⟨b,sz,fp,fp',by rw [e,hm],rfl⟩)
    ·exact .inl rfl
   have hob:Own m b:=hown1 _ _ b hm List.mem_cons_self
   refine ⟨G1,_,hS2,(fun d hd=>by cases hd),(hF1.mono (fun _ _ q=>q.elim) (fun _ _ q=>q)).trans (Fr.putO hob),hle1.trans hle2,fun i=>(hsame1 _).trans (hsame2 _),fun j _=>(hsame1 _).trans (hsame2 _),fun y l c hy hc=>.inr ?_⟩
   unfold aB at hy
   split at hy
   ·cases hy
    rcases List.mem_cons.1 hc with rfl | hc
    ·exact hob
    ·rcases q5 c hc with q | q
     ·exact hown1 _ _ c hm (List.mem_cons_of_mem _ q)
     ·exact (hgo c q).2
   ·exact hown1 _ _ c hy hc
  match r,hf,hfo with
  | none,hf,hfo =>
   have hfo:∀ x ∈ arr.toList,x.key ≠ ρ y:=hfo
   unfold Does
   rw [hex0 ρ w b arr clk hpre hv h1 h2 h3 hkv hfo]
   refine fin _ _ _ (fp ++ g) (MapKept.stamped_push h2 hfo) (fun x hx=>?_) ?_ ?_ (fun c hc=>List.mem_append.1 hc)
   ·simp only [Array.toList_push,List.mem_append,List.mem_singleton] at hx
    rcases hx with hx | rfl
    ·exact h3 x hx
    ·exact hkv
   ·rw [Array.toList_push]
    exact EntsRep.push (e':=(s.ev y,mv)) hrk hmv h4
   ·exact List.nodup_append.2 ⟨h0',hgn,fun a ha c hc e=>(hgo c hc).1 (e ▸ ⟨_,_,hm,List.mem_cons_of_mem _ ha⟩)⟩
  | some (j,mv'),hf,⟨u,k2,f1,f2,f3,q1,q2,q3,q4,q5,q6⟩ =>
   unfold Does
   rw [hex1 ρ w b arr clk j u hpre hv h1 h2 h3 hkv q1 q3]
   obtain ⟨a1,a2,a3,rfl,b1,b2,b3,b4⟩:=h4.at q2 q1
   have hkey:∀ e',arr[j]?=some e'->({ e' with key:=ρ y,val:=ρ z }:MapEntry).key=e'.key:=fun e' he'=>by
    rw [Array.getElem?_toList] at q1
    rw [q1] at he';cases he';exact q3.symm
   refine fin _ _ _ (a1 ++ g ++ a3) (MapKept.stamped_modify h2 _ _ (fun _ _=>rfl) (fun e' _ he'=>hkey e' he')) (aKs h3 _ _ hkey) ?_ ?_ (fun c hc=>?_)
   ·rw [aNl _ q1]
    exact b4 (s.ev y,mv) _ g hrk hmv
   ·have hnd:=h0'
    rw [List.append_assoc] at hnd |-
    obtain ⟨n1,n2,n3⟩:=List.nodup_append.1 hnd
    obtain ⟨n4,n5,n6⟩:=List.nodup_append.1 n2
    have hg:∀ c ∈ g,∀ a ∈ a1 ++ a2 ++ a3,a ≠ c:=fun c hc a ha e=>(hgo c hc).1 (e ▸ ⟨_,_,hm,List.mem_cons_of_mem _ ha⟩)
    refine List.nodup_append.2 ⟨n1,List.nodup_append.2 ⟨hgn,n5,fun a ha c hc e=>hg a ha c (by simp [hc]) e.symm⟩,fun a ha c hc=>?_⟩
    rcases List.mem_append.1 hc with hc | hc
    ·exact hg c hc a (by simp [ha])
    ·exact n3 a ha c (List.mem_append_right _ hc)
   ·simp only [List.mem_append] at hc |-
    rcases hc with (hc | hc) | hc
    ·exact .inl (.inl (.inl hc))
    ·exact .inr hc
    ·exact .inl (.inr hc)
theorem aR3 {T e k0:TypeId} {kd:KD} {x y z:Operand} {s:AState} {dst:Option Nat} {K:AState->Prop} (ho:o.op=.mapUpdate T x y z\/o.op=.insert T x y z) (hd:dst=none) (hT:P.underlying T=some (.map k0 e)) (hk0:wO P k0 kd)
  (h:vW s kd y z K (s.ev x)):∃ s',K s'/\EOk P o [x,y,z] dst s s':=by
 have hdoes:∀ (ρ:Operand->Value) (w w':World),(Instr.mapUpdate T (ρ x) (ρ y) (ρ z)).run P w=.ok () w'->(execOp ρ o).run P w=.ok .skip w':=fun ρ w w' hr=>by
  rcases ho with ho | ho <;> simp [execOp,ho,hr]
 obtain ⟨s',hK,hE⟩:=aMa (P:=P) (o:=o) (fun _ _=>True) hd (fun ρ w b arr clk _ hv h1 h2 h3 hkv hfo=>hdoes ρ w _ (by
  have hfn:=dG hk0 (r:=none) hkv h2 h3 hfo
  simp [Instr.mapUpdate,hv,run_underlying hT,MapKept.run_getObj_map h1,dH hk0 hkv,hfn,MapKept.run_setObj_map _ h1,World.putObj])) (fun ρ w b arr clk j u _ hv h1 h2 h3 hkv hj hu=>hdoes ρ w _ (by
  have hfn:=dG hk0 (r:=some (j,u)) hkv h2 h3 ⟨hj,hu⟩
  have hj':arr[j]?=some u:=by simpa using hj
  simp [Instr.mapUpdate,hv,run_underlying hT,MapKept.run_getObj_map h1,dH hk0 hkv,hfn,hj',hu,aF8 hkv,MapKept.run_setObj_map _ h1,World.putObj])) h
 exact ⟨s',hK,hE.ok fun _ _=>trivial⟩
theorem wP {G:Gh} {m:HM} {key:AV} {kv:Value} (hk:AV.Rep G m key kv) {b0:Nat}:∀ {ks r:List AV} {l:List MapEntry},nU key ks=some r->(∀ x ∈ l,x.key=kv ↔ x.born=b0)->KeysRep G ks l->KeysRep G r (l.filter fun e=>e.born != b0)
 | [],r,l,h,_,hl=>by
  unfold nU at h
  cases h
  have hl:l=[]:=hl
  subst hl;rfl
 | x :: ks,r,l,h,hb,hl=>by
  obtain ⟨u,l',rfl,h1,h2⟩:=hl
  have hb':∀ x ∈ l',x.key=kv ↔ x.born=b0:=fun x hx=>hb x (List.mem_cons_of_mem _ hx)
  have hu:=hb u List.mem_cons_self
  unfold nU at h
  split at h
  ·rename_i l2 e1 e2
   cases h
   have:=(aEx hk h1 e1).1 rfl
   rw [List.filter_cons,if_neg (by simp [hu.1 this.symm])]
   exact wP hk e2 hb' h2
  ·rename_i l2 e1 e2
   cases h
   have hne:u.key ≠ kv:=fun e=>by have:=(aEx hk h1 e1).2 e.symm;cases this
   rw [List.filter_cons,if_pos (by simp only [bne_iff_ne,ne_eq];exact fun e=>hne (hu.2 e))]
   exact ⟨u,_,rfl,h1,wP hk e2 hb' h2⟩
  ·cases h
theorem rM:∀ {l:List MapEntry} {j:Nat} {u:MapEntry},l[j]?=some u->(l.map (·.born)).Nodup->l.eraseIdx j=l.filter fun e=>e.born != u.born
 | [],_,_,h,_=>by simp at h
 | x :: l,0,u,h,hn=>by
  simp only [List.getElem?_cons_zero,Option.some.injEq] at h
  subst h
  rw [List.filter_cons,if_neg (by simp)]
  rw [List.map_cons,List.nodup_cons] at hn
  refine (List.filter_eq_self.2 fun y hy=>?_).symm
  simp only [bne_iff_ne,ne_eq]
  exact fun e=>hn.1 (by rw [<- e];exact List.mem_map_of_mem hy)
 | x :: l,j + 1,u,h,hn=>by
  simp only [List.getElem?_cons_succ] at h
  rw [List.map_cons,List.nodup_cons] at hn
  rw [List.filter_cons,if_pos (by
   simp only [bne_iff_ne,ne_eq]
   intro e
   exact hn.1 (by rw [e];exact List.mem_map_of_mem (List.mem_of_getElem? h)))]
  rw [List.eraseIdx_cons_succ,rM h hn.2]
theorem aVz {G:Gh} {m m':HM} (hle:HM.le m m') {key:AV} {kv:Value} (hk:AV.Rep G m key kv) {it it':Option (Hd × List AV × List AV)} (h:aXv key it=some it') {b b0:Nat} {arr arr':Array MapEntry} {clk:Nat} {w w':World} (hi:ItRep G m it b arr clk w) (hki:KeepIt m w w')
  (hb:∀ x ∈ arr.toList,x.key=kv ↔ x.born=b0) (ha:arr'.toList=arr.toList.filter fun e=>e.born != b0):ItRep G m' it' b arr' clk w':=by
 have gen:∀ (h0:Hd) (cur rem c r:List AV),it=some (h0,cur,rem)->nU key rem=some r->(∀ k,c=[k]->cur=[k]/\key.keq k=some false)->ItRep G m' (some (h0,c,r)) b arr' clk w':=fun h0 cur rem c r hit e2 hc=>by
  intro hi' q e
  cases e
  obtain ⟨loc,g1,g2⟩:=hi h0 (cur,rem) hit
  have done:(loc ≠ .dead->∃ bi sz fp seen l,loc=.atx bi sz fp/\w'.heap[bi]?=some (.mapIter (some b) clk seen clk)/\l.Perm (arr'.toList.filter fun e=>!seen.contains e.born)/\KeysRep G r l/\∀ key,c=[key]->∃ e ∈ arr'.toList,seen.back?=some e.born/\AV.Rep G (fun _=>none) key e.key):=fun hnd=>by
   obtain ⟨bi,sz,fp,seen,l,rfl,q1,q2,q3,q4⟩:=g2 hnd
   have hl:∀ x ∈ l,x.key=kv ↔ x.born=b0:=fun x hx=>hb x (List.mem_filter.1 (q2.subset hx)).1
   refine ⟨bi,sz,fp,seen,l.filter fun e=>e.born != b0,rfl,(hki h0 bi sz fp g1 _ _ _ _ q1).trans q1,?_,wP hk e2 hl q3,fun k hk'=>?_⟩
   ·rw [ha,List.filter_filter]
    have:=q2.filter fun e=>e.born != b0
    rw [List.filter_filter] at this
    refine this.trans (List.Perm.of_eq (List.filter_congr fun x _=>Bool.and_comm _ _))
   ·obtain ⟨rfl,e3⟩:=hc k hk'
    obtain ⟨x,hx,hb',hr⟩:=q4 _ rfl
    have hne:x.key ≠ kv:=fun e=>by have:=(aEx hk hr e3).2 e.symm;cases this
    exact ⟨x,by rw [ha];exact List.mem_filter.2 ⟨hx,by simp only [bne_iff_ne,ne_eq];exact fun e=>hne ((hb x hx).2 e)⟩,hb',hr⟩
  rcases hle h0 loc g1 with (h3 | ⟨c0,sz,fp,fp',rfl,h3⟩) | h3
  ·exact ⟨loc,h3,done⟩
  ·refine ⟨_,h3,fun hd=>?_⟩
   obtain ⟨bi,sz2,fp2,seen,l,e,rest⟩:=done (fun e=>by cases e)
   cases e
   exact ⟨c0,sz,fp',seen,l,rfl,rest⟩
  ·exact ⟨_,h3,fun h=>absurd rfl h⟩
 unfold aXv at h
 split at h
 ·cases h;intro _ _ e;cases e
 ·split at h
  ·cases h;exact gen _ _ _ _ _ rfl ‹_› (fun k e=>by cases e)
  ·cases h
theorem bBp {c:Call} {T t2 e k0:TypeId} {kd:KD} {x y:Operand} {s:AState} {dst:Option Nat} {K:AState->Prop} (ho:o.op=.call c) (hc:c.callee=.builtin .delete) (ha:c.args.toList=[x,y]) (ht:c.argTypes.toList=[T,t2]) (hd:dst=none) (hT:P.underlying T=some (.map k0 e)) (hk0:wO P k0 kd)
  (h:aLt s kd y K (s.ev x)):∃ s',K s'/\EOk P o [x,y] dst s s':=by
 subst hd
 have ha':c.args=#[x,y]:=by rw [<- Array.toArray_toList (xs:=c.args),ha]
 have ht':c.argTypes=#[T,t2]:=by rw [<- Array.toArray_toList (xs:=c.argTypes),ht]
 generalize hx:s.ev x=ax at h
 unfold aLt at h
 split at h
 case h_2=>exact h.elim
 rename_i hd
 obtain ⟨hky,es,it,r,it',hl,hf,hit,hK⟩:=h
 refine ⟨_,hK,⟨fun t _=>by rw [aK],by rw [aF];exact Nat.le_refl _,fun hown j hj=>eG hown ⟨_,hl⟩ j (by rw [aF] at hj;exact hj),fun G m w ρ hρ hS hev hn=>?_⟩⟩
 have hrx:=hev x (by simp)
 rw [hx] at hrx
 have hry:=hev y (by simp)
 obtain ⟨b,sz,fp,hm,hv,hb⟩:=eU hS hrx hl
 obtain ⟨h0,h0',arr,clk,h1,h2,h3,h4,h5⟩:=hb
 have hkv:=aBq hry hky
 have hfo:=lY hry h4 hf
 have hlt:=(Array.getElem?_eq_some_iff.1 h1).1
 have hob:Own m b:=⟨_,_,hm,List.mem_cons_self⟩
 have hcell:∀ c ∈ fp,c ≠ b:=fun c hc e=>by
  obtain ⟨_,_,q⟩:=h4.lt c hc
  rw [e,h1] at q;cases q
 have fin:∀ (arr':Array MapEntry) (b0:Nat) (es':List (AV × MV)) (fp':List Nat),MapKept.Stamped arr' clk->(∀ x ∈ arr'.toList,x ∈ arr.toList)->EntsRep G es' arr'.toList fp' w->fp'.Nodup->(∀ c ∈ fp',c ∈ fp)->(∀ x ∈ arr.toList,x.key=ρ y ↔ x.born=b0)->(arr'.toList=arr.toList.filter fun e=>e.born != b0) ->
   wE G m s none (s.setBlk hd (some (.mp kd es' it'))) w (.tuple #[]) (w.putObj b (.map arr' clk)):=fun arr' b0 es' fp' q1 q2 q3 q4 q5 q6 q7=>by
  have hki:KeepIt m w (w.putObj b (.map arr' clk)):=fun _ c _ _ _ _ _ _ _ hc=>World.putObj_heap_other (fun e=>by rw [e,h1] at hc;cases hc)
  have hle:HM.le m (aB m hd (.atx b sz fp')):=fun x l hx0=>.inl (by
   unfold aB
   by_cases e:x=hd
   ·subst e;rw [hm] at hx0;cases hx0;exact .inr ⟨b,sz,fp,fp',rfl,if_pos rfl⟩
   ·rw [if_neg e];exact .inl hx0)
  have hbl:BlkX G (aB m hd (.atx b sz fp')) (.mp kd es' it') b sz fp' (w.putObj b (.map arr' clk)) :=
   ⟨h0,q4,arr',clk,World.putObj_heap_same hlt,q1,fun x hx=>h3 x (q2 x hx),q3.mono (Gh.le.refl _) (fun _ _ _=>rfl) (fun c hc=>World.putObj_heap_other (hcell c (q5 c hc))),aVz hle hry hit h5 hki q6 q7⟩
  obtain ⟨hS2,hle2⟩:=hS.setX hm h1 (fun c hc=>.inl (q5 c hc)) hbl
  have hsame2:∀ x,SameB (m x) (aB m hd (.atx b sz fp') x):=fun x=>by
   unfold aB
   split
   ·rename_i e;exact .inr (.inr ⟨b,sz,fp,fp',by rw [e,hm],rfl⟩)
   ·exact .inl rfl
  refine ⟨G,_,hS2,(fun d hd=>by cases hd),Fr.putO hob,hle2,fun i=>hsame2 _,fun j _=>hsame2 _,fun y l c hy hc=>.inr ?_⟩
  unfold aB at hy
  split at hy
  ·cases hy
   rcases List.mem_cons.1 hc with rfl | hc
   ·exact hob
   ·exact ⟨_,_,hm,List.mem_cons_of_mem _ (q5 c hc)⟩
  ·exact ⟨_,_,hy,hc⟩
 have hdoes:∀ w',(Builtin.delete_ #[T,t2] o.type #[ρ x,ρ y]).run P w=.ok (.tuple #[]) w'->(execOp ρ o).run P w=.ok (.value (.tuple #[])) w':=fun w' h=>by
  simp only [execOp,ho,resolve,hc,ha',ht',invoke,builtin,Sem.run_bind,Sem.run_pure,Result.andThen_ok]
  simp [h]
 match r,hf,hfo,hK with
 | none,hf,hfo,_ =>
  have hfo:∀ x ∈ arr.toList,x.key ≠ ρ y:=hfo
  have hfn:=dG hk0 (r:=none) hkv h2 h3 hfo
  refine Does.val (hdoes _ (by simp [Builtin.delete_,hv,run_underlying hT,MapKept.run_getObj_map h1,dH hk0 hkv,hfn,MapKept.run_setObj_map _ h1];rfl)) (fin arr clk es fp h2 (fun _ h=>h) h4 h0' (fun _ h=>h) (fun x hx=>⟨fun e=>absurd e (hfo x hx),fun e=>absurd (h2.1 x hx) (by omega)⟩) (List.filter_eq_self.2 fun x hx=>by have:=h2.1 x hx;simp only [bne_iff_ne,ne_eq];omega).symm)
 | some (j,mv'),hf,⟨u,k2,f1,f2,f3,q1,q2,q3,q4,q5,q6⟩,_ =>
  have hfn:=dG hk0 (r:=some (j,u)) hkv h2 h3 ⟨q1,q3⟩
  obtain ⟨a1,a2,a3,rfl,b1,b2,b3,b4⟩:=h4.at q2 q1
  have hjl:=(List.getElem?_eq_some_iff.1 q1).1
  refine Does.val (hdoes _ (by simp [Builtin.delete_,hv,run_underlying hT,MapKept.run_getObj_map h1,dH hk0 hkv,hfn,MapKept.run_setObj_map _ h1];rfl)) (fin (arr.eraseIdxIfInBounds j) u.born (es.eraseIdx j) (a1 ++ a3) (MapKept.stamped_erase h2 j) (fun x hx=>?_) ?_ ?_ (fun c hc=>?_) (fun x hx=>?_) ?_)
  ·rw [xI hjl] at hx;exact List.mem_of_mem_eraseIdx hx
  ·rw [xI hjl];exact b3
  ·have hnd:=h0'
   rw [List.append_assoc] at hnd
   obtain ⟨n1,n2,n3⟩:=List.nodup_append.1 hnd
   exact List.nodup_append.2 ⟨n1,(List.nodup_append.1 n2).2.1,fun a ha c hc=>n3 a ha c (List.mem_append_right _ hc)⟩
  ·simp only [List.mem_append] at hc |-
   rcases hc with hc | hc
   ·exact .inl (.inl hc)
   ·exact .inr hc
  ·refine ⟨fun e=>?_,fun e=>?_⟩
   ·obtain ⟨i,hi⟩:=List.getElem?_of_mem hx
    have e1:(arr.toList.map (·.key))[i]?=some (ρ y):=by rw [List.getElem?_map,hi];simp [e]
    have e2:(arr.toList.map (·.key))[j]?=some (ρ y):=by rw [List.getElem?_map,q1];simp [q3]
    have:=(List.getElem?_inj (List.getElem?_eq_some_iff.1 e1).1 h2.2.2).1 (e1.trans e2.symm)
    subst this
    rw [q1] at hi;cases hi;rfl
   ·obtain ⟨i,hi⟩:=List.getElem?_of_mem hx
    have e1:(arr.toList.map (·.born))[i]?=some u.born:=by rw [List.getElem?_map,hi];simp [e]
    have e2:(arr.toList.map (·.born))[j]?=some u.born:=by rw [List.getElem?_map,q1];rfl
    have:=(List.getElem?_inj (List.getElem?_eq_some_iff.1 e1).1 h2.2.1).1 (e1.trans e2.symm)
    subst this
    rw [q1] at hi;cases hi;exact q3
  ·rw [xI hjl];exact rM q1 h2.2.1
theorem Sim.reblk {G:Gh} {m:HM} {lk:aH} {w:World} (hS:Sim G m lk w) {h:Hd} {b sz:Nat} {fp fp':List Nat} (hm:m h=some (.atx b sz fp)) {bl':Blk} (hsub:∀ c ∈ fp',c ∈ fp)
  (hbl:BlkX G (aB m h (.atx b sz fp')) bl' b sz fp' w):Sim G (aB m h (.atx b sz fp')) (fun x=>if x=h then some bl' else lk x) w/\HM.le m (aB m h (.atx b sz fp')):=by
 have hle:HM.le m (aB m h (.atx b sz fp')):=fun x l hx=>.inl (by
  unfold aB
  by_cases e:x=h
  ·subst e;rw [hm] at hx;cases hx;exact .inr ⟨b,sz,fp,fp',rfl,if_pos rfl⟩
  ·rw [if_neg e];exact .inl hx)
 have get:∀ {x l},aB m h (.atx b sz fp') x=some l->(x=h/\l=.atx b sz fp')\/(x ≠ h/\m x=some l):=fun {x l} hx=>by
  unfold aB at hx
  split at hx
  ·cases hx;exact .inl ⟨‹_›,rfl⟩
  ·exact .inr ⟨‹_›,hx⟩
 have sub:∀ c,c ∈ b :: fp'->c ∈ b :: fp:=fun c hc=>by
  rcases List.mem_cons.1 hc with rfl | hc
  ·exact List.mem_cons_self
  ·exact List.mem_cons_of_mem _ (hsub c hc)
 refine ⟨⟨fun x b' sz' hx=>?_,fun x hx=>?_,fun x y l l' c hx hy hc hc'=>?_,hS.gh,fun x hx=>?_,hS.gl,fun x b' sz' fp2 hx=>?_⟩,hle⟩
 ·rcases get hx with ⟨_,e⟩ | ⟨e,hx⟩
  ·cases e
  ·obtain ⟨bl,h1,h2⟩:=hS.blk x b' sz' hx
   exact ⟨bl,by rw [if_neg e];exact h1,h2.mono (Gh.le.refl G) hle (fun _=>rfl) rfl⟩
 ·rcases get hx with ⟨_,e⟩ | ⟨e,hx⟩
  ·cases e
  ·rw [if_neg e];exact hS.nil x hx
 ·rcases get hx with ⟨e,rfl⟩ | ⟨e,hx⟩ <;> rcases get hy with ⟨e',rfl⟩ | ⟨e',hy⟩
  ·rw [e,e']
  ·exact absurd (hS.injG y h l' _ c hy hm hc' (sub c hc)) e'
  ·exact absurd (hS.injG x h l _ c hx hm hc (sub c hc')) e
  ·exact hS.injG x y l l' c hx hy hc hc'
 ·rcases get hx with ⟨_,e⟩ | ⟨e,hx⟩
  ·cases e
  ·rw [if_neg e];exact hS.dead x hx
 ·rcases get hx with ⟨e,e2⟩ | ⟨e,hx⟩
  ·cases e2;exact ⟨bl',by rw [if_pos e],hbl⟩
  ·obtain ⟨bl,h1,h2⟩:=hS.blkx x b' sz' fp2 hx
   exact ⟨bl,by rw [if_neg e];exact h1,h2.mono (Gh.le.refl G) hle (fun _ _ _=>rfl) (fun _ _=>rfl) (KeepIt.refl _ _)⟩
theorem Sim.addH {G:Gh} {m:HM} {lk:aH} {w:World} (hS:Sim G m lk w) {n:Nat} (hn:m (.O n)=none) {loc:Loc} {bl:Blk}
  (hloc:(loc=.none/\∃ mt k,bl=.row mt k [])\/(∃ b sz,loc=.at_ b sz/\(∀ m',BlkRep G m' bl b sz w)/\¬ Own m b)\/∃ b sz fp,loc=.atx b sz fp/\(∀ m',BlkX G m' bl b sz fp w)/\∀ c ∈ b :: fp,¬ Own m c) :
  Sim G (aB m (.O n) loc) (fun x=>if x=.O n then some bl else lk x) w/\HM.le m (aB m (.O n) loc):=by
 have hle:=qJ (loc:=loc) hn
 have get:∀ {x l},aB m (.O n) loc x=some l->(x=.O n/\l=loc)\/(x ≠ .O n/\m x=some l):=fun {x l} hx=>by
  unfold aB at hx
  split at hx
  ·cases hx;exact .inl ⟨‹_›,rfl⟩
  ·exact .inr ⟨‹_›,hx⟩
 have hno:∀ c ∈ loc.blks,¬ Own m c:=fun c hc=>by
  rcases hloc with ⟨rfl,_⟩ | ⟨b,sz,rfl,_,h⟩ | ⟨b,sz,fp,rfl,_,h⟩
  ·cases hc
  ·rw [List.mem_singleton.1 hc];exact h
  ·exact h c hc
 refine ⟨⟨fun x b' sz' hx=>?_,fun x hx=>?_,fun x y l l' c hx hy hc hc'=>?_,hS.gh,fun x hx=>?_,hS.gl,fun x b' sz' fp2 hx=>?_⟩,hle⟩
 ·rcases get hx with ⟨e,rfl⟩ | ⟨e,hx⟩
  ·rcases hloc with ⟨e2,_⟩ | ⟨b,sz,e2,h,_⟩ | ⟨b,sz,fp,e2,_⟩
   ·cases e2
   ·cases e2;exact ⟨bl,by rw [if_pos e],h _⟩
   ·cases e2
  ·obtain ⟨bl,h1,h2⟩:=hS.blk x b' sz' hx
   exact ⟨bl,by rw [if_neg e];exact h1,h2.mono (Gh.le.refl G) hle (fun _=>rfl) rfl⟩
 ·rcases get hx with ⟨e,e1⟩ | ⟨e,hx⟩
  ·rcases hloc with ⟨_,mt,k,rfl⟩ | ⟨b,sz,e2,_⟩ | ⟨b,sz,fp,e2,_⟩
   ·exact ⟨mt,k,by rw [if_pos e]⟩
   ·rw [<- e1] at e2;cases e2
   ·rw [<- e1] at e2;cases e2
  ·obtain ⟨mt,k,h1⟩:=hS.nil x hx
   exact ⟨mt,k,by rw [if_neg e];exact h1⟩
 ·rcases get hx with ⟨e,e1⟩ | ⟨e,hx⟩ <;> rcases get hy with ⟨e',e2⟩ | ⟨e',hy⟩
  ·rw [e,e']
  ·rw [e1] at hc;exact absurd ⟨y,l',hy,hc'⟩ (hno c hc)
  ·rw [e2] at hc';exact absurd ⟨x,l,hx,hc⟩ (hno c hc')
  ·exact hS.injG x y l l' c hx hy hc hc'
 ·rcases get hx with ⟨e,rfl⟩ | ⟨e,hx⟩
  ·rcases hloc with ⟨e2,_⟩ | ⟨b,sz,e2,_⟩ | ⟨b,sz,fp,e2,_⟩ <;> cases e2
  ·rw [if_neg e];exact hS.dead x hx
 ·rcases get hx with ⟨e,rfl⟩ | ⟨e,hx⟩
  ·rcases hloc with ⟨e2,_⟩ | ⟨b,sz,e2,_⟩ | ⟨b,sz,fp,e2,h,_⟩
   ·cases e2
   ·cases e2
   ·cases e2;exact ⟨bl,by rw [if_pos e],h _⟩
  ·obtain ⟨bl,h1,h2⟩:=hS.blkx x b' sz' fp2 hx
   exact ⟨bl,by rw [if_neg e];exact h1,h2.mono (Gh.le.refl G) hle (fun _ _ _=>rfl) (fun _ _=>rfl) (KeepIt.refl _ _)⟩
theorem aM8 {G:Gh} {w:World}:∀ {es:List (AV × MV)} {xs:List MapEntry} {f:List Nat},EntsRep G es xs f w->KeysRep G (es.map (·.1)) xs
 | [],_,_,h=>h.1
 | e :: es,_,_,h=>by
  obtain ⟨x,xs',f,fp',rfl,_,h2,h3,h4⟩:=h
  exact ⟨x,xs',rfl,h2,aM8 h4⟩
theorem bFw {s:AState} {h:Hd} {bl bl2:Blk} {dst:Option Nat} {a:AV} (hne:h ≠ .O s.nx):((s.setBlk h (some bl)).put dst a [bl2] []).lk=fun x=>if x=.O s.nx then some bl2 else if x=h then some bl else s.lk x:=by
 funext xx
 rw [cA,aV,aF]
 unfold lkN
 cases xx with
 | B j=>simp [aD]
 | O j =>
  by_cases e:j=s.nx
  ·subst e;simp
  ·have e1:¬ (s.nx <= j/\j < s.nx + [bl2].length):=by simp;omega
   simp only [e1,if_false,aD,Hd.O.injEq,e]
theorem EOk.one {xs:List Operand} {s:AState} {h:Hd} {b0 bl bl2:Blk} {dst:Option Nat} {a:AV} (hl:s.lk h=some b0)
  (hrun:∀ (G:Gh) (m:HM) (w:World) (ρ:Operand->Value),Sim G m s.lk w->(∀ x ∈ xs,AV.Rep G m (s.ev x) (ρ x))->m (.O s.nx)=none->h ≠ .O s.nx->∃ v w' G' m',(execOp ρ o).run P w=.ok (.value v) w' /\
   Sim G' m' (fun x=>if x=.O s.nx then some bl2 else if x=h then some bl else s.lk x) w'/\AV.Rep G' m' a v/\Fr (Own m) (Own m) G G' w w'/\HM.le m m'/\(∀ x,x ≠ .O s.nx->SameB (m x) (m' x))/\(∀ h l b,m' h=some l->b ∈ l.blks->w.heap.size <= b\/Own m b))
  (hkn:∀ (G:Gh) (m:HM) (w:World) (ρ:Operand->Value),Sim G m s.lk w->(∀ x ∈ xs,AV.Rep G m (s.ev x) (ρ x))->m h ≠ none) :
  EOk P o xs dst s ((s.setBlk h (some bl)).put dst a [bl2] []):=by
 have hnx:((s.setBlk h (some bl)).put dst a [bl2] []).nx=s.nx + 1:=by show (s.setBlk h _).nx + 1=_;rw [aF]
 refine ⟨fun tt htt=>?_,by rw [hnx];omega,fun hown j hj=>iY (fun j hj=>eG hown ⟨_,hl⟩ j (by rw [aF] at hj;exact hj)) j hj,fun G m w ρ hρ hS hev hn=>?_⟩
 ·show bO (s.setBlk h _).env dst _ tt=_
  rw [aK]
  cases dst with
  | none=>rfl
  | some dd=>simp only [bO,upd];rw [if_neg (fun q=>htt (by rw [q]))]
 rw [hnx] at hn
 have hn0:m (.O s.nx)=none:=hn s.nx (Nat.le_refl _) (by omega)
 have hne:h ≠ .O s.nx:=fun e=>hkn G m w ρ hS hev (by rw [e];exact hn0)
 obtain ⟨v,w',G',m',h1,h2,h3,h4,h5,h6,h7⟩:=hrun G m w ρ hS hev hn0 hne
 refine Does.val h1 ⟨G',m',by rw [bFw hne];exact h2,fun d hd=>?_,h4,h5,fun i=>h6 _ (fun e=>by cases e),fun j hj=>h6 _ (fun e=>?_),h7⟩
 ·subst hd
  show AV.Rep G' m' (upd (s.setBlk h (some bl)).env d a d) v
  unfold upd
  rw [if_pos rfl];exact h3
 ·cases e
  rcases hj with q | q
  ·omega
  ·rw [hnx] at q;omega
theorem bEm {T e k0:TypeId} {kd:KD} {x:Operand} {s:AState} {dst:Option Nat} {K:AState->Prop} (ho:o.op=.range T x) (hT:P.underlying T=some (.map k0 e))
  (h:aVd s kd dst K (s.ev x)):∃ s',K s'/\EOk P o [x] dst s s':=by
 generalize hx:s.ev x=ax at h
 unfold aVd at h
 split at h
 case h_2=>exact h.elim
 rename_i hd
 obtain ⟨es,it,hl,hK⟩:=h
 have hrx:∀ (G:Gh) (m:HM) (w:World) (ρ:Operand->Value),(∀ x' ∈ [x],AV.Rep G m (s.ev x') (ρ x'))->AV.Rep G m (.mref hd) (ρ x):=fun G m w ρ hev=>hx ▸ hev x (by simp)
 refine ⟨_,hK,.one hl (fun G m w ρ hS hev hn0 hne=>?_) (fun G m w ρ hS hev=>?_)⟩
 ·obtain ⟨b,sz,fp,hm,hv,hb⟩:=eU hS (hrx G m w ρ hev) hl
  obtain ⟨h0,h0',arr,clk,h1,h2,h3,h4,h5⟩:=hb
  have hbs:¬ Own m w.heap.size:=fun ⟨x,l,q1,q2⟩=>Nat.lt_irrefl _ (hS.ltG q1 q2)
  have hblt:=hS.ltG hm (b:=b) List.mem_cons_self
  have hnew:=heap_alloc_new w (.mapIter (some b) clk #[] clk)
  obtain ⟨hS1,hle1⟩:=(hS.alloc (.mapIter (some b) clk #[] clk)).addH hn0 (loc:=.atx w.heap.size 0 []) (bl:=.it) (.inr (.inr ⟨_,_,_,rfl,fun m'=>⟨rfl,rfl,_,_,_,_,hnew⟩,fun c hc=>by rw [List.mem_singleton.1 hc];exact hbs⟩))
  have hm1:aB m (.O s.nx) (.atx w.heap.size 0 []) hd=some (.atx b sz fp):=by unfold aB;rw [if_neg hne];exact hm
  have hmi:aB (aB m (.O s.nx) (.atx w.heap.size 0 [])) hd (.atx b sz fp) (.O s.nx)=some (.atx w.heap.size 0 []):=by unfold aB;rw [if_neg (fun e=>hne e.symm),if_pos rfl]
  obtain ⟨hS2,hle2⟩:=hS1.reblk hm1 (fp':=fp) (bl':=.mp kd es (some (.O s.nx,[],es.map (·.1)))) (fun c hc=>hc) ⟨h0,h0',arr,clk,(heap_alloc_old w _ hblt).trans h1,h2,h3,h4.mono (Gh.le.refl _) (fun _ _ _=>rfl) (fun c hc=>heap_alloc_old w _ (hS.ltG hm (List.mem_cons_of_mem _ hc))),fun hi q e=>by
   cases e
   exact ⟨_,hmi,fun _=>⟨_,_,_,#[],arr.toList,rfl,hnew,List.Perm.of_eq (List.filter_eq_self.2 fun x _=>by simp).symm,aM8 h4,fun k e=>by cases e⟩⟩⟩
  have hlk:(fun x=>if x=.O s.nx then some Blk.it else if x=hd then some (.mp kd es (some (.O s.nx,[],es.map (·.1)))) else s.lk x)=fun x=>if x=hd then some (.mp kd es (some (.O s.nx,[],es.map (·.1)))) else if x=.O s.nx then some Blk.it else s.lk x:=by
   funext x
   by_cases e1:x=hd
   ·rw [if_pos e1,if_pos e1,if_neg (fun e=>hne (e1 ▸ e))]
   ·rw [if_neg e1,if_neg e1]
  refine ⟨.pointer (some ⟨w.heap.size,0,none⟩),_,G,_,?_,hlk ▸ hS2,?_,Fr.alloc _,hle1.trans hle2,fun x hx'=>?_,fun x l c hx' hc=>?_⟩
  ·simp [execOp,ho,hv,run_range_map w T k0 e b arr clk hT h1]
  ·unfold AV.Rep
   exact ⟨rfl,⟨_,by unfold aB;rw [if_pos rfl]⟩,_,hmi,fun _=>⟨_,_,_,rfl,rfl⟩⟩
  ·unfold aB
   by_cases e1:x=hd
   ·rw [if_pos e1,e1,hm];exact .inl rfl
   ·rw [if_neg e1,if_neg hx'];exact .inl rfl
  ·unfold aB at hx'
   split at hx'
   ·cases hx';exact .inr ⟨_,_,hm,hc⟩
   ·split at hx'
    ·cases hx';rw [List.mem_singleton.1 hc];exact .inl (Nat.le_refl _)
    ·exact .inr ⟨_,_,hx',hc⟩
 ·obtain ⟨b,sz,fp,hm,_⟩:=eU hS (hrx G m w ρ hev) hl
  rw [hm];simp
theorem aM7 {z:Value} (h:gC z=.D (.L [])):dV z=.fl []:=by
 have hn:dV z ≠ .D (.L []):=fun e=>by
  unfold dV at e
  split at e <;> cases e
 unfold gC at h
 split at h
 ·cases h
 ·unfold dz1 at h
  split at h
  ·assumption
  ·exact absurd h hn
theorem aIe {G:Gh} {m:HM} {s:AState} {w:World} (hS:Sim G m s.lk w) {hd:Hd} {b sz:Nat} {fp:List Nat} (hm:m hd=some (.atx b sz fp)) {kd:KD} {es:List (AV × MV)} {it it':Option (Hd × List AV × List AV)} (hb:BlkX G m (.mp kd es it) b sz fp w)
  (hit:∀ (G:Gh) (m:HM) (arr:Array MapEntry) (clk:Nat) (w:World),ItRep G m it b arr clk w->ItRep G m it' b arr clk w) {arr:Array MapEntry} {clk:Nat} (h1:w.heap[b]?=some (.map arr clk)) {j k:Nat} {k2 rest:AV} {mv:MV} {mt:Bool} {rs:List (List DV)} {u:MapEntry} (hj:es[j]?=some (k2,mv)) (q1:arr.toList[j]?=some u)
  (hmv:(mv=.o k rs/\mt=false/\rest=.D (.L rs))\/(mv=.ow k rs/\mt=true/\rest=.any)) (hn0:m (.O s.nx)=none) (hne:hd ≠ .O s.nx) :
  ∃ m',Sim G m' (fun x=>if x=.O s.nx then some (.row mt k rs) else if x=hd then some (.mp kd (es.set j (k2,.v rest)) it') else s.lk x) w/\AV.Rep G m' (.sl (.O s.nx) k 0 rs.length) u.val/\HM.le m m'/\(∀ x,x ≠ .O s.nx->SameB (m x) (m' x))/\∀ h l c,m' h=some l->c ∈ l.blks->Own m c:=by
 obtain ⟨h0,h0',arr',clk',h1',h2,h3,h4,h5⟩:=hb
 rw [h1] at h1'
 cases h1'
 obtain ⟨f1,g,f3,rfl,b1,b2,b3,b4⟩:=h4.at hj q1
 have b2:OwnRep G mt k rs u.val g w:=by
  rcases hmv with ⟨rfl,rfl,rfl⟩ | ⟨rfl,rfl,rfl⟩ <;> exact b2
 have hrest:AV.Rep G (fun _=>none) rest u.val:=by
  rcases hmv with ⟨rfl,rfl,rfl⟩ | ⟨rfl,rfl,rfl⟩
  ·unfold AV.Rep;exact aMu b2
  ·unfold AV.Rep;trivial
 have hE:=b4 (k2,.v rest) u [] b1 ⟨rfl,hrest⟩
 rw [List.append_nil] at hE
 have hset:arr.toList.set j u=arr.toList:=List.ext_getElem? fun i=>by
  rw [List.getElem?_set]
  split
  ·rename_i e;subst e;rw [q1];split
   ·rfl
   ·rename_i hlt;exact absurd (List.getElem?_eq_some_iff.1 q1).1 hlt
  ·rfl
 rw [hset] at hE
 rw [List.append_assoc] at h0'
 obtain ⟨n1,n2,n3⟩:=List.nodup_append.1 h0'
 obtain ⟨n4,n5,n6⟩:=List.nodup_append.1 n2
 obtain ⟨hS1,hle1⟩:=hS.reblk hm (fp':=f1 ++ f3) (bl':=.mp kd (es.set j (k2,.v rest)) it') (fun c hc=>by simp only [List.mem_append] at hc |-;rcases hc with hc | hc <;> first | exact .inl (.inl hc) | exact .inr hc)
  ⟨h0,List.nodup_append.2 ⟨n1,n5,fun a ha c hc=>n3 a ha c (List.mem_append_right _ hc)⟩,arr,clk,h1,h2,h3,hE,hit _ _ _ _ _ (h5.mono (Gh.le.refl _) (fun x l hx'=>.inl (by
   unfold aB
   by_cases e1:x=hd
   ·rw [e1,hm] at hx';cases hx';exact .inr ⟨_,_,_,_,rfl,by rw [if_pos e1]⟩
   ·rw [if_neg e1];exact .inl hx')) (KeepIt.refl _ _))⟩
 have hn1:aB m hd (.atx b sz (f1 ++ f3)) (.O s.nx)=none:=by unfold aB;rw [if_neg (fun e=>hne e.symm)];exact hn0
 have fin:∀ loc,Sim G (aB (aB m hd (.atx b sz (f1 ++ f3))) (.O s.nx) loc) (fun x=>if x=.O s.nx then some (.row mt k rs) else if x=hd then some (.mp kd (es.set j (k2,.v rest)) it') else s.lk x) w->HM.le (aB m hd (.atx b sz (f1 ++ f3))) (aB (aB m hd (.atx b sz (f1 ++ f3))) (.O s.nx) loc) ->
   (loc ≠ .dead->aHg loc k 0 rs.length u.val)->u.val.oneCell'=true->(∀ c ∈ loc.blks,Own m c)->∃ m',Sim G m' (fun x=>if x=.O s.nx then some (.row mt k rs) else if x=hd then some (.mp kd (es.set j (k2,.v rest)) it') else s.lk x) w/\AV.Rep G m' (.sl (.O s.nx) k 0 rs.length) u.val/\HM.le m m'/\(∀ x,x ≠ .O s.nx->SameB (m x) (m' x))/\∀ h l c,m' h=some l->c ∈ l.blks->Own m c:=fun loc hS2 hle2 hsl hone hown=>by
  refine ⟨_,hS2,?_,hle1.trans hle2,fun x hx'=>?_,fun x l c hx' hc=>?_⟩
  ·unfold AV.Rep
   exact ⟨hone,loc,by unfold aB;rw [if_pos rfl],hsl⟩
  ·unfold aB
   rw [if_neg hx']
   by_cases e1:x=hd
   ·rw [if_pos e1,e1,hm];exact .inr (.inr ⟨_,_,_,_,rfl,rfl⟩)
   ·rw [if_neg e1];exact .inl rfl
  ·unfold aB at hx'
   split at hx'
   ·cases hx';exact hown c hc
   ·split at hx'
    ·cases hx'
     refine ⟨_,_,hm,?_⟩
     rcases List.mem_cons.1 hc with rfl | hc
     ·exact List.mem_cons_self
     ·refine List.mem_cons_of_mem _ ?_
      simp only [List.mem_append] at hc |-
      rcases hc with hc | hc <;> first | exact .inl (.inl hc) | exact .inr hc
    ·exact ⟨_,_,hx',hc⟩
 rcases b2 with ⟨a,ev,rfl,rfl⟩ | ⟨bb,szb,cap,rfl,ev,hcap,hsz,hbr⟩
 ·obtain ⟨hS2,hle2⟩:=hS1.addH hn1 (loc:=.none) (bl:=.row mt k []) (.inl ⟨rfl,_,_,rfl⟩)
  exact fin .none hS2 hle2 (fun _=>.inl ⟨a,ev,rfl⟩) (by rw [ev];rfl) (fun c hc=>by cases hc)
 ·have hbo:Own m bb:=⟨_,_,hm,List.mem_cons_of_mem _ (by simp)⟩
  obtain ⟨hS2,hle2⟩:=hS1.addH hn1 (loc:=.at_ bb szb) (bl:=.row mt k rs) (.inr (.inl ⟨_,_,rfl,fun m'=>by cases mt <;> exact hbr,fun ⟨x,l,hx',hc⟩=>by
   unfold aB at hx'
   split at hx'
   ·cases hx'
    rcases List.mem_cons.1 hc with e1 | hc
    ·obtain ⟨_,_,q⟩:=h4.lt bb (by simp)
     rw [e1,h1] at q;cases q
    ·rcases List.mem_append.1 hc with hc | hc
     ·exact n3 bb hc bb (by simp) rfl
     ·exact n6 bb (by simp) bb hc rfl
   ·rename_i e1
    exact e1 (hS.injG x hd l _ bb hx' hm hc (List.mem_cons_of_mem _ (by simp)))⟩))
  exact fin (.at_ bb szb) hS2 hle2 (fun _=>.inr ⟨bb,szb,cap,rfl,by rw [ev];simp,hcap,by simpa using hsz⟩) (by rw [ev];rfl) (fun c hc=>by rw [List.mem_singleton.1 hc];exact hbo)
theorem aLp {T e k0:TypeId} {kd:KD} {x y:Operand} {ok:Bool} {i:TypeInfo} {z:Value} {k:Nat} {s:AState} {dst:Option Nat} {K:AState->Prop} (ho:o.op=.lookup T x y ok) (hT:P.underlying T=some (.map k0 e)) (hk0:wO P k0 kd) (hi:P.info? e=some i) (hz:i.zero=some z)
  (h:xR s kd (gC z) k ok y dst K (s.ev x)):∃ s',K s'/\EOk P o [x,y] dst s s':=by
 generalize hx:s.ev x=ax at h
 unfold xR at h
 split at h
 case h_2=>exact h.elim
 rename_i hd
 obtain ⟨hky,rfl,es,it,r,hl,hf,h⟩:=h
 have hrx:∀ (G:Gh) (m:HM) (w:World) (ρ:Operand->Value),(∀ x' ∈ [x,y],AV.Rep G m (s.ev x') (ρ x'))->AV.Rep G m (.mref hd) (ρ x):=fun G m w ρ hev=>hx ▸ hev x (by simp)
 have kn:∀ (G:Gh) (m:HM) (w:World) (ρ:Operand->Value),Sim G m s.lk w->(∀ x' ∈ [x,y],AV.Rep G m (s.ev x') (ρ x'))->m hd ≠ none:=fun G m w ρ hS hev=>by
  obtain ⟨b,sz,fp,hm,_⟩:=eU hS (hrx G m w ρ hev) hl
  rw [hm];simp
 have tk:∀ (j:Nat) (mv:MV) (mt:Bool) (k2 rest:AV) (rs:List (List DV)),bW (s.ev y) es=some (some (j,mv))->es[j]?=some (k2,mv)->((mv=.o k rs/\mt=false/\rest=.D (.L rs))\/(mv=.ow k rs/\mt=true/\rest=.any)) ->
   EOk P o [x,y] dst s ((s.setBlk hd (some (.mp kd (es.set j (k2,.v rest)) it))).put dst (.sl (.O s.nx) k 0 rs.length) [.row mt k rs] []):=fun j mv mt k2 rest rs hf hj hmv=>by
  refine .one hl (fun G m w ρ hS hev hn0 hne=>?_) kn
  obtain ⟨b,sz,fp,hm,hv,hb⟩:=eU hS (hrx G m w ρ hev) hl
  have hb':=hb
  obtain ⟨h0,h0',arr,clk,h1,h2,h3,h4,h5⟩:=hb
  have hry:=hev y (by simp)
  have hkv:=aBq hry hky
  obtain ⟨u,k3,_,_,_,q1,q2,q3,q4,_,_⟩:=lY hry h4 hf
  have hfn:=dG hk0 (r:=some (j,u)) hkv h2 h3 ⟨q1,q3⟩
  have hrun:(execOp ρ o).run P w=.ok (.value u.val) w:=by
   simp [execOp,ho,Instr.lookup,run_underlying hT,hv,MapKept.run_getObj_map h1,dH hk0 hkv,hfn]
  obtain ⟨m',g1,g2,g3,g4,g5⟩:=aIe hS hm hb' (fun _ _ _ _ _ q=>q) h1 hj q1 hmv hn0 hne
  exact ⟨u.val,w,G,m',hrun,g1,g2,Fr.refl _ _ _ _,g3,g4,fun h l c q q'=>.inr (g5 h l c q q')⟩
 match r,hf,h with
 | none,hf,h =>
  obtain ⟨hz0,mt,hK⟩:=h
  refine ⟨_,hK,.one hl (fun G m w ρ hS hev hn0 hne=>?_) kn⟩
  obtain ⟨b,sz,fp,hm,hv,hb⟩:=eU hS (hrx G m w ρ hev) hl
  obtain ⟨h0,h0',arr,clk,h1,h2,h3,h4,h5⟩:=hb
  have hry:=hev y (by simp)
  have hkv:=aBq hry hky
  have hfn:=dG hk0 (r:=none) hkv h2 h3 (lY hry h4 hf)
  obtain ⟨hS1,hle1⟩:=hS.addH hn0 (loc:=.none) (bl:=.row mt k []) (.inl ⟨rfl,_,_,rfl⟩)
  have hzr:=mH G m z
  rw [aM7 hz0] at hzr
  unfold AV.Rep at hzr
  obtain ⟨_,a,hzv⟩:=hzr
  have hlk:(fun x=>if x=.O s.nx then some (Blk.row mt k []) else if x=hd then some (.mp kd es it) else s.lk x)=fun x=>if x=.O s.nx then some (Blk.row mt k []) else s.lk x:=by
   funext x
   by_cases e1:x=hd
   ·rw [if_pos e1,e1,hl]
   ·rw [if_neg e1]
  refine ⟨z,w,G,_,?_,hlk ▸ hS1,?_,Fr.refl _ _ _ _,hle1,fun x hx'=>?_,fun x l c hx' hc=>?_⟩
  ·simp [execOp,ho,Instr.lookup,run_underlying hT,hv,MapKept.run_getObj_map h1,dH hk0 hkv,hfn,gL hi hz]
  ·rw [hzv]
   unfold AV.Rep
   exact ⟨rfl,.none,by unfold aB;rw [if_pos rfl],fun _=>.inl ⟨a,rfl,rfl⟩⟩
  ·unfold aB;rw [if_neg hx'];exact .inl rfl
  ·unfold aB at hx'
   split at hx'
   ·cases hx';cases hc
   ·exact .inr ⟨_,_,hx',hc⟩
 | some (j,.v a),hf,h=>exact h.elim
 | some (j,.o k' rs),hf,h =>
  obtain ⟨rfl,k2,hj,hK⟩:=h
  exact ⟨_,hK,tk j _ false k2 _ rs hf hj (.inl ⟨rfl,rfl,rfl⟩)⟩
 | some (j,.ow k' rs),hf,h =>
  obtain ⟨rfl,k2,hj,hK⟩:=h
  exact ⟨_,hK,tk j _ true k2 _ rs hf hj (.inr ⟨rfl,rfl,rfl⟩)⟩
theorem aZg {x:Operand} {s:AState} {dst:Option Nat} {K:AState->Prop} (ho:o.op=.entry x) (h:aMd s dst K (s.ev x)):∃ s',K s'/\EOk P o [x] dst s s':=by
 generalize hx:s.ev x=ax at h
 unfold aMd at h
 split at h
 case h_2=>exact h.elim
 rename_i hd hi
 obtain ⟨hlive,kd,es,cur,rem,j,k2,k,rs,hl,hky,hf,hj,hK⟩:=h
 have hrx:∀ (G:Gh) (m:HM) (w:World) (ρ:Operand->Value),(∀ x' ∈ [x],AV.Rep G m (s.ev x') (ρ x'))->AV.Rep G m (.itr hd hi) (ρ x):=fun G m w ρ hev=>hx ▸ hev x (by simp)
 refine ⟨_,hK,.one hl (fun G m w ρ hS hev hn0 hne=>?_) (fun G m w ρ hS hev=>?_)⟩
 ·obtain ⟨b,sz,fp,bi,szi,fpi,arr,clk,seen,l,hm,_,hv,q0,q00,h1,h2,h3,h4,h5,p1,p2,h6⟩:=aAd hS (hrx G m w ρ hev) hlive hl
  obtain ⟨bl,hl',hb⟩:=hS.blkx _ _ _ _ hm
  rw [hl] at hl'
  cases hl'
  obtain ⟨e,he,hback,hrk⟩:=h6 cur rfl
  obtain ⟨u,k3,f1,f2,f3,q1,q2,q3,q4,q5,_⟩:=lY hrk h4 hf
  have hu:u=e:=by
   obtain ⟨j',hj'⟩:=List.getElem?_of_mem he
   have e1:(arr.toList.map (·.key))[j]?=some e.key:=by rw [List.getElem?_map,q1];simp [q3]
   have e2:(arr.toList.map (·.key))[j']?=some e.key:=by rw [List.getElem?_map,hj'];rfl
   have:=(List.getElem?_inj (List.getElem?_eq_some_iff.1 e1).1 h2.2.2).1 (e1.trans e2.symm)
   subst this
   rw [q1] at hj';exact Option.some.inj hj'
  subst hu
  have hfind:arr.find? (·.born == u.born)=some u:=by rw [<- Array.find?_toList];exact find_born u arr.toList h2.2.1 he
  obtain ⟨m',g1,g2,g3,g4,g5⟩:=aIe hS hm hb (it':=some (hi,[],rem)) (fun G m arr clk w q h' q' e=>by
   cases e
   obtain ⟨loc,z1,z2⟩:=q hi _ rfl
   refine ⟨loc,z1,fun hn=>?_⟩
   obtain ⟨bi,sz,fp,seen,l,z3,z4,z5,z6,_⟩:=z2 hn
   exact ⟨bi,sz,fp,seen,l,z3,z4,z5,z6,fun key e=>by cases e⟩) h1 hj q1 (.inr ⟨rfl,rfl,rfl⟩) hn0 hne
  refine ⟨.tuple #[u.key,u.val],w,G,m',?_,g1,?_,Fr.refl _ _ _ _,g3,g4,fun h l c q q'=>.inr (g5 h l c q q')⟩
  ·simp only [execOp,ho,Instr.entry,hv,getObj,Sem.run_bind,Sem.run,h5,h1,Result.andThen,hback,bne_self_eq_false,Bool.false_eq_true,if_false,hfind]
   simp
  ·unfold AV.Rep
   exact ⟨_,rfl,by unfold AV.RepL AV.RepL AV.RepL;exact ⟨_,_,rfl,AV.Rep.mono (Gh.le.refl G) (fun _ _ h=>by cases h) _ _ hrk,_,_,rfl,g2,rfl⟩⟩
 ·obtain ⟨b,sz,fp,bi,szi,fpi,arr,clk,seen,l,hm,_⟩:=aAd hS (hrx G m w ρ hev) hlive hl
  rw [hm];simp
def bAm (s:AState) (dst:Option Nat) (K:AState->Prop):AV->Prop
 | .itr h hi=>(s.lk hi).isSome=true/\∃ kd es cur rem,s.lk h=some (.mp kd es (some (hi,cur,rem)))/\(rem=[]->K (s.put dst (.tup [.D (.B false)]) [] [])) /\
  ∀ j key,rem[j]?=some key->K ((s.setBlk h (some (.mp kd es (some (hi,[key],rem.eraseIdx j))))).put dst (.tup [.D (.B true),.any,.any]) [] [])
 | _=>False
theorem AtS.ep {E:Ent} {G:Gh} {m:HM} {s s':AState} {a:Act} {w w':World} {v:Value} {dst:Option Nat} (h:AtS E G m s a w) (hd:∀ d,dst=some d->d < E.N) (henv:∀ t,dst ≠ some t->s'.env t=s.env t) (hnx:s.nx <= s'.nx) (hown:(∀ i,s.nx <= i->s.own i=none)->∀ i,s'.nx <= i->s'.own i=none)
  (hp:wE G m s dst s' w v w'):ASim E s' (a.put dst v) w':=by
 obtain ⟨G',m',hS,hr,hF,hle,hB,hO,hnew⟩:=hp
 have hk:KeepO w w':=hF.keep (fun b q=>h.sim.data q)
 refine ⟨G',m',hS,fun t=>?_,by rw [lD];exact h.size,by rw [lN];exact h.defers.keep hk,by rw [henv _ (fun e=>Nat.lt_irrefl _ (hd _ e))];exact E.Jkeep _ _ _ h.jok hk,fun i hi=>?_,h.frame.step hF (fun b hb q=>h.ownOld hb q) (fun b hb q=>h.ownOld hb q),fun i=>(h.base i).trans (hB i),fun x l b hi hl=>?_,h.noO,hown h.nxOk⟩
 ·rw [uQ t h.size hd]
  by_cases e:dst=some t
  ·rw [if_pos e];exact hr t e
  ·rw [if_neg e,henv t e];exact AV.Rep.mono hF.le hle _ _ (h.env t)
 ·exact (hO i (.inr hi)).none (h.fresh i (Nat.le_trans hnx hi))
 ·rcases hnew x l b hi hl with h1 | h1
  ·exact .inl (Nat.le_trans h.frame.size h1)
  ·rcases Nat.lt_or_ge b E.w0.heap.size with h2 | h2
   ·exact .inr (h.ownOld h2 h1)
   ·exact .inl h2
theorem KeysRep.get {G:Gh}:∀ {ks:List AV} {l:List MapEntry} {j:Nat} {e:MapEntry},KeysRep G ks l->l[j]?=some e->∃ k,ks[j]?=some k/\AV.Rep G (fun _=>none) k e.key/\KeysRep G (ks.eraseIdx j) (l.eraseIdx j)
 | [],l,j,e,h,hj=>by rw [show l=[] from h] at hj;simp at hj
 | k :: ks,l,j,e,h,hj=>by
  obtain ⟨x,xs',rfl,h1,h2⟩:=h
  cases j with
  | zero =>
   simp only [List.getElem?_cons_zero,Option.some.injEq] at hj
   subst hj
   exact ⟨k,rfl,h1,h2⟩
  | succ j =>
   simp only [List.getElem?_cons_succ] at hj
   obtain ⟨k',q1,q2,q3⟩:=KeysRep.get h2 hj
   exact ⟨k',q1,q2,x,_,rfl,h1,q3⟩
theorem aVl {x:Operand} {s:AState} {dst:Option Nat} {K:AState->Prop} (ho:o.op=.next x false) (h:bAm s dst K (s.ev x)) {E:Ent} {G:Gh} {m:HM} {a:Act} {w:World} (hA:AtS E G m s a w) (hx:x.inN E.N=true) (hd:∀ d,dst=some d->d < E.N) :
  Does P o a.eval w fun v w'=>∃ s',K s'/\ASim E s' (a.put dst v) w':=by
 have hrx:=hA.evs x hx
 generalize hax:s.ev x=ax at h hrx
 unfold bAm at h
 split at h
 case h_2=>exact h.elim
 rename_i hm hi
 obtain ⟨hlive,kd,es,cur,rem,hl,hK0,hK1⟩:=h
 obtain ⟨b,sz,fp,bi,szi,fpi,arr,clk,seen,l,h1,h2,hv,h0,h0',g1,g2,g3,g4,g5,g6,g7,g8⟩:=aAd hA.sim hrx hlive hl
 have hleft:(leftOf arr seen).toList=arr.toList.filter fun e=>!seen.contains e.born:=by unfold leftOf;simp
 rcases run_next_at (P:=P) w o.type bi b clk clk seen arr clk g5 g1 g2.1 (Nat.le_refl _) with ⟨q1,q2⟩ | ⟨e,q1,w1,q2,q3⟩
 ·have:rem=[]:=by
   have hl0:l=[]:=by
    have:=g6.length_eq
    rw [<- hleft] at this
    simp only [Array.length_toList,q1] at this
    exact List.length_eq_zero_iff.1 this
   rw [hl0] at g7
   cases rem with
   | nil=>rfl
   | cons k ks=>obtain ⟨_,_,e,_⟩:=g7;cases e
  refine Does.val (v:=.tuple #[.bool false]) (w':=w) (by simp [execOp,ho,hv,q2]) ⟨_,hK0 this,hA.step hd (PPost.val hA.sim ?_)⟩
  unfold AV.Rep
  exact ⟨_,rfl,by unfold AV.RepL AV.RepL;exact ⟨_,_,rfl,by unfold AV.Rep DV.Rep;rfl,rfl⟩⟩
 ·rw [hleft] at q1
  obtain ⟨j,hj⟩:=List.getElem?_of_mem (g6.symm.subset q1)
  obtain ⟨key,r1,r2,r3⟩:=KeysRep.get g7 hj
  have hw1:Sim G m s.lk w1/\Fr (fun _=>False) (fun _=>False) G G w w1/\w1.heap=w.heap:=by
   rcases q2 with rfl | rfl
   ·exact ⟨hA.sim,Fr.refl _ _ _ _,rfl⟩
   ·exact ⟨hA.sim.drew,⟨rfl,⟨rfl,Nat.le_succ _⟩,rfl,Nat.le_refl _,fun _ _ _=>rfl,fun _ _ _ _=>rfl,Gh.le.refl G⟩,rfl⟩
  obtain ⟨hS1,hF1,hh1⟩:=hw1
  have hbi:Own m bi:=⟨_,_,h2,List.mem_cons_self⟩
  have hne:b ≠ bi:=fun e=>by rw [e,g5] at g1;cases g1
  have hltI:=(Array.getElem?_eq_some_iff.1 g5).1
  have hnew:(w1.putObj bi (.mapIter (some b) clk (seen.push e.born) clk)).heap[bi]?=some (.mapIter (some b) clk (seen.push e.born) clk):=World.putObj_heap_same (by rw [hh1];exact hltI)
  have hoth:∀ c,c ≠ bi->(w1.putObj bi (.mapIter (some b) clk (seen.push e.born) clk)).heap[c]?=w.heap[c]?:=fun c hc=>by rw [World.putObj_heap_other hc,hh1]
  have hcells:∀ c vs T,w.heap[c]?=some (.cells vs T (0,0))->c ≠ bi:=fun c vs T hc e=>by rw [e,g5] at hc;cases hc
  have hmne:hm ≠ hi:=fun e=>by
   rw [e,h2] at h1
   cases h1
   exact hne rfl
  have hmem:e ∈ arr.toList:=(List.mem_filter.1 q1).1
  have hmap:BlkX G m (.mp kd es (some (hi,[key],rem.eraseIdx j))) b sz fp (w1.putObj bi (.mapIter (some b) clk (seen.push e.born) clk)):=by
   refine ⟨h0,h0',arr,clk,(hoth b hne).trans g1,g2,g3,g4.mono (Gh.le.refl _) (fun _ _ _=>rfl) (fun c hc=>by obtain ⟨vs,T,q⟩:=g4.lt c hc;exact hoth c (hcells c vs T q)),fun hi' q eq=>?_⟩
   cases eq
   refine ⟨_,h2,fun _=>⟨_,_,_,seen.push e.born,l.eraseIdx j,rfl,hnew,?_,r3,fun k hk=>?_⟩⟩
   ·have hfe:(arr.toList.filter fun x=>!(seen.push e.born).contains x.born)=(arr.toList.filter fun x=>!seen.contains x.born).filter fun x=>x.born != e.born:=by
     rw [List.filter_filter]
     refine List.filter_congr fun x _=>?_
     simp only [Array.contains_push,Bool.not_or]
     exact Bool.and_comm _ _
    rw [hfe]
    have hnd:(l.map (·.born)).Nodup:=(g6.map _).nodup_iff.2 ((List.filter_sublist.map _).nodup g2.2.1)
    rw [rM hj hnd]
    exact g6.filter _
   ·cases hk
    exact ⟨e,hmem,by simp,r2⟩
  have hS2:Sim G m (s.setBlk hm (some (.mp kd es (some (hi,[key],rem.eraseIdx j))))).lk (w1.putObj bi (.mapIter (some b) clk (seen.push e.born) clk)):=by
   refine ⟨fun y b' sz' hy=>?_,fun y hy=>?_,hA.sim.injG,fun b' o' v' hv'=>?_,fun y hy=>?_,hA.sim.gl,fun y b' sz' fp' hy=>?_⟩
   ·obtain ⟨bl,p1,p2⟩:=hA.sim.blk y b' sz' hy
    rw [aD,if_neg (fun e'=>by rw [e',h1] at hy;cases hy)]
    refine ⟨bl,p1,p2.mono (Gh.le.refl G) (HM.le.refl m) (fun _=>rfl) (hoth b' fun e'=>?_)⟩
    have:=hA.sim.injG y hi _ _ b' hy h2 (List.mem_singleton.2 rfl) (by rw [e'];exact List.mem_cons_self)
    rw [this,h2] at hy;cases hy
   ·rw [aD,if_neg (fun e'=>by rw [e',h1] at hy;cases hy)];exact hA.sim.nil y hy
   ·have:=hA.sim.gh b' o' v' hv'
    have hb':b' ≠ bi:=fun e'=>by
     subst e'
     unfold World.cell? at this
     simp only [g5] at this
     cases this
    rw [World.cell?_of_block (w:=w) (hoth b' hb')];exact this
   ·rw [aD,if_neg (fun e'=>by rw [e',h1] at hy;cases hy)];exact hA.sim.dead y hy
   ·rw [aD]
    by_cases e1:y=hm
    ·rw [if_pos e1]
     rw [e1,h1] at hy
     cases hy
     exact ⟨_,rfl,hmap⟩
    ·rw [if_neg e1]
     obtain ⟨bl,p1,p2⟩:=hA.sim.blkx y b' sz' fp' hy
     refine ⟨bl,p1,?_⟩
     by_cases e2:y=hi
     ·rw [e2,h2] at hy
      cases hy
      cases bl with
      | it=>exact ⟨p2.1,p2.2.1,_,_,_,_,hnew⟩
      | nst _ _=>obtain ⟨_,_,_,p3,_⟩:=p2;rw [g5] at p3;cases p3
      | mp _ _ _=>obtain ⟨_,_,_,_,p3,_⟩:=p2;rw [g5] at p3;cases p3
      | _=>exact p2.elim
     ·have hyb:∀ c ∈ b' :: fp',c ≠ bi:=fun c hc e'=>e2 (hA.sim.injG y hi _ _ c hy h2 hc (by rw [e'];exact List.mem_cons_self))
      refine p2.mono2 (Gh.le.refl G) (HM.le.refl m) (fun _ _ _=>rfl) (fun c hc=>hoth c (hyb c hc)) fun z c szc fpc hz u1 u2 u3 hc=>hoth c fun e'=>?_
      rw [e',g5] at hc
      cases hc
      exact e1 (hA.sim.injG y hm _ _ b hy h1 List.mem_cons_self List.mem_cons_self)
  have hlkE:((s.setBlk hm (some (.mp kd es (some (hi,[key],rem.eraseIdx j))))).put dst (.tup [.D (.B true),.any,.any]) [] []).lk=(s.setBlk hm (some (.mp kd es (some (hi,[key],rem.eraseIdx j))))).lk:=by rw [cA,aV,cN]
  have hrun:(execOp a.eval o).run P w=.ok (.value (.tuple #[.bool true,e.key,e.val])) (w1.putObj bi (.mapIter (some b) clk (seen.push e.born) clk)):=by
   have:(Instr.next (.pointer (some ⟨bi,0,none⟩)) false o.type).run P w=.ok (.tuple #[.bool true,e.key,e.val]) (w1.putObj bi (.mapIter (some b) clk (seen.push e.born) clk)):=q3
   simp [execOp,ho,hv,this]
  refine Does.val hrun ⟨_,hK1 j key r1,hA.ep hd (fun t ht=>?_) ?_ (fun hown j' hj'=>iY (fun j'' hj''=>eG hown ⟨_,hl⟩ j'' (by rw [aF] at hj'';exact hj'')) j' hj') ⟨G,m,hlkE ▸ hS2,fun d hd'=>?_,(hF1.mono (fun _ _ q=>q.elim) (fun _ _ q=>q.elim)).trans (Fr.putO hbi),HM.le.refl m,fun _=>.inl rfl,fun _ _=>.inl rfl,fun y l' c hy hc=>.inr ⟨y,l',hy,hc⟩⟩⟩
  ·show bO (s.setBlk hm _).env dst _ t=_
   rw [aK]
   cases dst with
   | none=>rfl
   | some dd=>simp only [bO,upd];rw [if_neg (fun q=>ht (by rw [q]))]
  ·show s.nx <= (s.setBlk hm _).nx + 0
   rw [aF];exact Nat.le_refl _
  ·subst hd'
   show AV.Rep G m (upd (s.setBlk hm _).env d _ d) _
   unfold upd
   rw [if_pos rfl]
   unfold AV.Rep
   exact ⟨_,rfl,by unfold AV.RepL AV.RepL AV.RepL AV.RepL;exact ⟨_,_,rfl,by unfold AV.Rep DV.Rep;rfl,_,_,rfl,by unfold AV.Rep;trivial,_,_,rfl,by unfold AV.Rep;trivial,rfl⟩⟩
end
end Go.Eng

