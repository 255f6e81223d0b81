/- Texts of this claim. -/
import Derived.Test.YtloponjgedpffaaGreatE18
set_option linter.all false
set_option linter.unusedSimpArgs false
set_option linter.unusedVariables false
namespace Go.Eng
open Go.RowKit

theorem countP_lt {α:Type} {p p':α->Bool}:∀ {l:List α},(∀ x ∈ l,p' x=true->p x=true)->(∃ x ∈ l,p x=true/\p' x=false)->l.countP p' < l.countP p
 | [],_,h=>by obtain ⟨x,hx,_⟩:=h;simp at hx
 | y :: l,h1,h2=>by
  have hle:l.countP p' <= l.countP p:=List.countP_mono_left (fun x hx=>h1 x (by simp [hx]))
  obtain ⟨x,hx,hp,hp'⟩:=h2
  rcases List.mem_cons.1 hx with rfl | hx
  ·simp [hp,hp'];omega
  ·have ih:=countP_lt (fun z hz=>h1 z (by simp [hz])) ⟨x,hx,hp,hp'⟩
   rw [List.countP_cons,List.countP_cons]
   have:=h1 y (by simp)
   cases e1:p y <;> cases e2:p' y <;> simp_all <;> omega

theorem wpAnyIn_inv {rd:Option Nat} {P:Program} {md:Region.Mode} {ops:Array Oper} {Q:Exit->Act->World->Prop} (I:Array Bool->Act->World->Prop) (hsz:∀ listed a w,I listed a w->listed.size=ops.size)
  (hstep:∀ listed a w i,I listed a w->i ∈ Region.ready md ops listed->wpOpIn (FR rd) 0 P ops Q i (I (listed.setIfInBounds i true)) a w) (hend:∀ listed a w,I listed a w->Region.ready md ops listed=[]->Q .normal a w) :
  ∀ (fuel:Nat) (listed:Array Bool) (a:Act) (w:World),(List.range ops.size).countP (fun j=>!listed.getD j true) <= fuel->I listed a w->wpAnyIn (FR rd) 0 P md ops Q fuel listed a w
 | 0,listed,a,w,hc,hI=>by
  have hr:Region.ready md ops listed=[]:=by
   rw [List.eq_nil_iff_forall_not_mem]
   intro i hi
   obtain ⟨h1,o,h2,_⟩:=mem_ready.1 hi
   have hlt:i < ops.size:=(Array.getElem?_eq_some_iff.1 h2).1
   have:0 < (List.range ops.size).countP (fun j=>!listed.getD j true):=List.countP_pos_iff.2 ⟨i,by simpa using hlt,by simp [h1]⟩
   omega
  exact ⟨hr,hend _ _ _ hI hr⟩
 | fuel + 1,listed,a,w,hc,hI=>by
  refine ⟨fun hr=>hend _ _ _ hI hr,fun i hi=>?_⟩
  obtain ⟨h1,o,h2,_⟩:=mem_ready.1 hi
  have hlt:i < ops.size:=(Array.getElem?_eq_some_iff.1 h2).1
  refine wpOpIn_mono (fun a' w' h=>wpAnyIn_inv I hsz hstep hend fuel _ a' w' ?_ h) (hstep _ _ _ i hI hi)
  have hil:i < listed.size:=by rw [hsz _ _ _ hI];exact hlt
  have:(List.range ops.size).countP (fun j=>!(listed.setIfInBounds i true).getD j true) < (List.range ops.size).countP (fun j=>!listed.getD j true):=by
   refine countP_lt (fun j _ hj=>?_) ⟨i,by simpa using hlt,by simp [h1],by simp [hil]⟩
   by_cases e:i=j
   ·subst e;simp [hil] at hj
   ·simpa only [Array.getD_eq_getD_getElem?,Array.getElem?_setIfInBounds_ne e] using hj
  omega

theorem envN_lastW {P:Program} {N:Nat} {ops:Array Oper} {r:Nat->RO} {st:Nat->AState} (hst:∀ i,i < ops.size->∃ o,ops[i]?=some o/\ResO P ops N o (r i)/\RStep P o (r i) (st i) (st (i + 1))) {E:Ent} (hN:E.N=N):(st (lastW r E.N ops.size)).env E.N=(st 0).env E.N:=by
 have:lastW r E.N ops.size=0:=by
  rcases (lastW_spec r E.N ops.size).1 with h | ⟨k,hk,_,hd⟩
  ·exact h
  ·exfalso
   obtain ⟨o,_,hres,_⟩:=hst k hk
   have h9:E.N < N:=hres.lt E.N (by rw [<- hres.dst];exact hd)
   rw [hN] at h9
   exact Nat.lt_irrefl _ h9
 rw [this]

theorem draw_core {rd:Option Nat} {P:Program} {N:Nat} {id:Nat} {ops:Array Oper} {r:Nat->RO} {st:Nat->AState} (hm:P.follows .mixedOrders=true) {e:Nat} (hD:DrawOk ops r e) (hst:∀ i,i < ops.size->∃ o,ops[i]?=some o/\ResO P ops N o (r i)/\RStep P o (r i) (st i) (st (i + 1)))
  (hstab:∀ i x,i < ops.size->(r i).op.sArg=some x->∀ h,((st i).ev x).hd?=some h->∀ q,q <= ops.size->(∀ j,j < q->(r j).op.eff=true->¬ anc ops i j=true)->keepB (isLd (r i).op) ((st i).lk h) ((st q).lk h))
  {E:Ent} {Q:Exit->AState->Prop} {s:AState} {a:Act} {w:World} (hN:E.N=N) (hst0:st 0=s) (hK':Q .normal (st ops.size)) (hA:ASim E s a w):(Code.region id ops true).wpIn (FR rd) 0 P (cpost E Q) a w:=by
 obtain ⟨G,m,hA⟩:=hA
 have h0:∀ j,(st 0).nx <= j->(st 0).own j=none:=by rw [hst0];exact hA.nxOk
 have hfresh:∀ j,(st 0).nx <= j->m (.O j)=none:=by rw [hst0];exact hA.fresh
 refine wpIn_region_any hm (wpAnyIn_inv (Inv P ops r st e E) (fun _ _ _ hI=>hI.size) (fun listed a w i hI hi=>inv_step hst hD h0 hstab hN hI hi) (fun listed a w hI hr=>?_) _ _ _ _ ?_ ?_)
 · -- all have run
  obtain ⟨hsize,hclosed,G,m,p,hpn,hp1,hp2,hS,htm,hasz,hdef,hfr1,hfr2,hframe,hbase,hown,_⟩:=hI
  have hall:∀ j,j < ops.size->listed.getD j false=true:=by
   intro j
   induction j using Nat.strongRecOn with
   | _ j ih =>
    intro hj
    cases hl:listed.getD j false with
    | true=>rfl
    | false =>
     exfalso
     have hjs:j < listed.size:=by rw [hsize];exact hj
     have:j ∈ Region.ready .any ops listed:=mem_ready.2 ⟨by simp [hjs] at hl |-;exact hl,ops[j],by simp [hj],fun e he hb=>by
      have hin:e.on ∈ afterOf ops j:=by
       unfold afterOf
       rw [show ops[j]?=some ops[j] by simp [hj]]
       exact List.mem_map.2 ⟨e,List.mem_filter.2 ⟨by simpa using he,hb⟩,rfl⟩
      have hlt:=hD.lt j hj _ hin
      exact ih e.on hlt (by omega)⟩
     rw [hr] at this;cases this
  have hp:p=ops.size:=by
   rcases Nat.lt_or_ge p ops.size with h | h
   ·have:=(hp2 h).2;rw [hall p h] at this;cases this
   ·omega
  subst hp
  refine ⟨_,hK',G,m,hS,fun t=>?_,hasz,hdef.1,(by rw [<- lastW_env hst E.N ops.size (Nat.le_refl _),envN_lastW hst hN];exact hdef.2),hfr2,hframe,hbase,hown,hA.noO,own_none hst h0 _ (Nat.le_refl _)⟩
  rw [<- lastW_env hst t ops.size (Nat.le_refl _)]
  obtain ⟨g1,g2⟩:=lastW_spec r t ops.size
  exact htm t _ ⟨lastW_le r t _,g1.imp (fun x=>x) fun ⟨k,a,b,c⟩=>⟨k,b,hall k a,c⟩,fun j a b _=>g2 j a b⟩ (fun hq=>by have:=lastW_le r t ops.size;omega)
 ·refine Nat.le_trans List.countP_le_length (by simp)
 ·obtain ⟨p,hp1,hp2,hp3,hp4⟩:=next_eff r ops.size ops.size 0 (by omega)
  have hS0:Sim G m (st 0).lk w.drew:=by rw [hst0];exact hA.sim.drew
  obtain ⟨G2,hS2,hF2⟩:=sim_goes hst (Nat.zero_le p) hp2 (fun j a b=>hp3 j a b) (fun j a _=>hfresh j a) hS0
  have hf:∀ j,(Array.replicate ops.size false).getD j false=false:=fun j=>by
   rcases Nat.lt_or_ge j ops.size with h | h
   ·simp [h]
   ·simp [h]
  refine ⟨by simp,(fun j _ h=>by rw [hf] at h;cases h),G2,m,p,hp2,(fun j a b=>by rw [hp3 j (Nat.zero_le _) a] at b;cases b),fun h=>⟨hp4 h,hf p⟩,hS2,fun t q hv _=>?_,hA.size,⟨hA.defers.keep fun _ _ h _=>h,by rw [hst0];exact E.Jkeep _ _ _ hA.jok fun _ _ h _=>h⟩,
   fun k hk _ j a _=>hfresh j (Nat.le_trans (by have:=nx_le hst k 0 (by omega);simpa using this) a),fun j a=>hfresh j (Nat.le_trans (by have:=nx_le hst ops.size 0 (by omega);simpa using this) a),?_,hA.base,hA.own,fun _ h _=>by rw [hf] at h;cases h⟩
  ·rcases hv.by_ with rfl | ⟨k,_,hk,_⟩
   ·rw [hst0];exact AV.Rep.mono hF2.le (HM.le.refl m) _ _ (hA.env t)
   ·rw [hf] at hk;cases hk
  ·have hd:Fr (Own E.m0) (Own E.m0) E.G0 G E.w0 w.drew:=⟨hA.frame.os,hA.frame.tape.drew,hA.frame.output,hA.frame.size,hA.frame.heap,hA.frame.gh,hA.frame.le⟩
   exact hd.step hF2 (fun _ _ q=>q.elim) (fun b hb q=>hA.ownOld hb q)

def isS:ROp->Bool
 | .loadS _ _=>true
 | .faddrS _ _=>true
 | .nilcS _=>true
 | .lenS _ _=>true
 | .slsA _ _ _ _=>true
 | .arrP _ _=>true
 | _=>false
theorem isS_arg {op:ROp} {x:Operand} (h:op.sArg=some x):isS op=true:=by
 cases op <;> first | rfl | (cases h;done)
def hasS (ros:List RO):Bool:=ros.any fun r=>isS r.op

theorem CodeOk.draw {P:Program} {N id:Nat} {ops:Array Oper} {ros:List RO} (hm:P.follows .mixedOrders=true) (h:ResL P ops N ops.toList ros) (hd:drawOk ops ros=true) (hs:hasS ros=false):CodeOk P N (.region id ops true) (.reg true ros):=fun rd Y E Q s a w hY hN hc hA=>by
 obtain ⟨st,hst0,hlen,hK,hsteps⟩:=trace h hc
 have hlen':ros.length=ops.size:=by simpa using hlen
 have hget:∀ i,i < ops.size->ros[i]?=some (ros.getD i default):=fun i hi=>by
  rw [List.getD_eq_getElem?_getD,List.getElem?_eq_getElem (by omega)];rfl
 refine draw_core (r:=fun i=>ros.getD i default) hm (drawOk_spec hd) (fun i hi=>?_) (fun i x hi he=>?_) hN hst0 (by simpa using hK) hA
 ·obtain ⟨g1,g2⟩:=hsteps i ops[i] _ (by simp [hi]) (hget i hi)
  exact ⟨_,by simp [hi],g1,g2⟩
 ·exfalso
  have:=List.any_eq_false.1 hs _ (List.mem_of_getElem? (hget i hi))
  exact this (isS_arg he)

def lastS (ops:Array Oper) (ros:List RO):Bool:=(ros.getD (ops.size - 1) default).op.eff && (List.range ops.size).all fun i=>!isS (ros.getD i default).op || anc ops i (ops.size - 1)
theorem CodeOk.drawS {P:Program} {N id:Nat} {ops:Array Oper} {ros:List RO} (hm:P.follows .mixedOrders=true) (h:ResL P ops N ops.toList ros) (hd:drawOk ops ros=true):CodeOk P N (.region id ops true) (.regS (lastS ops ros) ros):=fun rd Y E Q s a w hY hN hc hA=>by
 obtain ⟨hs,hc⟩:=hc
 obtain ⟨st,hst0,hlen,hK,hkeep,hsteps⟩:=traceS h hc
 have hlen':ros.length=ops.size:=by simpa using hlen
 have hget:∀ i,i < ops.size->ros[i]?=some (ros.getD i default):=fun i hi=>by
  rw [List.getD_eq_getElem?_getD,List.getElem?_eq_getElem (by omega)];rfl
 have hall:∀ x,x ∈ hs->∀ q,q <= ops.size->(lastS ops ros=false\/q < ops.size)->keepB (hasLd ros) ((st 0).lk x) ((st q).lk x):=fun x hx q=>by
  induction q with
  | zero=>exact fun _ _=>keepB.refl _ _
  | succ q ih=>exact fun hq hl=>(ih (by omega) (hl.imp (fun x=>x) fun h=>by omega)).trans (hkeep q (by rw [Array.length_toList];omega) (hl.imp (fun x=>x) fun h=>by rw [Array.length_toList];omega) x hx)
 refine draw_core (r:=fun i=>ros.getD i default) hm (drawOk_spec hd) (fun i hi=>?_) (fun i x hi he=>?_) hN hst0 (by simpa using hK) hA
 ·obtain ⟨g1,g2,_⟩:=hsteps i ops[i] _ (by simp [hi]) (hget i hi)
  exact ⟨_,by simp [hi],g1,g2⟩
 ·obtain ⟨_,_,g3⟩:=hsteps i ops[i] _ (by simp [hi]) (hget i hi)
  intro h hx q hq hbe
  have he':(ros.getD i default).op.sArg=some x:=he
  have hl:∀ k,k <= ops.size->(∀ j,j < k->(ros.getD j default).op.eff=true->¬ anc ops i j=true)->lastS ops ros=false\/k < ops.size:=fun k hk hb=>by
   cases e:lastS ops ros with
   | false=>exact .inl rfl
   | true =>
    refine .inr (Nat.lt_of_le_of_ne hk fun ek=>?_)
    unfold lastS at e
    rw [Bool.and_eq_true,List.all_eq_true] at e
    have:=e.2 i (List.mem_range.2 hi)
    rw [isS_arg he'] at this
    exact hb (ops.size - 1) (by omega) e.1 (by simpa using this)
  unfold ldOk at g3
  simp only [he'] at g3
  have hin:=g3 h hx
  exact ((hall h hin i (by omega) (.inr hi)).symm.trans (hall h hin q hq (hl q hq hbe))).weak fun e=>List.any_eq_true.2 ⟨_,List.mem_of_getElem? (hget i hi),e⟩

def drP (r:RO):Bool :=
 r.guard.isNone && match r.op with
 | .callP _ _=>true
 | .pan _=>false
 | op=>!op.ht && !op.eff && !isS op
def isCP:ROp->Bool
 | .callP _ _=>true
 | _=>false
def dpOk (ops:Array Oper) (σ:List Nat) (ros:List RO):Bool :=
 (List.range ops.size).all (fun j=>(afterOf ops j).all fun e=>decide (e < j)) &&
 decide (σ.length=ops.size) && σ.all (fun i=>decide (i < ops.size)) && (List.range ops.size).all (fun i=>σ.contains i) && ros.all drP &&
 (List.range ops.size).all fun q=>(List.range ops.size).all fun p =>
  (!(decide (p < q)) || (!anc ops (σ.getD q 0) (σ.getD p 0) && !(σ.getD p 0 == σ.getD q 0) && (!isCP (ros.getD p default).op || anc ops (σ.getD p 0) (σ.getD q 0)) && ((ros.getD p default).dst.isNone || !((ros.getD p default).dst == (ros.getD q default).dst)))) &&
  (match (ros.getD p default).dst with
  | some d=>!(opTmps (ros.getD q default).op.operands).contains d || anc ops (σ.getD p 0) (σ.getD q 0)
  | none=>true)

structure DpOk (ops:Array Oper) (g:Nat->Nat) (r:Nat->RO):Prop where
 lt:∀ j,j < ops.size->∀ e ∈ afterOf ops j,e < j
 bd:∀ p,p < ops.size->g p < ops.size
 sur:∀ i,i < ops.size->∃ p,p < ops.size/\g p=i
 pure:∀ p,p < ops.size->drP (r p)=true
 ord:∀ p q,p < q->q < ops.size->¬ anc ops (g q) (g p)=true
 inj:∀ p q,p < q->q < ops.size->g p ≠ g q
 call:∀ p q,p < q->q < ops.size->isCP (r p).op=true->anc ops (g p) (g q)=true
 dst:∀ p q,p < q->q < ops.size->∀ d,(r p).dst=some d->(r q).dst ≠ some d
 use:∀ p q,p < ops.size->q < ops.size->∀ d,(r p).dst=some d->d ∈ opTmps (r q).op.operands->anc ops (g p) (g q)=true
theorem dpOk_spec {ops:Array Oper} {σ:List Nat} {ros:List RO} (hl:ros.length=ops.size) (h:dpOk ops σ ros=true):DpOk ops (fun p=>σ.getD p 0) (fun p=>ros.getD p default):=by
 unfold dpOk at h
 simp only [Bool.and_eq_true,List.all_eq_true,List.mem_range,decide_eq_true_eq] at h
 obtain ⟨⟨⟨⟨⟨h1,h2⟩,h3⟩,h4⟩,h5⟩,h6⟩:=h
 have hg:∀ p,p < ops.size->σ[p]?=some (σ.getD p 0):=fun p hp=>by
  rw [List.getD_eq_getElem?_getD,List.getElem?_eq_getElem (by omega)];rfl
 have hr:∀ p,p < ops.size->ros[p]?=some (ros.getD p default):=fun p hp=>by
  rw [List.getD_eq_getElem?_getD,List.getElem?_eq_getElem (by omega)];rfl
 refine ⟨h1,fun p hp=>h3 _ (List.mem_of_getElem? (hg p hp)),fun i hi=>?_,fun p hp=>h5 _ (List.mem_of_getElem? (hr p hp)),fun p q a b hc=>?_,fun p q a b hc=>?_,fun p q a b hc=>?_,fun p q a b d hd he=>?_,fun p q a b d hd he=>?_⟩
 ·have:=h4 i hi
  rw [List.contains_eq_mem,decide_eq_true_eq] at this
  obtain ⟨p,hp,e⟩:=List.mem_iff_getElem.1 this
  exact ⟨p,by omega,by show σ.getD p 0=i;rw [List.getD_eq_getElem?_getD,List.getElem?_eq_getElem hp];exact e⟩
 ·have:=(h6 q b p (by omega)).1
  simp only [a,decide_true,Bool.not_true,Bool.false_or,Bool.and_eq_true,Bool.not_eq_true'] at this
  rw [this.1.1.1] at hc;cases hc
 ·have:=(h6 q b p (by omega)).1
  simp only [a,decide_true,Bool.not_true,Bool.false_or,Bool.and_eq_true,Bool.not_eq_true'] at this
  have h7:=this.1.1.2
  rw [beq_eq_false_iff_ne] at h7
  exact h7 hc
 ·have:=(h6 q b p (by omega)).1
  simp only [a,decide_true,Bool.not_true,Bool.false_or,Bool.and_eq_true,Bool.not_eq_true',Bool.or_eq_true] at this
  exact this.1.2.resolve_left (by show ¬ isCP (ros.getD p default).op=false;rw [show isCP (ros.getD p default).op=true from hc];simp)
 ·have:=(h6 q b p (by omega)).1
  simp only [a,decide_true,Bool.not_true,Bool.false_or,Bool.and_eq_true,Bool.not_eq_true',Bool.or_eq_true] at this
  have hd':(ros.getD p default).dst=some d:=hd
  have he':(ros.getD q default).dst=some d:=he
  have:=this.2
  rw [hd',he'] at this
  simp at this
 ·have:=(h6 q b p a).2
  have hd':(ros.getD p default).dst=some d:=hd
  rw [hd'] at this
  simp only [Bool.or_eq_true,Bool.not_eq_true'] at this
  refine this.resolve_left fun e=>?_
  rw [List.contains_eq_mem,decide_eq_false_iff_not] at e
  exact e he

inductive DStep (P:Program) (o:Oper) (ro:RO) (s s':AState):Prop
 | pure (hc:isCP ro.op=false) (h:RStep P o ro s s')
 | call (f:Operand) (args:List Operand) (fn:FuncId) (caps:List AV) (r:AV) (h1:ro.op=.callP f args) (h2:s.ev f=.clo fn caps) (h3:AV.flat r=true) (h4:ACall P fn (AV.convL s.lk (fun _=>none) (args.map s.ev ++ caps)) [] r [] []) (h5:s'=s.put ro.dst r [] [])
def DPan (P:Program) (ro:RO) (s:AState) (v:Value):Prop :=
 ∃ f args fn caps,ro.op=.callP f args/\s.ev f=.clo fn caps/\APan P fn (AV.convL s.lk (fun _=>none) (args.map s.ev ++ caps)) v

theorem traceD {P:Program} {ops:Array Oper} {N:Nat}:∀ {os:List Oper} {ros:List RO} {s:AState} {K:AState->Prop} {Pn:Value->AState->Prop},ResL P ops N os ros->(∀ r ∈ ros,drP r=true)->aopsP P true ros s K Pn ->
  ∃ (st:Nat->AState) (k:Nat),st 0=s/\ros.length=os.length/\k <= os.length/\(∀ (i:Nat) (o:Oper) (r:RO),os[i]?=some o->ros[i]?=some r->ResO P ops N o r/\(i < k->DStep P o r (st i) (st (i + 1)))) /\
   ((k=os.length/\K (st k))\/∃ r v,ros[k]?=some r/\DPan P r (st k) v/\Pn v (st k))
 | [],[],s,K,Pn,_,_,h=>⟨fun _=>s,0,rfl,rfl,Nat.le_refl _,fun i o r hi=>by simp at hi,.inl ⟨rfl,h⟩⟩
 | [],_ :: _,_,_,_,hr,_,_=>hr.elim
 | _ :: _,[],_,_,_,hr,_,_=>hr.elim
 | o :: os,r :: ros,s,K,Pn,hr,hd,h=>by
  obtain ⟨h1,h2⟩:=hr
  have hlens:∀ (os:List Oper) (ros:List RO),ResL P ops N os ros->ros.length=os.length:=fun os=>by
   induction os with
   | nil=>intro ros h;cases ros with
    | nil=>rfl
    | cons _ _=>exact h.elim
   | cons _ _ ih=>intro ros h;cases ros with
    | nil=>exact h.elim
    | cons _ _=>simp [ih _ h.2]
  have hlen:=hlens _ _ h2
  have hres:∀ (os:List Oper) (ros:List RO),ResL P ops N os ros->∀ (i:Nat) (o:Oper) (r:RO),os[i]?=some o->ros[i]?=some r->ResO P ops N o r:=fun os=>by
   induction os with
   | nil=>intro ros _ i o r hi;simp at hi
   | cons o' os ih =>
    intro ros h i o r hi hi'
    cases ros with
    | nil=>exact h.elim
    | cons r' ros=>match i with
     | 0=>simp at hi hi';subst hi;subst hi';exact h.1
     | i + 1=>exact ih ros h.2 i o r (by simpa using hi) (by simpa using hi')
  have go:∀ s',aopsP P true ros s' K Pn->DStep P o r s s'->∃ (st:Nat->AState) (k:Nat),st 0=s/\(r :: ros).length=(o :: os).length/\k <= (o :: os).length/\(∀ (i:Nat) (o':Oper) (r':RO),(o :: os)[i]?=some o'->(r :: ros)[i]?=some r'->ResO P ops N o' r'/\(i < k->DStep P o' r' (st i) (st (i + 1)))) /\
   ((k=(o :: os).length/\K (st k))\/∃ r' v,(r :: ros)[k]?=some r'/\DPan P r' (st k) v/\Pn v (st k)):=fun s' hs' hstep=>by
   obtain ⟨st,k,g1,g2,g3,g4,g5⟩:=traceD h2 (fun x hx=>hd x (by simp [hx])) hs'
   refine ⟨fun i=>match i with | 0=>s | i + 1=>st i,k + 1,rfl,by simp [g2],by simpa using g3,fun i o' r' hi hi'=>?_,?_⟩
   ·match i with
    | 0 =>
     simp at hi hi'
     subst hi;subst hi'
     refine ⟨h1,fun _=>?_⟩
     show DStep P o r s (st 0)
     rw [g1];exact hstep
    | i + 1 =>
     obtain ⟨q1,q2⟩:=g4 i o' r' (by simpa using hi) (by simpa using hi')
     exact ⟨q1,fun h=>q2 (by omega)⟩
   ·rcases g5 with ⟨e,hK⟩ | ⟨r',v,e,hp,hK⟩
    ·exact .inl ⟨by simp [e],hK⟩
    ·exact .inr ⟨r',v,by simpa using e,hp,hK⟩
  unfold aopsP at h
  split at h
  ·rename_i f args heq
   obtain ⟨hg,fn,caps,hf,h⟩:=h
   rcases h with ⟨rr,nbs,hfl,hcall,hK⟩ | ⟨pv,hpan,hK⟩
   ·obtain ⟨hf2,rfl⟩:=hfl rfl
    refine go _ hK (.call f args fn caps rr heq hf hf2 hcall ?_)
    rw [AV.flat_ren rr hf2,if_pos ⟨hf2,rfl⟩];rfl
   ·refine ⟨fun _=>s,0,rfl,by simp [hlen],by simp,fun i o' r' hi hi'=>⟨?_,fun h=>absurd h (Nat.not_lt_zero i)⟩,.inr ⟨r,pv,rfl,⟨f,args,fn,caps,heq,hf,hpan⟩,hK⟩⟩
    exact hres (o :: os) (r :: ros) ⟨h1,h2⟩ i o' r' hi hi'
  ·rename_i x heq
   have:=hd r (by simp)
   unfold drP at this
   rw [heq] at this
   simp at this
  ·obtain ⟨s',hK,hs⟩:=aops_one h1 h
   exact go s' hK (.pure (by
    rename_i hne _
    cases e:r.op with
    | callP f args=>exact absurd e (hne f args)
    | _=>rfl) hs)

theorem drP_pure {ro:RO} (hd:drP ro=true) (hc:isCP ro.op=false):ro.guard=none/\ro.op.ht=false/\ro.op.eff=false:=by
 unfold drP at hd
 rw [Bool.and_eq_true,Option.isNone_iff_eq_none] at hd
 obtain ⟨hg,hd⟩:=hd
 refine ⟨hg,?_⟩
 split at hd
 ·rename_i e;rw [e] at hc;cases hc
 ·cases hd
 ·simp only [Bool.and_eq_true,Bool.not_eq_true'] at hd
  exact ⟨hd.1.1,hd.1.2⟩
theorem DStep.put {P:Program} {o:Oper} {ro:RO} {s s':AState} (hd:drP ro=true) (h:DStep P o ro s s'):∃ x,s'=s.put ro.dst x [] []:=by
 cases h with
 | call f args fn caps r h1 h2 h3 h4 h5=>exact ⟨r,h5⟩
 | pure hc h =>
  obtain ⟨hg,hht,heff⟩:=drP_pure hd hc
  cases h with
  | skip h1 h2=>exact ⟨_,h2⟩
  | eff h1 he h2=>rw [he] at heff;cases heff
  | run h1 he x nbs fz h2 h3 h5 h4 h6 =>
   obtain ⟨rfl,rfl⟩:=h3 hht
   exact ⟨x,h2⟩

theorem ev_opTmps {s s2:AState} {l:List Operand} (h:∀ t ∈ opTmps l,s2.env t=s.env t):∀ x ∈ l,s2.ev x=s.ev x:=fun x hx=>by
 cases x with
 | tmp t=>exact h t (List.mem_filterMap.2 ⟨_,hx,rfl⟩)
 | _=>rfl

theorem DStep.sound {rd:Option Nat} {P:Program} {ops:Array Oper} {o:Oper} {ro:RO} {s s' s2:AState} {E:Ent} {a:Act} {w:World} {next:Act->World->Prop} {Q:Exit->Act->World->Prop} (hr:ResO P ops E.N o ro) (hd:drP ro=true) (h:DStep P o ro s s') (hlk:s2.lk=s.lk)
  (hev:∀ x ∈ ro.op.operands,s2.ev x=s.ev x) (hA:ASim E s2 a w) (hQ:∀ x a' w',s'=s.put ro.dst x [] []->ASim E (s2.put ro.dst x [] []) a' w'->next a' w'):o.wpIn (FR rd) 0 P a w next Q:=by
 obtain ⟨G,m,hA'⟩:=hA
 cases h with
 | call f args fn caps r h1 h2 h3 h4 h5 =>
  obtain e0 | ⟨b,op0,hop,hmk⟩:=hr.op
  ·rw [h1] at e0;cases e0
  rw [h1] at hmk
  rcases mark_callP hmk with e | e
  case inr=>rw [e] at hop;exact (no_callP hop).elim
  rw [e] at hop
  obtain ⟨c,ho,hc,rfl⟩:=res_call hop
  have hxs:=hr.xs
  rw [h1] at hxs hev
  have hrf:=hA'.evs f (hxs f (by simp [ROp.operands]))
  rw [hev f (by simp [ROp.operands]),h2] at hrf
  unfold AV.Rep at hrf
  obtain ⟨vs,hv,hcaps⟩:=hrf
  have hargs:AV.RepL G m (c.args.toList.map s.ev) (c.args.toList.map a.eval):=AV.RepL_map (fun x hx=>by
   have hx':x ∈ (ROp.callP f c.args.toList).operands:=by simp only [ROp.operands,List.mem_cons];exact .inr hx
   rw [<- hev x hx'];exact hA'.evs x (hxs x hx'))
  have hrep:AV.RepL G m (c.args.toList.map s.ev ++ caps) (c.args.map a.eval ++ vs).toList:=by
   rw [Array.toList_append,Array.toList_map];exact AV.RepL_append hargs hcaps
  have hS:=hA'.sim
  refine does_wpIn (does_call ho hc hv (pcall (n:=s2.nx) h4 (LkSame.refl _) (hlk ▸ hS) hrep (fun j hj=>by simp at hj))) fun v w' hp=>?_
  refine hQ r _ _ h5 ?_
  rw [AV.flat_ren r h3,if_pos ⟨h3,rfl⟩,<- hlk] at hp
  rw [hr.dst]
  exact hA'.step (dst:=o.dst) hr.lt hp
 | pure hcp h =>
  obtain ⟨hg,hht,heff⟩:=drP_pure hd hcp
  cases h with
  | skip h1 h2 =>
   unfold gFalse at h1
   rw [hg] at h1;exact h1.elim
  | eff h1 he h2=>rw [he] at heff;cases heff
  | run h1 he x nbs fz h2 h3 h5 h4 h6 =>
   obtain ⟨rfl,rfl⟩:=h3 hht
   have hneed:Need ro.op s.ev s.lk s2.lk:=by
    rw [hlk];exact Need.refl _ _ _
   refine does_wpIn (h4 G m w a.eval (fun v=>rfl) s2.lk hneed hA'.sim (fun y hy=>by rw [<- hev y hy];exact hA'.evs y (hr.xs y hy)) (fun j hj=>by simp at hj)) fun v w' hp=>?_
   refine hQ x _ _ h2 ?_
   rw [hr.dst]
   refine hA'.step (dst:=o.dst) hr.lt ?_
   obtain ⟨G',m',p1,p2,p3,p4,p5⟩:=hp
   exact ⟨G',m',by rw [lkN_nil] at p1 |-;exact p1,p2,p3,fun h hh=>p4 h (fun j hj=>by simp at hj),fun j b sz hj=>by simp at hj⟩

theorem maskR_spec:∀ (ros:List RO) (s:AState),(maskR ros s).bs=s.bs/\(maskR ros s).own=s.own/\(maskR ros s).nx=s.nx/\∀ t,((∃ r ∈ ros,r.dst=some t)/\(maskR ros s).env t=.any)\/((∀ r ∈ ros,r.dst ≠ some t)/\(maskR ros s).env t=s.env t)
 | [],s=>⟨rfl,rfl,rfl,fun t=>.inr ⟨fun r h=>(by cases h),rfl⟩⟩
 | r :: ros,s=>by
  obtain ⟨h1,h2,h3,h4⟩:=maskR_spec ros (s.put r.dst .any [] [])
  refine ⟨h1,h2,h3,fun t=>?_⟩
  rcases h4 t with ⟨⟨x,hx,hd⟩,h⟩ | ⟨h,h'⟩
  ·exact .inl ⟨⟨x,by simp [hx],hd⟩,h⟩
  ·by_cases e:r.dst=some t
   ·refine .inl ⟨⟨r,by simp,e⟩,h'.trans ?_⟩
    show setDst s.env r.dst .any t=_
    rw [e];simp [setDst,upd]
   ·refine .inr ⟨fun x hx=>?_,h'.trans ?_⟩
    ·rcases List.mem_cons.1 hx with rfl | hx
     ·exact e
     ·exact h x hx
    ·show setDst s.env r.dst .any t=_
     cases hd:r.dst with
     | none=>rfl
     | some d=>simp only [setDst,upd];rw [if_neg (fun e'=>e (by rw [hd,e']))]

theorem ASim.less {E:Ent} {s s':AState} {a:Act} {w:World} (h:ASim E s a w) (h1:s'.bs=s.bs) (h2:s'.own=s.own) (h3:s'.nx=s.nx) (h4:∀ t,s'.env t=s.env t\/(t < E.N/\s'.env t=.any)):ASim E s' a w:=by
 obtain ⟨G,m,h⟩:=h
 have hlk:s'.lk=s.lk:=by funext x;cases x <;> simp [AState.lk,h1,h2]
 refine ⟨G,m,by rw [hlk];exact h.sim,fun t=>?_,h.size,h.defers,?_,by rw [h3];exact h.fresh,h.frame,h.base,h.own,h.noO,by rw [h3,h2];exact h.nxOk⟩
 ·rcases h4 t with e | ⟨_,e⟩
  ·rw [e];exact h.env t
  ·rw [e];unfold AV.Rep;trivial
 ·rcases h4 E.N with e | ⟨e,_⟩
  ·rw [e];exact h.jok
  ·exact absurd e (Nat.lt_irrefl _)

def SLp (k:Nat) (g:Nat->Nat) (r:Nat->RO) (L:Nat->Prop) (t:Nat):Prop:=∃ p,p < k/\L (g p)/\(r p).dst=some t
noncomputable def SL (st:Nat->AState) (k:Nat) (g:Nat->Nat) (r:Nat->RO) (L:Nat->Prop):AState :=
 {st 0 with env:=fun t=>@ite _ (SLp k g r L t) (Classical.propDecidable _) ((st k).env t) ((st 0).env t) }
theorem SL_pos {st:Nat->AState} {k:Nat} {g:Nat->Nat} {r:Nat->RO} {L:Nat->Prop} {t:Nat} (h:SLp k g r L t):(SL st k g r L).env t=(st k).env t:=by
 show @ite _ _ (Classical.propDecidable _) _ _=_
 exact if_pos h
theorem SL_neg {st:Nat->AState} {k:Nat} {g:Nat->Nat} {r:Nat->RO} {L:Nat->Prop} {t:Nat} (h:¬ SLp k g r L t):(SL st k g r L).env t=(st 0).env t:=by
 show @ite _ _ (Classical.propDecidable _) _ _=_
 exact if_neg h

theorem drawD_core {rd:Option Nat} {P:Program} {N:Nat} {id:Nat} {ops:Array Oper} {g:Nat->Nat} {r:Nat->RO} {st:Nat->AState} {k:Nat} (hm:P.follows .mixedOrders=true) (hD:DpOk ops g r) (hk:k <= ops.size)
  (hst:∀ p,p < ops.size->∃ o,ops[g p]?=some o/\ResO P ops N o (r p)/\(p < k->DStep P o (r p) (st p) (st (p + 1)))) {ros:List RO} (hros:∀ p,p < ops.size->r p ∈ ros) (hros2:∀ x ∈ ros,∃ p,p < ops.size/\x=r p)
  {E:Ent} {Q:Exit->AState->Prop} {s:AState} {a:Act} {w:World} (hN:E.N=N) (hst0:st 0=s)
  (hK:(k=ops.size/\Q .normal (st k))\/(k < ops.size/\∃ v,DPan P (r k) (st k) v/\Q (.panic [{ v:=v,recovered:=false }]) (maskR ros (st k)))) (hA:ASim E s a w):(Code.region id ops true).wpIn (FR rd) 0 P (cpost E Q) a w:=by
 subst hN
 have hput:∀ p,p < k->∃ x,st (p + 1)=(st p).put (r p).dst x [] []:=fun p hp=>by
  obtain ⟨o,_,_,h⟩:=hst p (by omega)
  exact (h hp).put (hD.pure p (by omega))
 have hblk:∀ p,p <= k->(st p).bs=(st 0).bs/\(st p).own=(st 0).own/\(st p).nx=(st 0).nx:=fun p=>by
  induction p with
  | zero=>exact fun _=>⟨rfl,rfl,rfl⟩
  | succ p ih =>
   intro hp
   obtain ⟨h1,h2,h3⟩:=ih (by omega)
   obtain ⟨x,e⟩:=hput p (by omega)
   rw [e]
   exact ⟨h1,h2,h3⟩
 have hlk:∀ p,p <= k->(st p).lk=(st 0).lk:=fun p hp=>by
  obtain ⟨h1,h2,_⟩:=hblk p hp
  funext x;cases x <;> simp [AState.lk,h1,h2]
 have henv:∀ (d p:Nat) (t:Nat),p + d <= k->(∀ q,p <= q->q < p + d->(r q).dst ≠ some t)->(st (p + d)).env t=(st p).env t:=fun d=>by
  induction d with
  | zero=>exact fun p t _ _=>rfl
  | succ d ih =>
   intro p t h1 h2
   obtain ⟨x,e⟩:=hput (p + d) (by omega)
   rw [<- ih p t (by omega) (fun q a b=>h2 q a (by omega))]
   show (st (p + d + 1)).env t=_
   rw [e]
   show setDst (st (p + d)).env (r (p + d)).dst x t=_
   have:=h2 (p + d) (by omega) (by omega)
   cases hd:(r (p + d)).dst with
   | none=>rfl
   | some d'=>simp only [setDst,upd];rw [if_neg (fun e'=>this (by rw [hd,e']))]
 have hfin:∀ p t,p < k->(r p).dst=some t->(st k).env t=(st (p + 1)).env t:=fun p t hp hd=>by
  have:=henv (k - (p + 1)) (p + 1) t (by omega) (fun q a b e=>hD.dst p q (by omega) (by omega) t hd e)
  rwa [show p + 1 + (k - (p + 1))=k by omega] at this
 have hini:∀ p t,p <= k->(∀ q,q < p->(r q).dst ≠ some t)->(st p).env t=(st 0).env t:=fun p t hp h=>by
  have:=henv p 0 t (by omega) (fun q _ b=>h q (by omega))
  rwa [show 0 + p=p by omega] at this
 have hdlt:∀ p,p < ops.size->∀ d,(r p).dst=some d->d < E.N:=fun p hp d hd=>by
  obtain ⟨o,_,h,_⟩:=hst p hp
  exact h.lt d (by rw [<- h.dst];exact hd)
 have hSLlk:∀ L,(SL st k g r L).lk=(st 0).lk:=fun L=>by funext x;cases x <;> rfl
 let I:Array Bool->Act->World->Prop:=fun listed a w=>listed.size=ops.size/\(∀ j,j < ops.size->listed.getD j false=true->∀ e ∈ afterOf ops j,listed.getD e false=true) /\
  (∀ p,p < ops.size->listed.getD (g p) false=true->p < k)/\ASim E (SL st k g r fun i=>listed.getD i false=true) a w
 refine wpIn_region_any hm (wpAnyIn_inv I (fun _ _ _ hI=>hI.1) (fun listed a w i hI hi=>?_) (fun listed a w hI hr=>?_) _ _ _ _ ?_ ?_)
 ·obtain ⟨hsize,hclosed,hbef,hA⟩:=hI
  obtain ⟨hun,oi,hoi,hall⟩:=mem_ready.1 hi
  have hlt:i < ops.size:=(Array.getElem?_eq_some_iff.1 hoi).1
  have haft:∀ e ∈ afterOf ops i,listed.getD e false=true:=fun e he=>by
   unfold afterOf at he
   rw [hoi] at he
   obtain ⟨ed,h1,rfl⟩:=List.mem_map.1 he
   obtain ⟨h1,h2⟩:=List.mem_filter.1 h1
   exact hall ed (by simpa using h1) h2
  have hancL:∀ j,anc ops j i=true->listed.getD j false=true:=fun j hj=>by
   obtain ⟨e,he,rfl | h2⟩:=anc_step hD.lt hlt hj
   ·exact haft _ he
   ·exact anc_listed hD.lt (L:=fun k=>listed.getD k false=true) hclosed e j (Nat.lt_trans (hD.lt i hlt e he) hlt) h2 (haft e he)
  obtain ⟨p,hp,rfl⟩:=hD.sur i hlt
  have hpk:p <= k:=by
   rcases Nat.lt_or_ge k p with h | h
   ·exfalso
    rcases hK with ⟨e,_⟩ | ⟨hks,v,hpan,_⟩
    ·omega
    ·obtain ⟨f,args,fn,caps,e,_⟩:=hpan
     exact absurd (hbef k hks (hancL _ (hD.call k p h hp (by rw [e];rfl)))) (Nat.lt_irrefl _)
   ·exact h
  obtain ⟨o,ho,hres,hstep⟩:=hst p hp
  rw [hoi] at ho;cases ho
  have hg:=hD.pure p hp
  have hgn:(r p).guard=none:=by
   unfold drP at hg
   rw [Bool.and_eq_true,Option.isNone_iff_eq_none] at hg
   exact hg.1
  have hev:∀ x ∈ (r p).op.operands,(SL st k g r fun i=>listed.getD i false=true).ev x=(st p).ev x:=by
   refine ev_opTmps fun t ht=>?_
   by_cases h:SLp k g r (fun i=>listed.getD i false=true) t
   ·rw [SL_pos h]
    obtain ⟨q,hq,hL,hd⟩:=h
    have ha:=hD.use q p (by omega) hp t hd ht
    have hqp:q < p:=by
     rcases Nat.lt_or_ge q p with h | h
     ·exact h
     ·rcases Nat.lt_or_ge p q with h' | h'
      ·exact absurd ha (hD.ord p q h' (by omega))
      ·have:q=p:=by omega
       subst this
       exact absurd (anc_lt hD.lt _ _ (hD.bd q hp) ha) (Nat.lt_irrefl _)
    rw [hfin q t hq hd]
    have:=henv (p - (q + 1)) (q + 1) t (by omega) (fun x a b e=>hD.dst q x (by omega) (by omega) t hd e)
    rw [show q + 1 + (p - (q + 1))=p by omega] at this
    exact this.symm
   ·rw [SL_neg h]
    exact (hini p t hpk fun q hq hd=>h ⟨q,by omega,hancL _ (hD.use q p (by omega) hp t hd ht),hd⟩).symm
  unfold wpOpIn
  rw [hoi]
  simp only
  rw [if_pos (by simp [Region.wanted,hres.guardN hgn])]
  rcases Nat.lt_or_ge p k with hlt2 | hge
  ·refine (hstep hlt2).sound hres hg (by rw [hSLlk,hlk p hpk]) hev hA fun x a' w' he hA'=>?_
   refine ⟨by simp [hsize],fun j hj hL e he=>?_,fun q hq hL=>?_,?_⟩
   ·rw [getD_set_i (by omega)] at hL |-
    rcases hL with rfl | hL
    ·exact .inr (haft e he)
    ·exact .inr (hclosed j hj hL e he)
   ·rw [getD_set_i (by omega)] at hL
    rcases hL with hL | hL
    ·have:q=p:=by
      rcases Nat.lt_trichotomy q p with h | h | h
      ·exact absurd hL (hD.inj q p h hp)
      ·exact h
      ·exact absurd hL.symm (hD.inj p q h hq)
     omega
    ·exact hbef q hq hL
   ·refine hA'.less rfl rfl rfl fun t=>.inl ?_
    show _=setDst (SL st k g r fun i=>listed.getD i false=true).env (r p).dst x t
    by_cases hd:(r p).dst=some t
    ·rw [SL_pos ⟨p,hlt2,(getD_set_i (by omega)).2 (.inl rfl),hd⟩,hfin p t hlt2 hd,he]
     show setDst (st p).env (r p).dst x t=_
     rw [hd];simp [setDst,upd]
    ·have hset:∀ env:Nat->AV,setDst env (r p).dst x t=env t:=fun env=>by
      cases hdd:(r p).dst with
      | none=>rfl
      | some d'=>simp only [setDst,upd];rw [if_neg (fun e'=>hd (by rw [hdd,e']))]
     rw [hset]
     by_cases hs:SLp k g r (fun i=>listed.getD i false=true) t
     ·rw [SL_pos hs]
      obtain ⟨q,h1,h2,h3⟩:=hs
      exact SL_pos ⟨q,h1,(getD_set_i (by omega)).2 (.inr h2),h3⟩
     ·rw [SL_neg hs]
      refine SL_neg fun ⟨q,h1,h2,h3⟩=>hs ⟨q,h1,?_,h3⟩
      rcases (getD_set_i (by omega)).1 h2 with h2 | h2
      ·exfalso
       have:q=p:=by
        rcases Nat.lt_trichotomy q p with h | h | h
        ·exact absurd h2 (hD.inj q p h hp)
        ·exact h
        ·exact absurd h2.symm (hD.inj p q h (by omega))
       subst this
       exact hd h3
      ·exact h2
  ·have hpe:p=k:=by omega
   subst hpe
   rcases hK with ⟨e,_⟩ | ⟨hks,v,⟨f,args,fn,caps,h1,h2,h3⟩,hQ⟩
   ·omega
   obtain e0 | ⟨b,op0,hop,hmk⟩:=hres.op
   ·rw [h1] at e0;cases e0
   rw [h1] at hmk
   rcases mark_callP hmk with e | e
   case inr=>rw [e] at hop;exact (no_callP hop).elim
   rw [e] at hop
   obtain ⟨c,ho,hc,rfl⟩:=res_call hop
   have hxs:=hres.xs
   rw [h1] at hxs hev
   obtain ⟨G,m,hA'⟩:=hA
   have hrf:=hA'.evs f (hxs f (by simp [ROp.operands]))
   rw [hev f (by simp [ROp.operands]),h2] at hrf
   unfold AV.Rep at hrf
   obtain ⟨vs,hv,hcaps⟩:=hrf
   have hargs:AV.RepL G m (c.args.toList.map (st p).ev) (c.args.toList.map a.eval):=AV.RepL_map (fun x hx=>by
    have hx':x ∈ (ROp.callP f c.args.toList).operands:=by simp only [ROp.operands,List.mem_cons];exact .inr hx
    rw [<- hev x hx'];exact hA'.evs x (hxs x hx'))
   have hrep:AV.RepL G m (c.args.toList.map (st p).ev ++ caps) (c.args.map a.eval ++ vs).toList:=by
    rw [Array.toList_append,Array.toList_map];exact AV.RepL_append hargs hcaps
   have hS:=hA'.sim
   rw [hSLlk,<- hlk p (Nat.le_refl _)] at hS
   refine callP_pan ho hc hv (ppan (n:=(st 0).nx) h3 (LkSame.refl _) hS hrep) fun v' w' hp=>?_
   refine ⟨_,hQ,?_⟩
   have hA2:=hA'.step (dst:=none) (fun d hd=>by cases hd) (by rw [hSLlk,<- hlk p (Nat.le_refl _)];exact hp)
   obtain ⟨m1,m2,m3,m4⟩:=maskR_spec ros (st p)
   obtain ⟨b1,b2,b3⟩:=hblk p (Nat.le_refl _)
   refine hA2.less (m1.trans b1) (m2.trans b2) (m3.trans b3) fun t=>?_
   rcases m4 t with ⟨⟨x,hx,hd⟩,h⟩ | ⟨hn,h⟩
   ·obtain ⟨q,hq,rfl⟩:=hros2 x hx
    exact .inr ⟨hdlt q hq t hd,h⟩
   ·refine .inl (h.trans ?_)
    rw [hini p t (Nat.le_refl _) (fun q hq hd=>hn _ (hros q (by omega)) hd)]
    exact (SL_neg fun ⟨q,h1,_,h3⟩=>hn _ (hros q (by omega)) h3).symm
 ·obtain ⟨hsize,hclosed,hbef,hA⟩:=hI
  have hall:∀ j,j < ops.size->listed.getD j false=true:=by
   intro j
   induction j using Nat.strongRecOn with
   | _ j ih =>
    intro hj
    cases hl:listed.getD j false with
    | true=>rfl
    | false =>
     exfalso
     have hjs:j < listed.size:=by rw [hsize];exact hj
     have:j ∈ Region.ready .any ops listed:=mem_ready.2 ⟨by simp [hjs] at hl |-;exact hl,ops[j],by simp [hj],fun e he hb=>by
      have hin:e.on ∈ afterOf ops j:=by
       unfold afterOf
       rw [show ops[j]?=some ops[j] by simp [hj]]
       exact List.mem_map.2 ⟨e,List.mem_filter.2 ⟨by simpa using he,hb⟩,rfl⟩
      have hlt:=hD.lt j hj _ hin
      exact ih e.on hlt (by omega)⟩
     rw [hr] at this;cases this
  rcases hK with ⟨e,hQ⟩ | ⟨hks,_⟩
  ·refine ⟨_,hQ,?_⟩
   obtain ⟨b1,b2,b3⟩:=hblk k (Nat.le_refl _)
   refine hA.less b1 b2 b3 fun t=>.inl ?_
   by_cases h:SLp k g r (fun i=>listed.getD i false=true) t
   ·rw [SL_pos h]
   ·rw [SL_neg h]
    exact hini k t (Nat.le_refl _) fun q hq hd=>h ⟨q,hq,hall _ (hD.bd q (by omega)),hd⟩
  ·exact absurd (hbef k hks (hall _ (hD.bd k hks))) (Nat.lt_irrefl _)
 ·refine Nat.le_trans List.countP_le_length (by simp)
 ·have hf:∀ j,(Array.replicate ops.size false).getD j false=false:=fun j=>by
   rcases Nat.lt_or_ge j ops.size with h | h
   ·simp [h]
   ·simp [h]
  refine ⟨by simp,fun j _ h=>(by rw [hf] at h;cases h),fun p _ h=>(by rw [hf] at h;cases h),?_⟩
  obtain ⟨G,m,hA⟩:=hA
  have hd:ASim E s a w.drew:=⟨G,m,hA.sim.drew,hA.env,hA.size,hA.defers.keep fun _ _ h _=>h,E.Jkeep _ _ _ hA.jok fun _ _ h _=>h,hA.fresh,⟨hA.frame.os,hA.frame.tape.drew,hA.frame.output,hA.frame.size,hA.frame.heap,hA.frame.gh,hA.frame.le⟩,hA.base,hA.own,hA.noO,hA.nxOk⟩
  rw [<- hst0] at hd
  refine hd.less rfl rfl rfl fun t=>.inl ?_
  exact SL_neg fun ⟨p,_,h,_⟩=>absurd ((hf (g p)).symm.trans h) (by decide)

theorem CodeOk.drawD {P:Program} {N id:Nat} {ops:Array Oper} {σ:List Nat} {ros:List RO} (hm:P.follows .mixedOrders=true) (h:ResL P ops N (σ.map fun i=>ops.getD i default) ros) (hd:dpOk ops σ ros=true):CodeOk P N (.region id ops true) (.regDP ros):=fun rd Y E Q s a w hY hN hc hA=>by
 have hd':=hd
 unfold dpOk at hd'
 simp only [Bool.and_eq_true,List.all_eq_true,List.mem_range,decide_eq_true_eq] at hd'
 obtain ⟨⟨⟨⟨⟨_,hsl⟩,hsb⟩,_⟩,hdr⟩,_⟩:=hd'
 obtain ⟨st,k,hst0,hlen,hk,hsteps,hK⟩:=traceD h hdr hc
 rw [List.length_map,hsl] at hlen hk hK
 have hget:∀ p,p < ops.size->ros[p]?=some (ros.getD p default):=fun p hp=>by
  rw [List.getD_eq_getElem?_getD,List.getElem?_eq_getElem (by omega)];rfl
 have hg:∀ p,p < ops.size->σ[p]?=some (σ.getD p 0):=fun p hp=>by
  rw [List.getD_eq_getElem?_getD,List.getElem?_eq_getElem (by omega)];rfl
 refine drawD_core (g:=fun p=>σ.getD p 0) (r:=fun p=>ros.getD p default) (ros:=ros) hm (dpOk_spec hlen hd) hk (fun p hp=>?_) (fun p hp=>List.mem_of_getElem? (hget p hp)) (fun x hx=>?_) hN hst0 ?_ hA
 ·have hb:σ.getD p 0 < ops.size:=hsb _ (List.mem_of_getElem? (hg p hp))
  obtain ⟨g1,g2⟩:=hsteps p ops[σ.getD p 0] _ (by rw [List.getElem?_map,hg p hp];simp only [Option.map_some,Array.getD,hb,dif_pos];rfl) (hget p hp)
  exact ⟨_,by simp [hb],g1,g2⟩
 ·obtain ⟨p,hp,e⟩:=List.mem_iff_getElem.1 hx
  exact ⟨p,by omega,by show x=ros.getD p default;rw [List.getD_eq_getElem?_getD,List.getElem?_eq_getElem hp];exact e.symm⟩
 ·rcases hK with ⟨e,hQ⟩ | ⟨r,v,e,hp,hQ⟩
  ·exact .inl ⟨e,hQ⟩
  ·have hks:k < ops.size:=by
    have:=(List.getElem?_eq_some_iff.1 e).1
    omega
   refine .inr ⟨hks,v,?_,hQ⟩
   rw [hget k hks] at e
   cases e
   exact hp

def yFlag:Nat:=1000000

def resolveList (P:Program) (fl:List Nat) (N:Nat) (ops:Array Oper):List Oper->Option (List RO)
 | []=>some []
 | o :: os=>match resolveRO P fl N ops o,resolveList P fl N ops os with
  | some r,some rs=>some (r :: rs)
  | _,_=>none

def dpOrd (ops:Array Oper) (ros:List RO):List Nat :=
 let late:=fun j=>isP (ros.getD j default).op || (List.range j).any fun i=>isP (ros.getD i default).op && anc ops i j
 ((List.range ops.size).filter fun j=>!late j) ++ (List.range ops.size).filter late
theorem resolveList_spec {P:Program} {fl:List Nat} {N:Nat} {ops:Array Oper}:∀ {os:List Oper} {ros:List RO},resolveList P fl N ops os=some ros->ResL P ops N os ros
 | [],ros,h=>by unfold resolveList at h;cases h;trivial
 | o :: os,ros,h=>by
  unfold resolveList at h
  split at h
  ·rename_i r rs h1 h2
   cases h
   exact ⟨resolveRO_spec h1,resolveList_spec h2⟩
  ·cases h

theorem CodeOk.sem {P:Program} {N:Nat} {c:Code}:CodeOk P N c (.sem N c):=fun r Y E Q s a w hY hN h hA=>by
 obtain rfl:=(hY.1 h.1).1
 exact h.2 E a w hY hN hA

def wkFlag:Nat:=2000000
def wkIf:Bool->RCode->RCode
 | true,rc=>.wkr rc
 | false,rc=>rc
theorem CodeOk.wkIf {P:Program} {N:Nat} {c:Code} {rc:RCode} (h:CodeOk P N c rc):∀ b,CodeOk P N c (wkIf b rc)
 | true=>fun r Y E Q s a w hY hN ⟨s0,hw,hc⟩ hA=>h r Y E Q s0 a w hY hN hc (hw _ _ _ hA)
 | false=>h
def isN:ROp->Bool
 | .nxt _=>true
 | _=>false
def resolveM (P:Program) (fl:List Nat) (N:Nat) (ops:Array Oper):Option RCode:=match last5 ops.toList with
 | some (l1,o1,o2,o3,o4,o5)=>match maOf P N o1 o2 o3 o4 o5,resolveList P fl N ops l1 with
  | some x,some ros=>some (.regM ros x)
  | _,_=>none
 | none=>none
theorem resolveM_ok {P:Program} {fl:List Nat} {N id:Nat} {ops:Array Oper} {rc:RCode} (h:resolveM P fl N ops=some rc):CodeOk P N (.region id ops false) rc:=by
 unfold resolveM at h
 split at h
 ·rename_i l1 o1 o2 o3 o4 o5 hl
  split at h
  ·rename_i x ros hx hr
   cases h
   exact .regionM (last5_ok hl) (resolveList_spec hr) (maOf_ok hx)
  ·cases h
 ·cases h
def resolveCode (P:Program) (fl:List Nat) (N:Nat):Code->Option RCode
 | .skip=>some .skip
 | .region id ops draw=>if (!draw && hasEst ops)=true then resolveM P fl N ops else Option.map (wkIf (fl.contains (wkFlag + id))) <| match resolveList P fl N ops ops.toList with
  | some ros=>if draw=true then (if drawOk ops ros=true then (if ros.any (fun r=>isP r.op)=true then (match resolveList P fl N ops ((dpOrd ops ros).map fun i=>ops.getD i default) with | some rs=>if dpOk ops (dpOrd ops ros) rs=true then some (.regDP rs) else none | none=>none) else if hasS ros=true then some (.regS (lastS ops ros) ros) else some (.reg true ros)) else none) else (if ros.any (fun r=>isN r.op)=true then some (.regN ros) else if ros.any (fun r=>isP r.op)=true then some (.regP ros) else if fl.contains yFlag then some (.regY ros) else some (.reg false ros))
  | none=>none
 | .seq a b=>match resolveCode P fl N a,resolveCode P fl N b with
  | some x,some y=>some (.seq x (wkIf true y))
  | _,_=>none
 | .cond c a b=>match resolveCode P fl N a,resolveCode P fl N b with
  | some x,some y=>if c.inN N=true then some (.cond c x y) else none
  | _,_=>none
 | .block id b=>(resolveCode P fl N b).map (.block id)
 | .loop b=>(resolveCode P fl N b).map .loop
 | .exit id=>some (.exit id)
 | .scope b=>(resolveCode P fl N b).map .scope
 | .ret=>some .ret
 | .rangeFunc g ps as bd=>some (.sem N (.rangeFunc g ps as bd))
 | .label _=>some .skip
 | _=>none

theorem resolveCode_ok {P:Program} {fl:List Nat} {N:Nat} (hm:P.follows .mixedOrders=true):∀ {c:Code} {rc:RCode},resolveCode P fl N c=some rc->CodeOk P N c rc
 | .skip,rc,h=>by unfold resolveCode at h;cases h;exact .skip
 | .label l,rc,h=>by unfold resolveCode at h;cases h;exact .label
 | .region id ops draw,rc,h=>by
  unfold resolveCode at h
  split at h
  ·rename_i hc
   rw [Bool.and_eq_true] at hc
   cases draw with
   | true=>cases hc.1
   | false=>exact resolveM_ok h
  rw [Option.map_eq_some_iff] at h
  obtain ⟨rc0,h,e⟩:=h
  subst e
  refine CodeOk.wkIf ?_ _
  split at h
  ·rename_i ros h1
   have h2:=resolveList_spec h1
   cases draw with
   | true =>
    simp only [if_true] at h
    split at h
    ·rename_i hd
     split at h
     ·split at h
      ·rename_i rs h3
       rw [Option.ite_none_right_eq_some] at h
       obtain ⟨h4,h⟩:=h
       cases h
       exact .drawD hm (resolveList_spec h3) h4
      ·cases h
     ·split at h
      ·cases h;exact .drawS hm h2 hd
      ·rename_i hs;cases h;exact .draw hm h2 hd (by simpa using hs)
    ·cases h
   | false =>
    simp only [Bool.false_eq_true,if_false] at h
    split at h
    ·cases h;exact .regionN h2
    split at h
    ·cases h;exact .regionP h2
    ·split at h
     ·cases h;exact .regionY h2
     ·cases h;exact .region h2
  ·cases h
 | .seq a b,rc,h=>by
  unfold resolveCode at h
  split at h
  ·rename_i x y h1 h2;cases h;exact .seq (resolveCode_ok hm h1) (CodeOk.wkIf (resolveCode_ok hm h2) true)
  ·cases h
 | .cond c a b,rc,h=>by
  unfold resolveCode at h
  split at h
  ·rename_i x y h1 h2
   rw [Option.ite_none_right_eq_some] at h
   obtain ⟨hx,h⟩:=h
   cases h;exact .cond hx (resolveCode_ok hm h1) (resolveCode_ok hm h2)
  ·cases h
 | .block id b,rc,h=>by
  unfold resolveCode at h
  rw [Option.map_eq_some_iff] at h
  obtain ⟨x,h1,rfl⟩:=h
  exact .block (resolveCode_ok hm h1)
 | .loop b,rc,h=>by
  unfold resolveCode at h
  rw [Option.map_eq_some_iff] at h
  obtain ⟨x,h1,rfl⟩:=h
  exact .loop (resolveCode_ok hm h1)
 | .exit id,rc,h=>by unfold resolveCode at h;cases h;exact .exit
 | .scope b,rc,h=>by
  unfold resolveCode at h
  rw [Option.map_eq_some_iff] at h
  obtain ⟨x,h1,rfl⟩:=h
  exact .scope (resolveCode_ok hm h1)
 | .ret,rc,h=>by unfold resolveCode at h;cases h;exact .ret
 | .rangeFunc ..,rc,h=>by unfold resolveCode at h;cases h;exact .sem
 | .goto _,rc,h=>by unfold resolveCode at h;cases h
 | .refuse _,rc,h=>by unfold resolveCode at h;cases h

end Go.Eng

