/- Texts of this claim. -/
import Derived.Test.YtkfcmelpadbdcaaGreatDoorE15k
import Derived.Orders
set_option linter.all false
set_option linter.unusedSimpArgs false
set_option linter.unusedVariables false
namespace Go.Eng
open Go.RowKit

def afterOf (ops:Array Oper) (j:Nat):List Nat :=
 match ops[j]? with
 | some o=>(o.after.toList.filter (Region.binds .any)).map (·.on)
 | none=>[]
def maskOf (l:List Nat):List Nat->Nat
 | []=>0
 | i :: is=>(2 ^ i ||| l.getD i 0) ||| maskOf l is
def ancM (ops:Array Oper):Nat->List Nat
 | 0=>[]
 | n + 1=>let l:=ancM ops n;l ++ [maskOf l (afterOf ops n)]

theorem ancM_length (ops:Array Oper):∀ n,(ancM ops n).length=n
 | 0=>rfl
 | n + 1=>by simp [ancM,ancM_length ops n]

theorem ancM_get (ops:Array Oper):∀ n j,j < n->(ancM ops n).getD j 0=maskOf (ancM ops j) (afterOf ops j)
 | 0,j,h=>by omega
 | n + 1,j,h=>by
  simp only [ancM]
  by_cases e:j < n
  ·rw [List.getD_eq_getElem?_getD,List.getElem?_append_left (by rw [ancM_length];exact e),<- List.getD_eq_getElem?_getD]
   exact ancM_get ops n j e
  ·have:j=n:=by omega
   subst this
   rw [List.getD_eq_getElem?_getD,List.getElem?_append_right (by rw [ancM_length];omega),ancM_length]
   simp

theorem maskOf_bit (l:List Nat):∀ (es:List Nat) (i:Nat),(maskOf l es).testBit i=true->∃ e ∈ es,i=e\/(l.getD e 0).testBit i=true
 | [],i,h=>by simp [maskOf] at h
 | e :: es,i,h=>by
  simp only [maskOf,Nat.testBit_or,Bool.or_eq_true] at h
  rcases h with (h | h) | h
  ·exact ⟨e,by simp,.inl (by rw [Nat.testBit_two_pow] at h;simpa using (of_decide_eq_true h).symm)⟩
  ·exact ⟨e,by simp,.inr h⟩
  ·obtain ⟨e',h1,h2⟩:=maskOf_bit l es i h
   exact ⟨e',by simp [h1],h2⟩

def anc (ops:Array Oper) (i j:Nat):Bool:=((ancM ops ops.size).getD j 0).testBit i

theorem anc_step {ops:Array Oper} (hlt:∀ j,j < ops.size->∀ e ∈ afterOf ops j,e < j) {i j:Nat} (hj:j < ops.size) (h:anc ops i j=true):∃ e ∈ afterOf ops j,i=e\/anc ops i e=true:=by
 unfold anc at h
 rw [ancM_get ops _ j hj] at h
 obtain ⟨e,he,h2⟩:=maskOf_bit _ _ _ h
 refine ⟨e,he,h2.imp id fun h2=>?_⟩
 have:=hlt j hj e he
 unfold anc
 rw [ancM_get ops _ e (by omega)]
 rwa [ancM_get ops _ e this] at h2

theorem anc_lt {ops:Array Oper} (hlt:∀ j,j < ops.size->∀ e ∈ afterOf ops j,e < j):∀ (j i:Nat),j < ops.size->anc ops i j=true->i < j:=by
 intro j
 induction j using Nat.strongRecOn with
 | _ j ih =>
  intro i hj h
  obtain ⟨e,he,rfl | h2⟩:=anc_step hlt hj h
  ·exact hlt j hj _ he
  ·have:=hlt j hj e he
   exact Nat.lt_trans (ih e this i (by omega) h2) this

theorem anc_listed {ops:Array Oper} (hlt:∀ j,j < ops.size->∀ e ∈ afterOf ops j,e < j) {L:Nat->Prop} (hc:∀ j,j < ops.size->L j->∀ e ∈ afterOf ops j,L e):∀ (j i:Nat),j < ops.size->anc ops i j=true->L j->L i:=by
 intro j
 induction j using Nat.strongRecOn with
 | _ j ih =>
  intro i hj h hL
  obtain ⟨e,he,rfl | h2⟩:=anc_step hlt hj h
  ·exact hc j hj hL _ he
  ·have:=hlt j hj e he
   exact ih e this i (by omega) h2 (hc j hj hL e he)

def opTmps (l:List Operand):List Nat:=l.filterMap fun | .tmp t=>some t | _=>none
def RO.names (r:RO):List Nat:=r.dst.toList ++ opTmps r.op.operands ++ (match r.guard with | some (t,_)=>[t] | none=>[])
def pairOk (ops:Array Oper) (b:Bool) (ri rj:RO) (i j:Nat):Bool :=
  anc ops i j ||
  (!((match ri.dst with | some d=>rj.names.contains d | none=>false) || (match rj.dst with | some d=>ri.names.contains d | none=>false)) &&
   !((!b && ri.op.eff && rj.op.ht) || (rj.op.eff && ri.op.ht)))

def isNew:ROp->Bool
 | .newR _=>true
 | _=>false
def looseP (ops:Array Oper) (ros:List RO) (j:Nat):Bool :=
 isNew (ros.getD j default).op && (List.range j).any fun i=>(ros.getD i default).op.eff && !anc ops i j
def looseIx (ops:Array Oper) (ros:List RO):Nat:=((List.range ops.size).find? (looseP ops ros)).getD ops.size
def looseOk (ops:Array Oper) (ros:List RO) (e:Nat):Bool :=
 isNew (ros.getD e default).op && (ros.getD e default).guard.isNone &&
 (match (ros.getD e default).dst with
 | some t=>(List.range ops.size).all fun k=>k == e || !(ros.getD k default).names.contains t || (List.range e).all fun i=>!(ros.getD i default).op.eff || anc ops i k
 | none=>false) &&
 (List.range ops.size).all fun k=>decide (k <= e) || !(ros.getD k default).op.ht || (ros.getD k default).op.eff || (List.range k).any fun i=>decide (e < i) && (ros.getD i default).op.eff
def drawOk (ops:Array Oper) (ros:List RO):Bool :=
 (List.range ops.size).all (fun j=>(afterOf ops j).all fun e=>decide (e < j)) &&
 (let e:=looseIx ops ros
 (decide (ops.size <= e) || looseOk ops ros e) &&
 (List.range ops.size).all fun j=>(List.range j).all fun i=>pairOk ops (decide (j=e)) (ros.getD i default) (ros.getD j default) i j)

structure DrawOk (ops:Array Oper) (ro:Nat->RO) (e:Nat):Prop where
 lt:∀ j,j < ops.size->∀ e ∈ afterOf ops j,e < j
 wr:∀ i j,i < j->j < ops.size->∀ d,(ro i).dst=some d->d ∈ (ro j).names->anc ops i j=true
 rw:∀ i j,i < j->j < ops.size->∀ d,(ro j).dst=some d->d ∈ (ro i).names->anc ops i j=true
 eh:∀ i j,i < j->j < ops.size->j ≠ e->(ro i).op.eff=true->(ro j).op.ht=true->anc ops i j=true
 he:∀ i j,i < j->j < ops.size->(ro i).op.ht=true->(ro j).op.eff=true->anc ops i j=true
 nw:e < ops.size->∃ zs,(ro e).op=.newR zs
 gd:e < ops.size->(ro e).guard=none
 us:e < ops.size->∃ t,(ro e).dst=some t/\∀ k,k < ops.size->k ≠ e->t ∈ (ro k).names->∀ i,i < e->(ro i).op.eff=true->anc ops i k=true
 bt:e < ops.size->∀ k,e < k->k < ops.size->(ro k).op.ht=true->(ro k).op.eff=false->∃ i,e < i/\i < k/\(ro i).op.eff=true

theorem isNew_spec {op:ROp} (h:isNew op=true):∃ zs,op=.newR zs:=by
 cases op <;> first | exact ⟨_,rfl⟩ | cases h
theorem looseOk_spec {ops:Array Oper} {ros:List RO} {e:Nat} (h:looseOk ops ros e=true) :
  (∃ zs,(ros.getD e default).op=.newR zs)/\(ros.getD e default).guard=none /\
  (∃ t,(ros.getD e default).dst=some t/\∀ k,k < ops.size->k ≠ e->t ∈ (ros.getD k default).names->∀ i,i < e->(ros.getD i default).op.eff=true->anc ops i k=true) /\
  ∀ k,e < k->k < ops.size->(ros.getD k default).op.ht=true->(ros.getD k default).op.eff=false->∃ i,e < i/\i < k/\(ros.getD i default).op.eff=true:=by
 unfold looseOk at h
 simp only [Bool.and_eq_true] at h
 obtain ⟨⟨⟨h1,h2⟩,h3⟩,h4⟩:=h
 refine ⟨isNew_spec h1,by simpa using h2,?_,fun k hk hn hht hne=>?_⟩
 ·split at h3
  ·rename_i t ht
   refine ⟨t,ht,fun k hk hke htk i hi he=>?_⟩
   have:=List.all_eq_true.1 h3 k (List.mem_range.2 hk)
   simp only [Bool.or_eq_true,Bool.not_eq_true',beq_iff_eq] at this
   rcases this with (g | g) | g
   ·exact absurd g hke
   ·rw [List.contains_eq_mem,decide_eq_false_iff_not] at g;exact absurd htk g
   ·have:=List.all_eq_true.1 g i (List.mem_range.2 hi)
    simp only [Bool.or_eq_true,Bool.not_eq_true'] at this
    rw [he] at this
    exact this.resolve_left (by simp)
  ·cases h3
 ·have:=List.all_eq_true.1 h4 k (List.mem_range.2 hn)
  simp only [Bool.or_eq_true,Bool.not_eq_true',decide_eq_true_eq] at this
  rcases this with ((g | g) | g) | g
  ·omega
  ·rw [hht] at g;cases g
  ·rw [hne] at g;cases g
  ·obtain ⟨i,hi,g⟩:=List.any_eq_true.1 g
   simp only [Bool.and_eq_true,decide_eq_true_eq] at g
   exact ⟨i,g.1,List.mem_range.1 hi,g.2⟩

theorem drawOk_spec {ops:Array Oper} {ros:List RO} (h:drawOk ops ros=true):DrawOk ops (fun i=>ros.getD i default) (looseIx ops ros):=by
 unfold drawOk at h
 generalize looseIx ops ros=e at h |-
 simp only [Bool.and_eq_true] at h
 obtain ⟨h1,h0,h2⟩:=h
 simp only [List.all_eq_true,List.mem_range,decide_eq_true_eq] at h1 h2
 have hlo:e < ops.size->looseOk ops ros e=true:=fun hl=>by
  simp only [Bool.or_eq_true,decide_eq_true_eq] at h0
  exact h0.elim (fun g=>by omega) id
 have hp:∀ i j,i < j->j < ops.size->pairOk ops (decide (j=e)) (ros.getD i default) (ros.getD j default) i j=true:=fun i j hi hj=>h2 j hj i hi
 have key:∀ (b:Bool) (ri rj:RO) (i j:Nat),pairOk ops b ri rj i j=true ->
   (∀ d,ri.dst=some d->d ∈ rj.names->anc ops i j=true)/\(∀ d,rj.dst=some d->d ∈ ri.names->anc ops i j=true) /\
   (b=false->ri.op.eff=true->rj.op.ht=true->anc ops i j=true)/\(ri.op.ht=true->rj.op.eff=true->anc ops i j=true):=fun b ri rj i j h=>by
  unfold pairOk at h
  refine ⟨fun d hd hm=>?_,fun d hd hm=>?_,fun hb he hh=>?_,fun hh he=>?_⟩
  ·rw [hd] at h;simpa [hm] using h
  ·rw [hd] at h;simpa [hm] using h
  ·simpa [hb,he,hh] using h
  ·simpa [he,hh] using h
 refine ⟨h1,fun i j hi hj=>(key _ _ _ i j (hp i j hi hj)).1,fun i j hi hj=>(key _ _ _ i j (hp i j hi hj)).2.1,fun i j hi hj hne=>(key _ _ _ i j (hp i j hi hj)).2.2.1 (by simpa using hne),fun i j hi hj=>(key _ _ _ i j (hp i j hi hj)).2.2.2,fun hl=>(looseOk_spec (hlo hl)).1,fun hl=>(looseOk_spec (hlo hl)).2.1,fun hl=>(looseOk_spec (hlo hl)).2.2.1,fun hl=>(looseOk_spec (hlo hl)).2.2.2⟩

def gTrue (r:RO) (env:Nat->AV):Prop:=match r.guard with
 | none=>True
 | some (t,want)=>env t=.D (.B want)
def gFalse (r:RO) (env:Nat->AV):Prop:=match r.guard with
 | none=>False
 | some (t,want)=>(∃ c,env t=.D (.B c)/\c ≠ want)\/∃ v,env t=.D (.C (.tuple v))

theorem res_newR {P:Program} {o:Oper} {zs:List AV} (h:resolveOp P o=some (.newR zs)):∃ T i z,o.op=.alloc T/\P.info? T=some i/\i.zero=some z/\zs=z.cells.toList.map constAV:=by
 cases ho:o.op
 case alloc T =>
  simp only [resolveOp,ho,Option.bind_eq_some_iff,Option.map_eq_some_iff] at h
  obtain ⟨i,hi,z,hz,h⟩:=h
  split at h
  ·cases h;exact ⟨T,i,z,rfl,hi,hz,rfl⟩
  ·split at h <;> cases h
 case field=>exfalso;simp only [resolveOp,ho,Option.bind_eq_some_iff] at h;obtain ⟨f,_,h⟩:=h;split at h <;> cases h
 all_goals (exfalso;simp only [resolveOp,ho] at h;(repeat' split at h) <;> simp_all [Option.bind_eq_some_iff,Option.map_eq_some_iff,Option.ite_none_right_eq_some])
theorem mark_newR {b:Mk} {op0:ROp} {zs:List AV} (h:ROp.newR zs=markE b op0):op0=.newR zs:=by
 cases b <;> cases op0 <;> first | (cases h;done) | (cases h;rfl)
def NewAt (G:Gh) (es:List (List DV)) (w:World) (v:Value) (w':World):Prop :=
 v=.pointer (some ⟨w.heap.size,0,none⟩)/\∃ vs T,w'=w.alloc (.cells vs T)/\∀ m',BlkRep G m' (.row true 1 es) w.heap.size vs.size w'
theorem new_does {P:Program} {o:Oper} {zs:List AV} {ds:List DV} (hr:resolveOp P o=some (.newR zs)) (hd:AV.data zs=some ds) (G:Gh) (m:HM) (lk:Look) (w:World) (ρ:Operand->Value) (hS:Sim G m lk w):Does P o ρ w (NewAt G (ds.map fun d=>[d]) w):=by
 obtain ⟨T,i,z,ho,hi,hz,rfl⟩:=res_newR hr
 refine Does.val (v:=.pointer (some ⟨w.heap.size,0,none⟩)) (w':=w.alloc (.cells z.cells T)) ?_ ⟨rfl,_,_,rfl,fun m'=>row_rep hS T (AV.RepL_const _) hd m'⟩
 simp [execOp,ho,Instr.alloc,run_zero hi hz,newVar,newRow]

inductive RStep (P:Program) (o:Oper) (r:RO) (s s':AState):Prop
 | skip (h1:gFalse r s.env) (h2:s'=s.put r.dst .un [] [])
 | run (h1:gTrue r s.env) (he:r.op.eff=false) (x:AV) (nbs:List Blk) (fz:List Hd) (h2:s'=s.put r.dst x nbs fz) (h3:r.op.ht=false->nbs=[]/\fz=[]) (h5:∀ h ∈ fz,(s.lk h).isSome=true)
   (h4:∀ (G:Gh) (m:HM) (w:World) (ρ:Operand->Value) (_:∀ v,ρ (.const v)=v) (lk2:Look),Need r.op s.ev s.lk lk2->Sim G m lk2 w->(∀ x ∈ r.op.operands,AV.Rep G m (s.ev x) (ρ x)) ->
    (∀ j,j < nbs.length->m (.O (s.nx + j))=none)->Does P o ρ w (PPost G m lk2 s.nx x nbs fz w))
   (h6:isNew r.op=true->x=.eptr (.O s.nx) 1 0 0/\∃ es,nbs=[.row true 1 es]/\fz=[]/\∀ (G:Gh) (m:HM) (lk:Look) (w:World) (ρ:Operand->Value),Sim G m lk w->Does P o ρ w (NewAt G es w))
 | eff (h1:gTrue r s.env) (he:r.op.eff=true) (h2:EOk P o r.op.operands r.dst s s')

theorem sstep_rstep {P:Program} {ops:Array Oper} {N:Nat} {o:Oper} {r:RO} (hr:ResO P ops N o r) {s:AState} {K:AState->Prop} (hg:gTrue r s.env) (h:sstep P s r K):∃ s',K s'/\RStep P o r s s':=by
 cases he:r.op.eff with
 | true =>
  obtain ⟨s',hK,hE⟩:=estep_ok hr he h
  exact ⟨s',hK,.eff hg he hE⟩
 | false =>
  rw [sstep_pure he] at h
  cases hn:isNew r.op with
  | false =>
   obtain ⟨x,nbs,fz,hK,h3,h5,hD⟩:=hr.ps he h
   exact ⟨_,hK,.run hg he x nbs fz rfl h3 h5 hD (fun e=>by rw [hn] at e;cases e)⟩
  | true =>
   obtain ⟨zs,hz⟩:=isNew_spec hn
   have hz':resolveOp P o=some (.newR zs):=by
    obtain e0 | ⟨b,op0,g1,g2⟩:=hr.op
    ·rw [hz] at e0;cases e0
    rw [hz] at g2
    rw [g1,mark_newR g2]
   rw [hz] at h
   obtain ⟨ds,hd,hK⟩:=h
   have h':pstep P s.lk s.nx s.ev r.op (fun a nbs fz=>K (s.put r.dst a nbs fz)/\a=.eptr (.O s.nx) 1 0 0/\nbs=[.row true 1 (ds.map fun d=>[d])]/\fz=[]):=by
    rw [hz];exact ⟨ds,hd,hK,rfl,rfl,rfl⟩
   obtain ⟨x,nbs,fz,⟨hK,e1,e2,e3⟩,h3,h5,hD⟩:=hr.ps he h'
   exact ⟨_,hK,.run hg he x nbs fz rfl h3 h5 hD (fun _=>⟨e1,_,e2,e3,new_does hz' hd⟩)⟩

theorem trace {P:Program} {ops:Array Oper} {N:Nat}:∀ {os:List Oper} {ros:List RO} {s:AState} {K:AState->Prop},ResL P ops N os ros->aops P ros s K ->
  ∃ st:Nat->AState,st 0=s/\ros.length=os.length/\K (st os.length)/\∀ (i:Nat) (o:Oper) (r:RO),os[i]?=some o->ros[i]?=some r->ResO P ops N o r/\RStep P o r (st i) (st (i + 1))
 | [],[],s,K,_,h=>⟨fun _=>s,rfl,rfl,h,fun i o r hi=>by simp at hi⟩
 | [],_ :: _,_,_,hr,_=>hr.elim
 | _ :: _,[],_,_,hr,_=>hr.elim
 | o :: os,r :: ros,s,K,hr,h=>by
  obtain ⟨h1,h2⟩:=hr
  have go:∀ s',aops P ros s' K->RStep P o r s s'->∃ st:Nat->AState,st 0=s/\(r :: ros).length=(o :: os).length/\K (st (o :: os).length) /\
    ∀ (i:Nat) (o':Oper) (r':RO),(o :: os)[i]?=some o'->(r :: ros)[i]?=some r'->ResO P ops N o' r'/\RStep P o' r' (st i) (st (i + 1)):=fun s' hs' hstep=>by
   obtain ⟨st,g1,g2,g3,g4⟩:=trace h2 hs'
   refine ⟨fun i=>match i with | 0=>s | i + 1=>st i,rfl,by simp [g2],g3,fun i o' r' hi hi'=>?_⟩
   match i with
   | 0 =>
    simp at hi hi'
    subst hi;subst hi'
    refine ⟨h1,?_⟩
    show RStep P o r s (st 0)
    rw [g1];exact hstep
   | i + 1=>exact g4 i o' r' (by simpa using hi) (by simpa using hi')
  unfold aops at h
  split at h
  ·rename_i hg
   obtain ⟨s',hK,hst⟩:=sstep_rstep h1 (by unfold gTrue;rw [hg];trivial) h
   exact go s' hK hst
  ·rename_i t want hg
   split at h
   ·rename_i c hc
    by_cases e:c=want
    ·obtain ⟨s',hK,hst⟩:=sstep_rstep h1 (by unfold gTrue;rw [hg];simp only;rw [hc,e]) (h.1 e)
     exact go s' hK hst
    ·exact go _ (h.2 e) (.skip (by unfold gFalse;rw [hg];exact .inl ⟨c,hc,e⟩) rfl)
   ·rename_i v hc
    exact go _ h (.skip (by unfold gFalse;rw [hg];exact .inr ⟨v,hc⟩) rfl)
   ·exact h.elim

theorem aops_one {P:Program} {ops:Array Oper} {N:Nat} {o:Oper} {r:RO} {s:AState} {K:AState->Prop} (hr:ResO P ops N o r) (h:aops P [r] s K):∃ s',K s'/\RStep P o r s s':=by
 obtain ⟨st,g1,_,g3,g4⟩:=trace (os:=[o]) (ros:=[r]) ⟨hr,trivial⟩ h
 obtain ⟨_,g5⟩:=g4 0 o r rfl rfl
 exact ⟨st 1,g3,g1 ▸ g5⟩

theorem eff_ht {op:ROp} (h:op.eff=true):op.ht=true:=by cases op <;> first | rfl | (unfold ROp.eff at h;simp at h)
theorem put_lk (s:AState) (dst:Option Nat) (a:AV) (h:Hd):(s.put dst a [] []).lk h=s.lk h:=by
 rw [lk_put]
 unfold lkN lkF
 cases h with
 | B i=>simp
 | O i =>
  have:¬ (s.nx <= i/\i < s.nx + ([]:List Blk).length):=by rw [List.length_nil];omega
  simp only [if_neg this]
  simp
theorem rstep_lk {P:Program} {o:Oper} {r:RO} {s s':AState} (h:RStep P o r s s') (he:r.op.ht=false) (x:Hd):s'.lk x=s.lk x:=by
 cases h with
 | skip h1 h2=>subst h2;exact put_lk _ _ _ _
 | run h1 he' y nbs fz h2 h3 =>
  subst h2
  obtain ⟨rfl,rfl⟩:=h3 he
  exact put_lk _ _ _ _
 | eff h1 h2 h3=>rw [eff_ht h2] at he;cases he
theorem traceS {P:Program} {ops:Array Oper} {N:Nat} {ld:Bool} {hs:List Hd} {lst:Bool}:∀ {os:List Oper} {ros:List RO} {s:AState} {K:AState->Prop},ResL P ops N os ros->aopsS P ld hs lst ros s K ->
  ∃ st:Nat->AState,st 0=s/\ros.length=os.length/\K (st os.length)/\(∀ i,i < os.length->(lst=false\/i + 1 < os.length)->keepH ld hs (st i) (st (i + 1)))/\∀ (i:Nat) (o:Oper) (r:RO),os[i]?=some o->ros[i]?=some r->ResO P ops N o r/\RStep P o r (st i) (st (i + 1))/\ldOk hs r.op (st i).ev
 | [],[],s,K,_,h=>⟨fun _=>s,rfl,rfl,h,fun i hi=>by simp at hi,fun i o r hi=>by simp at hi⟩
 | [],_ :: _,_,_,hr,_=>hr.elim
 | _ :: _,[],_,_,hr,_=>hr.elim
 | o :: os,r :: ros,s,K,hr,h=>by
  obtain ⟨h1,h2⟩:=hr
  obtain ⟨hl,h⟩:=h
  obtain ⟨s',⟨hk,hs'⟩,hstep⟩:=aops_one h1 h
  obtain ⟨st,g1,g2,g3,g5,g4⟩:=traceS h2 hs'
  refine ⟨fun i=>match i with | 0=>s | i + 1=>st i,rfl,by simp [g2],g3,fun i hi hj=>?_,fun i o' r' hi hi'=>?_⟩
  ·match i with
   | 0 =>
    show keepH ld hs s (st 0)
    rw [g1]
    cases he:r.op.ht with
    | true=>exact hk he (hj.imp id fun h6 e=>by subst e;rw [List.length_nil] at g2;rw [List.length_cons] at h6;omega)
    | false=>exact fun x _=>by rw [rstep_lk hstep he];exact keepB.refl _ _
   | i + 1=>exact g5 i (by simpa using hi) (hj.imp id fun h=>by simpa using h)
  ·match i with
   | 0 =>
    simp at hi hi'
    subst hi;subst hi'
    refine ⟨h1,?_,hl⟩
    show RStep P o r s (st 0)
    rw [g1];exact hstep
   | i + 1=>exact g4 i o' r' (by simpa using hi) (by simpa using hi')

end Go.Eng

