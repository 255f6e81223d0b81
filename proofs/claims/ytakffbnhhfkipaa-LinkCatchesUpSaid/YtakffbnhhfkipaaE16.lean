/- A region whose order is drawn: whatever the order, it comes to what the order of the text comes to. -/
import Derived.Test.YtakffbnhhfkipaaE15
import Derived.Orders
set_option linter.unusedSimpArgs false
set_option linter.unusedVariables false
namespace Go.Eng
open Go.RowKit

/-! ### Ancestors -/
def afterOf (ops : Array Oper) (j : Nat) : List Nat :=
  match ops[j]? with
  | some o => (o.after.toList.filter (Region.binds .any)).map (·.on)
  | none => []
def maskOf (l : List Nat) : List Nat → Nat
  | [] => 0
  | i :: is => (2 ^ i ||| l.getD i 0) ||| maskOf l is
def ancM (ops : Array Oper) : Nat → List Nat
  | 0 => []
  | n + 1 => let l := ancM ops n; l ++ [maskOf l (afterOf ops n)]

theorem ancM_length (ops : Array Oper) : ∀ n, (ancM ops n).length = n
  | 0 => rfl
  | n + 1 => by simp [ancM, ancM_length ops n]

theorem ancM_get (ops : Array Oper) : ∀ n j, j < n → (ancM ops n).getD j 0 = maskOf (ancM ops j) (afterOf ops j)
  | 0, j, h => by omega
  | n + 1, j, h => by
    simp only [ancM]
    by_cases e : j < n
    · rw [List.getD_eq_getElem?_getD, List.getElem?_append_left (by rw [ancM_length]; exact e), ← List.getD_eq_getElem?_getD]
      exact ancM_get ops n j e
    · have : j = n := by omega
      subst this
      rw [List.getD_eq_getElem?_getD, List.getElem?_append_right (by rw [ancM_length]; omega), ancM_length]
      simp

theorem maskOf_bit (l : List Nat) : ∀ (es : List Nat) (i : Nat), (maskOf l es).testBit i = true → ∃ e ∈ es, i = e ∨ (l.getD e 0).testBit i = true
  | [], i, h => by simp [maskOf] at h
  | e :: es, i, h => by
    simp only [maskOf, Nat.testBit_or, Bool.or_eq_true] at h
    rcases h with (h | h) | h
    · exact ⟨e, by simp, .inl (by rw [Nat.testBit_two_pow] at h; simpa using (of_decide_eq_true h).symm)⟩
    · exact ⟨e, by simp, .inr h⟩
    · obtain ⟨e', h1, h2⟩ := maskOf_bit l es i h
      exact ⟨e', by simp [h1], h2⟩

def anc (ops : Array Oper) (i j : Nat) : Bool := ((ancM ops ops.size).getD j 0).testBit i

theorem anc_step {ops : Array Oper} (hlt : ∀ j, j < ops.size → ∀ e ∈ afterOf ops j, e < j) {i j : Nat} (hj : j < ops.size) (h : anc ops i j = true) : ∃ e ∈ afterOf ops j, i = e ∨ anc ops i e = true := by
  unfold anc at h
  rw [ancM_get ops _ j hj] at h
  obtain ⟨e, he, h2⟩ := maskOf_bit _ _ _ h
  refine ⟨e, he, h2.imp id fun h2 => ?_⟩
  have := hlt j hj e he
  unfold anc
  rw [ancM_get ops _ e (by omega)]
  rwa [ancM_get ops _ e this] at h2

theorem anc_lt {ops : Array Oper} (hlt : ∀ j, j < ops.size → ∀ e ∈ afterOf ops j, e < j) : ∀ (j i : Nat), j < ops.size → anc ops i j = true → i < j := by
  intro j
  induction j using Nat.strongRecOn with
  | _ j ih =>
    intro i hj h
    obtain ⟨e, he, rfl | h2⟩ := anc_step hlt hj h
    · exact hlt j hj _ he
    · have := hlt j hj e he
      exact Nat.lt_trans (ih e this i (by omega) h2) this

theorem anc_listed {ops : Array Oper} (hlt : ∀ j, j < ops.size → ∀ e ∈ afterOf ops j, e < j) {L : Nat → Prop} (hc : ∀ j, j < ops.size → L j → ∀ e ∈ afterOf ops j, L e) : ∀ (j i : Nat), j < ops.size → anc ops i j = true → L j → L i := by
  intro j
  induction j using Nat.strongRecOn with
  | _ j ih =>
    intro i hj h hL
    obtain ⟨e, he, rfl | h2⟩ := anc_step hlt hj h
    · exact hc j hj hL _ he
    · have := hlt j hj e he
      exact ih e this i (by omega) h2 (hc j hj hL e he)

/-! ### What may run in any order -/
def opTmps (l : List Operand) : List Nat := l.filterMap fun | .tmp t => some t | _ => none
def RO.names (r : RO) : List Nat := r.dst.toList ++ opTmps r.op.operands ++ (match r.guard with | some (t, _) => [t] | none => [])
def pairOk (ops : Array Oper) (ri rj : RO) (i j : Nat) : Bool :=
  anc ops i j ||
  (!((match ri.dst with | some d => rj.names.contains d | none => false) || (match rj.dst with | some d => ri.names.contains d | none => false)) &&
   !((ri.op.eff && rj.op.ht) || (rj.op.eff && ri.op.ht)))

def drawOk (ops : Array Oper) (ros : List RO) : Bool :=
  (List.range ops.size).all (fun j => (afterOf ops j).all fun e => decide (e < j)) &&
  (List.range ops.size).all fun j => (List.range j).all fun i => pairOk ops (ros.getD i default) (ros.getD j default) i j

structure DrawOk (ops : Array Oper) (ro : Nat → RO) : Prop where
  lt : ∀ j, j < ops.size → ∀ e ∈ afterOf ops j, e < j
  wr : ∀ i j, i < j → j < ops.size → ∀ d, (ro i).dst = some d → d ∈ (ro j).names → anc ops i j = true
  rw : ∀ i j, i < j → j < ops.size → ∀ d, (ro j).dst = some d → d ∈ (ro i).names → anc ops i j = true
  eh : ∀ i j, i < j → j < ops.size → (ro i).op.eff = true → (ro j).op.ht = true → anc ops i j = true
  he : ∀ i j, i < j → j < ops.size → (ro i).op.ht = true → (ro j).op.eff = true → anc ops i j = true

theorem drawOk_spec {ops : Array Oper} {ros : List RO} (h : drawOk ops ros = true) : DrawOk ops (fun i => ros.getD i default) := by
  unfold drawOk at h
  simp only [Bool.and_eq_true, List.all_eq_true, List.mem_range, decide_eq_true_eq] at h
  obtain ⟨h1, h2⟩ := h
  have hp : ∀ i j, i < j → j < ops.size → pairOk ops (ros.getD i default) (ros.getD j default) i j = true := fun i j hi hj => h2 j hj i hi
  have key : ∀ (ri rj : RO) (i j : Nat), pairOk ops ri rj i j = true →
      (∀ d, ri.dst = some d → d ∈ rj.names → anc ops i j = true) ∧ (∀ d, rj.dst = some d → d ∈ ri.names → anc ops i j = true) ∧
      (ri.op.eff = true → rj.op.ht = true → anc ops i j = true) ∧ (ri.op.ht = true → rj.op.eff = true → anc ops i j = true) := fun ri rj i j h => by
    unfold pairOk at h
    refine ⟨fun d hd hm => ?_, fun d hd hm => ?_, fun he hh => ?_, fun hh he => ?_⟩
    · rw [hd] at h; simpa [hm] using h
    · rw [hd] at h; simpa [hm] using h
    · simpa [he, hh] using h
    · simpa [he, hh] using h
  exact ⟨h1, fun i j hi hj => (key _ _ i j (hp i j hi hj)).1, fun i j hi hj => (key _ _ i j (hp i j hi hj)).2.1, fun i j hi hj => (key _ _ i j (hp i j hi hj)).2.2.1, fun i j hi hj => (key _ _ i j (hp i j hi hj)).2.2.2⟩

/-! ### One step, in the order of the text -/
def gTrue (r : RO) (env : Nat → AV) : Prop := match r.guard with
  | none => True
  | some (t, want) => env t = .D (.B want)
def gFalse (r : RO) (env : Nat → AV) : Prop := match r.guard with
  | none => False
  | some (t, want) => (∃ c, env t = .D (.B c) ∧ c ≠ want) ∨ ∃ v, env t = .D (.C (.tuple v))

inductive RStep (P : Program) (o : Oper) (r : RO) (s s' : AState) : Prop
  | skip (h1 : gFalse r s.env) (h2 : s' = s.put r.dst .un [] [])
  | run (h1 : gTrue r s.env) (he : r.op.eff = false) (x : AV) (nbs : List Blk) (fz : List Hd) (h2 : s' = s.put r.dst x nbs fz) (h3 : r.op.ht = false → nbs = [] ∧ fz = []) (h5 : ∀ h ∈ fz, (s.lk h).isSome = true)
      (h4 : ∀ (G : Gh) (m : HM) (w : World) (ρ : Operand → Value) (_ : ∀ v, ρ (.const v) = v) (lk2 : Look), Need r.op s.ev s.lk lk2 → Sim G m lk2 w → (∀ x ∈ r.op.operands, AV.Rep G m (s.ev x) (ρ x)) →
        (∀ j, j < nbs.length → m (.O (s.nx + j)) = none) → Does P o ρ w (PPost G m lk2 s.nx x nbs fz w))
  | eff (h1 : gTrue r s.env) (he : r.op.eff = true) (h2 : EOk P o r.op.operands r.dst s s')

theorem sstep_rstep {P : Program} {ops : Array Oper} {N : Nat} {o : Oper} {r : RO} (hr : ResO P ops N o r) {s : AState} {K : AState → Prop} (hg : gTrue r s.env) (h : sstep P s r K) : ∃ s', K s' ∧ RStep P o r s s' := by
  cases he : r.op.eff with
  | true =>
    obtain ⟨s', hK, hE⟩ := estep_ok hr he h
    exact ⟨s', hK, .eff hg he hE⟩
  | false =>
    rw [sstep_pure he] at h
    obtain ⟨x, nbs, fz, hK, h3, h5, hD⟩ := hr.ps he h
    exact ⟨_, hK, .run hg he x nbs fz rfl h3 h5 hD⟩

/-- The states that the order of the text goes through. -/
theorem trace {P : Program} {ops : Array Oper} {N : Nat} : ∀ {os : List Oper} {ros : List RO} {s : AState} {K : AState → Prop}, ResL P ops N os ros → aops P ros s K →
    ∃ st : Nat → AState, st 0 = s ∧ ros.length = os.length ∧ K (st os.length) ∧ ∀ (i : Nat) (o : Oper) (r : RO), os[i]? = some o → ros[i]? = some r → ResO P ops N o r ∧ RStep P o r (st i) (st (i + 1))
  | [], [], s, K, _, h => ⟨fun _ => s, rfl, rfl, h, fun i o r hi => by simp at hi⟩
  | [], _ :: _, _, _, hr, _ => hr.elim
  | _ :: _, [], _, _, hr, _ => hr.elim
  | o :: os, r :: ros, s, K, hr, h => by
    obtain ⟨h1, h2⟩ := hr
    have go : ∀ s', aops P ros s' K → RStep P o r s s' → ∃ st : Nat → AState, st 0 = s ∧ (r :: ros).length = (o :: os).length ∧ K (st (o :: os).length) ∧
        ∀ (i : Nat) (o' : Oper) (r' : RO), (o :: os)[i]? = some o' → (r :: ros)[i]? = some r' → ResO P ops N o' r' ∧ RStep P o' r' (st i) (st (i + 1)) := fun s' hs' hstep => by
      obtain ⟨st, g1, g2, g3, g4⟩ := trace h2 hs'
      refine ⟨fun i => match i with | 0 => s | i + 1 => st i, rfl, by simp [g2], g3, fun i o' r' hi hi' => ?_⟩
      match i with
      | 0 =>
        simp at hi hi'
        subst hi; subst hi'
        refine ⟨h1, ?_⟩
        show RStep P o r s (st 0)
        rw [g1]; exact hstep
      | i + 1 => exact g4 i o' r' (by simpa using hi) (by simpa using hi')
    unfold aops at h
    split at h
    · rename_i hg
      obtain ⟨s', hK, hst⟩ := sstep_rstep h1 (by unfold gTrue; rw [hg]; trivial) h
      exact go s' hK hst
    · rename_i t want hg
      split at h
      · rename_i c hc
        by_cases e : c = want
        · obtain ⟨s', hK, hst⟩ := sstep_rstep h1 (by unfold gTrue; rw [hg]; simp only; rw [hc, e]) (h.1 e)
          exact go s' hK hst
        · exact go _ (h.2 e) (.skip (by unfold gFalse; rw [hg]; exact .inl ⟨c, hc, e⟩) rfl)
      · rename_i v hc
        exact go _ h (.skip (by unfold gFalse; rw [hg]; exact .inr ⟨v, hc⟩) rfl)
      · exact h.elim

theorem aops_one {P : Program} {ops : Array Oper} {N : Nat} {o : Oper} {r : RO} {s : AState} {K : AState → Prop} (hr : ResO P ops N o r) (h : aops P [r] s K) : ∃ s', K s' ∧ RStep P o r s s' := by
  obtain ⟨st, g1, _, g3, g4⟩ := trace (os := [o]) (ros := [r]) ⟨hr, trivial⟩ h
  obtain ⟨_, g5⟩ := g4 0 o r rfl rfl
  exact ⟨st 1, g3, g1 ▸ g5⟩

theorem traceS {P : Program} {ops : Array Oper} {N : Nat} {hs : List Hd} : ∀ {os : List Oper} {ros : List RO} {s : AState} {K : AState → Prop}, ResL P ops N os ros → aopsS P hs ros s K →
    ∃ st : Nat → AState, st 0 = s ∧ ros.length = os.length ∧ K (st os.length) ∧ (∀ i, i < os.length → keepH hs (st i) (st (i + 1))) ∧ ∀ (i : Nat) (o : Oper) (r : RO), os[i]? = some o → ros[i]? = some r → ResO P ops N o r ∧ RStep P o r (st i) (st (i + 1)) ∧ ldOk hs r.op (st i).ev
  | [], [], s, K, _, h => ⟨fun _ => s, rfl, rfl, h, fun i hi => by simp at hi, fun i o r hi => by simp at hi⟩
  | [], _ :: _, _, _, hr, _ => hr.elim
  | _ :: _, [], _, _, hr, _ => hr.elim
  | o :: os, r :: ros, s, K, hr, h => by
    obtain ⟨h1, h2⟩ := hr
    obtain ⟨hl, h⟩ := h
    obtain ⟨s', ⟨hk, hs'⟩, hstep⟩ := aops_one h1 h
    obtain ⟨st, g1, g2, g3, g5, g4⟩ := traceS h2 hs'
    refine ⟨fun i => match i with | 0 => s | i + 1 => st i, rfl, by simp [g2], g3, fun i hi => ?_, fun i o' r' hi hi' => ?_⟩
    · match i with
      | 0 => show keepH hs s (st 0); rw [g1]; exact hk
      | i + 1 => exact g5 i (by simpa using hi)
    · match i with
      | 0 =>
        simp at hi hi'
        subst hi; subst hi'
        refine ⟨h1, ?_, hl⟩
        show RStep P o r s (st 0)
        rw [g1]; exact hstep
      | i + 1 => exact g4 i o' r' (by simpa using hi) (by simpa using hi')

end Go.Eng
