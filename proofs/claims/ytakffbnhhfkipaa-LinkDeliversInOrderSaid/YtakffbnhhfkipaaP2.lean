/- link: what the small functions compute. -/
import Derived.Test.YtakffbnhhfkipaaG0
import Derived.Test.YtakffbnhhfkipaaP1
set_option linter.unusedSimpArgs false
set_option linter.unusedVariables false
namespace Go.Proofs.Try
open Go.Eng

def bodyOk (s : Str) : Bool := decide (s.length ≤ 65536)
theorem F31_eq (N : Nat) (s : Str) : F31 N s = some (bodyOk s) := by
  unfold F31 bodyOk; congr 1; rw [decide_eq_decide]; omega
theorem F35_eq (N : Nat) (a b : Int) : F35 N a b = some (decide (0 ≤ a ∧ a ≤ b)) := by
  unfold F35
  by_cases h : 0 ≤ a
  · rw [show decide (a ≥ 0) = true by simpa using h, if_true?]; simp [h]
  · rw [show decide (a ≥ 0) = false by simpa using h, if_false?]; simp [h]
theorem L49_eq (N : Nat) (q : List Str) (hq : q.length ≤ 4611686018427387904) : ∀ (n i : Nat), i ≤ q.length → q.length - i < n → ∃ r, L49_0 N q n i = some r ∧ (decide (r ≥ 0)) = !((q.drop i).all bodyOk)
  | 0, _, _, h => by omega
  | n + 1, i, hi, h => by
    rw [L49_0]
    by_cases hlt : i < q.length
    · rw [show decide ((i : Int) < (q.length : Int)) = true by simpa using hlt, if_true?, get_of hlt]
      unfold F38
      rw [F31_eq, bd_some, bd_some, drop_cons hlt, List.all_cons]
      cases hb : bodyOk q[i]
      · rw [show (!false) = true from rfl, if_true?]; exact ⟨_, rfl, by simp⟩
      · rw [show (!true) = false from rfl, if_false?, ck_of (by omega) (by omega), cast_succ]
        simpa using L49_eq N q hq n (i + 1) (by omega) (by omega)
    · rw [show decide ((i : Int) < (q.length : Int)) = false by simpa using hlt, if_false?]
      exact ⟨_, rfl, by rw [List.drop_eq_nil_of_le (by omega)]; rfl⟩
theorem F37_eq (N : Nat) (q : List Str) (hN : q.length < N) (hq : q.length ≤ 4611686018427387904) : F37 N q = some (!(q.all bodyOk)) := by
  unfold F37 F49
  obtain ⟨r, h1, h2⟩ := L49_eq N q hq N 0 (by omega) (by omega)
  have h1 : L49_0 N q N 0 = some r := h1
  rw [h1, bd_some, h2, List.drop_zero]
def validOut (o : Outbox) : Bool := decide (0 ≤ o.Base ∧ o.Base ≤ 1099511627776 ∧ 0 ≤ o.Acked ∧ o.Acked ≤ 1099511627776 ∧ o.Acked ≤ o.Base + o.Queue.length ∧ o.Queue.length ≤ 1000) && (bodyOk o.Summary && o.Queue.all bodyOk)
theorem F32_eq (N : Nat) (o : Outbox) (hb : 0 ≤ o.Base) (hb' : o.Base ≤ 1099511627776) (hq : o.Queue.length ≤ 4611686018427387904) : F32 N o = some (o.Base + o.Queue.length) := by
  unfold F32; exact ck_of (by omega) (by omega)
theorem F18_eq (N : Nat) (o : Outbox) (hN : o.Queue.length < N) (hq : o.Queue.length ≤ 4611686018427387904) : F18 N o = some (validOut o) := by
  unfold F18
  rw [F37_eq N _ hN hq, bd_some, F35_eq, bd_some]
  by_cases h1 : 0 ≤ o.Base ∧ o.Base ≤ 1099511627776
  · rw [show decide (0 ≤ o.Base ∧ o.Base ≤ 1099511627776) = true by simpa using h1, if_true?, F32_eq N o h1.1 h1.2 hq, bd_some, F35_eq, bd_some]
    by_cases h2 : 0 ≤ o.Acked ∧ o.Acked ≤ min 1099511627776 (o.Base + o.Queue.length)
    · rw [show decide (0 ≤ o.Acked ∧ o.Acked ≤ min 1099511627776 (o.Base + ↑o.Queue.length)) = true by simpa using h2, if_true?]
      by_cases h3 : o.Queue.length ≤ 1000
      · rw [show decide ((o.Queue.length : Int) ≤ 1000) = true by simpa using (by omega : (o.Queue.length : Int) ≤ 1000), if_true?, F31_eq, bd_some]
        have : validOut o = (bodyOk o.Summary && o.Queue.all bodyOk) := by
          unfold validOut
          rw [show decide (0 ≤ o.Base ∧ o.Base ≤ 1099511627776 ∧ 0 ≤ o.Acked ∧ o.Acked ≤ 1099511627776 ∧ o.Acked ≤ o.Base + o.Queue.length ∧ o.Queue.length ≤ 1000) = true by rw [decide_eq_true_eq]; omega, Bool.true_and]
        rw [this]
        cases bodyOk o.Summary
        · rfl
        · rw [if_true?]; simp
      · rw [show decide ((o.Queue.length : Int) ≤ 1000) = false by rw [decide_eq_false_iff_not]; omega, if_false?]
        unfold validOut
        rw [show decide (0 ≤ o.Base ∧ o.Base ≤ 1099511627776 ∧ 0 ≤ o.Acked ∧ o.Acked ≤ 1099511627776 ∧ o.Acked ≤ o.Base + o.Queue.length ∧ o.Queue.length ≤ 1000) = false by rw [decide_eq_false_iff_not]; omega]; rfl
    · rw [show decide (0 ≤ o.Acked ∧ o.Acked ≤ min 1099511627776 (o.Base + ↑o.Queue.length)) = false by rw [decide_eq_false_iff_not]; exact h2, if_false?]
      unfold validOut
      rw [show decide (0 ≤ o.Base ∧ o.Base ≤ 1099511627776 ∧ 0 ≤ o.Acked ∧ o.Acked ≤ 1099511627776 ∧ o.Acked ≤ o.Base + o.Queue.length ∧ o.Queue.length ≤ 1000) = false by rw [decide_eq_false_iff_not]; omega]; rfl
  · rw [show decide (0 ≤ o.Base ∧ o.Base ≤ 1099511627776) = false by rw [decide_eq_false_iff_not]; exact h1, if_false?]
    unfold validOut
    rw [show decide (0 ≤ o.Base ∧ o.Base ≤ 1099511627776 ∧ 0 ≤ o.Acked ∧ o.Acked ≤ 1099511627776 ∧ o.Acked ≤ o.Base + o.Queue.length ∧ o.Queue.length ≤ 1000) = false by rw [decide_eq_false_iff_not]; omega]; rfl
end Go.Proofs.Try
