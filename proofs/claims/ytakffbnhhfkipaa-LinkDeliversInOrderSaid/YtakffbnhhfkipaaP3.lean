/- link: what the sender's functions compute. -/
import Derived.Test.YtakffbnhhfkipaaP2
set_option linter.unusedSimpArgs false
set_option linter.unusedVariables false
namespace Go.Proofs.Try
open Go.Eng

theorem F33_eq (N : Nat) (q : List Str) (h : q.length * 16 ≤ 140737488355328) : F33 N q = some q := by
  unfold F33
  cases q with
  | nil => rfl
  | cons x q => rw [show (x :: q).isEmpty = false from rfl, if_false?, gd_of h]
theorem F42_eq (N : Nat) (q : List Frame) (h : q.length * 32 ≤ 140737488355328) : F42 N q = some q := by
  unfold F42
  cases q with
  | nil => rfl
  | cons x q => rw [show (x :: q).isEmpty = false from rfl, if_false?, gd_of h]

def zOut : Outbox := ⟨0, 0, [], []⟩
theorem validOut_le {o : Outbox} (h : validOut o = true) : 0 ≤ o.Base ∧ o.Base ≤ 1099511627776 ∧ 0 ≤ o.Acked ∧ o.Acked ≤ 1099511627776 ∧ o.Acked ≤ o.Base + o.Queue.length ∧ o.Queue.length ≤ 1000 := by
  unfold validOut at h
  simp only [Bool.and_eq_true, decide_eq_true_eq] at h
  exact h.1

def putS (o : Outbox) (s : Str) : Outbox × Int :=
  if validOut o = true ∧ bodyOk s = true then (if o.Queue.length = 1000 ∨ o.Base + o.Queue.length ≥ 1099511627776 then (zOut, 2) else (⟨o.Base, o.Acked, o.Summary, o.Queue ++ [s]⟩, 0)) else (zOut, 1)
theorem F10_eq (N : Nat) (o : Outbox) (s : Str) (hN : o.Queue.length < N) (hq : o.Queue.length ≤ 4611686018427387904) : F10 N o s = some (putS o s) := by
  unfold F10 putS
  rw [F18_eq N o hN hq, bd_some, if_ite]
  by_cases hv : validOut o = true
  · have hl := validOut_le hv
    rw [if_pos hv, F31_eq, bd_some, if_ite]
    by_cases hb : bodyOk s = true
    · rw [if_pos hb, if_pos ⟨hv, hb⟩, if_ite]
      by_cases h1 : o.Queue.length = 1000
      · rw [if_pos (by simp [h1]), if_pos (.inl h1)]; rfl
      · rw [if_neg (by simp; omega), F32_eq N o hl.1 hl.2.1 hq, bd_some, if_dec]
        by_cases h2 : o.Base + o.Queue.length ≥ 1099511627776
        · rw [if_pos h2, if_pos (.inr h2)]; rfl
        · rw [if_neg h2, F33_eq N _ (by omega), bd_some, gd_of (by simp; omega), if_neg (by omega)]
    · rw [if_neg hb, if_neg (fun h => hb h.2)]; rfl
  · rw [if_neg hv, if_neg (fun h => hv h.1)]; rfl
theorem drop_all {α : Type} (l : List α) (k : Nat) : (l.drop k).take (l.length - k) = l.drop k := List.take_of_length_le (by simp)
def foldS (o : Outbox) (u : Int) (s : Str) : Outbox × Int :=
  if validOut o = true ∧ o.Base ≤ u ∧ u ≤ o.Base + o.Queue.length ∧ bodyOk s = true then (⟨u, o.Acked, s, o.Queue.drop (u - o.Base).toNat⟩, 0) else (zOut, 1)
theorem F11_eq (N : Nat) (o : Outbox) (u : Int) (s : Str) (hN : o.Queue.length < N) (hq : o.Queue.length ≤ 4611686018427387904) : F11 N o u s = some (foldS o u s) := by
  unfold F11 foldS
  rw [F18_eq N o hN hq, bd_some, if_ite]
  by_cases hv : validOut o = true
  · have hl := validOut_le hv
    rw [if_pos hv, if_dec]
    by_cases h1 : o.Base ≤ u
    · rw [if_neg (by omega), F32_eq N o hl.1 hl.2.1 hq, bd_some, if_dec]
      by_cases h2 : u ≤ o.Base + o.Queue.length
      · rw [if_neg (by omega), F31_eq, bd_some, if_ite]
        by_cases hb : bodyOk s = true
        · rw [if_pos hb, if_pos ⟨hv, h1, h2, hb⟩, ck_of (by omega) (by omega), gd_of (by omega), gd_of (by omega), drop_all]
        · rw [if_neg hb, if_neg (fun h => hb h.2.2.2)]; rfl
      · rw [if_pos (by omega), if_neg (fun h => h2 h.2.2.1)]; rfl
    · rw [if_pos (by omega), if_neg (fun h => h1 h.2.1)]; rfl
  · rw [if_neg hv, if_neg (fun h => hv h.1)]; rfl
def ackS (o : Outbox) (u : Int) : Outbox × Int :=
  if validOut o = true ∧ 0 ≤ u ∧ u ≤ o.Base + o.Queue.length then (if u ≤ o.Acked then (o, 0) else if u > o.Base then (⟨u, u, [], o.Queue.drop (u - o.Base).toNat⟩, 0) else (⟨o.Base, u, o.Summary, o.Queue⟩, 0)) else (zOut, 1)
theorem F13_eq (N : Nat) (o : Outbox) (u : Int) (hN : o.Queue.length < N) (hq : o.Queue.length ≤ 4611686018427387904) : F13 N o u = some (ackS o u) := by
  unfold F13 ackS
  rw [F18_eq N o hN hq, bd_some, if_ite]
  by_cases hv : validOut o = true
  · have hl := validOut_le hv
    rw [if_pos hv, F32_eq N o hl.1 hl.2.1 hq, bd_some, F35_eq, bd_some, if_dec]
    by_cases h1 : 0 ≤ u ∧ u ≤ o.Base + o.Queue.length
    · rw [if_pos h1, if_pos ⟨hv, h1⟩, if_dec, if_dec]
      by_cases h2 : u ≤ o.Acked
      · rw [if_pos h2, if_pos h2]
      · rw [if_neg h2, if_neg h2]
        by_cases h3 : u > o.Base
        · rw [if_pos h3, if_pos h3, ck_of (by omega) (by omega), gd_of (by omega), gd_of (by omega), drop_all]
        · rw [if_neg h3, if_neg h3]
    · rw [if_neg h1, if_neg (fun h => h1 h.2)]; rfl
  · rw [if_neg hv, if_neg (fun h => hv h.1)]; rfl
/-! ### Frames -/
def framesFrom (base : Int) : Nat → List Str → List Frame
  | _, [] => []
  | i, s :: r => ⟨false, base + i, s⟩ :: framesFrom base (i + 1) r
theorem framesFrom_length (b : Int) : ∀ (i : Nat) (l : List Str), (framesFrom b i l).length = l.length
  | _, [] => rfl
  | i, s :: r => by simp [framesFrom, framesFrom_length b (i + 1) r]
def heads (o : Outbox) : List Frame := if o.Acked < o.Base then [⟨true, o.Base, o.Summary⟩] else []
def allFrames (o : Outbox) : List Frame := heads o ++ framesFrom o.Base (max o.Acked o.Base - o.Base).toNat (o.Queue.drop (max o.Acked o.Base - o.Base).toNat)
def framesS (o : Outbox) (m : Int) : List Frame × Int := if validOut o = true ∧ 0 ≤ m then ((allFrames o).take m.toNat, 0) else ([], 1)

theorem L12_eq (N : Nat) (m : Int) (o : Outbox) (hb : 0 ≤ o.Base) (hb' : o.Base ≤ 1099511627776) (hq : o.Queue.length ≤ 1000) (hm : 0 ≤ m) : ∀ (n i : Nat) (a : List Frame), i ≤ o.Queue.length → o.Queue.length - i < n → a.length ≤ 1 + i → (a.length : Int) ≤ m →
    L12_0 N m o n (o.Base + i) a = some ((a ++ framesFrom o.Base i (o.Queue.drop i)).take m.toNat, 0)
  | 0, _, _, _, h, _, _ => by omega
  | n + 1, i, a, hi, h, ha, hma => by
    rw [L12_0, F32_eq N o hb hb' (by omega), bd_some, if_dec]
    by_cases hlt : i < o.Queue.length
    · have e : o.Base + (i : Int) - o.Base = (i : Int) := by omega
      rw [if_pos (by omega), e, ck_of (by omega) (by omega), get_of hlt, if_ite, drop_cons hlt]
      by_cases h1 : (a.length : Int) = m
      · rw [if_pos (by simp [h1]), List.take_append_of_le_length (by omega), List.take_of_length_le (by omega)]
      · rw [if_neg (by simp [h1]), gd_of (by simp; omega), ck_of (by omega) (by omega), show o.Base + (i : Int) + 1 = o.Base + ((i + 1 : Nat) : Int) by omega,
          L12_eq N m o hb hb' hq hm n (i + 1) _ (by omega) (by omega) (by simp; omega) (by simp; omega)]
        simp [framesFrom]
    · rw [if_neg (by omega), List.drop_eq_nil_of_le (by omega)]
      simp only [framesFrom, List.append_nil]
      rw [List.take_of_length_le (by omega)]
theorem F12_eq (N : Nat) (o : Outbox) (m : Int) (hN : o.Queue.length < N) (hq : o.Queue.length ≤ 4611686018427387904) : F12 N o m = some (framesS o m) := by
  unfold F12 framesS
  rw [F18_eq N o hN hq, bd_some, if_ite]
  by_cases hv : validOut o = true
  · have hl := validOut_le hv
    rw [if_pos hv, if_dec]
    by_cases hm : 0 ≤ m
    · rw [if_neg (by omega), if_pos ⟨hv, hm⟩]
      unfold F34
      rw [bd_some, if_dec]
      have hi : ((max o.Acked o.Base - o.Base).toNat : Int) = max o.Acked o.Base - o.Base := by omega
      have hs : max o.Acked o.Base = o.Base + ((max o.Acked o.Base - o.Base).toNat : Int) := by omega
      unfold allFrames heads
      by_cases h1 : o.Acked < o.Base
      · rw [if_pos h1, if_pos h1, if_ite]
        by_cases h2 : 0 = m
        · rw [if_pos (by simp [h2])]; subst h2; rfl
        · rw [if_neg (by simp [h2]), hs, L12_eq N m o hl.1 hl.2.1 (by omega) hm N _ _ (by omega) (by omega) (by simp) (by simp; omega)]
          rw [← hs]
      · rw [if_neg h1, if_neg h1, hs, L12_eq N m o hl.1 hl.2.1 (by omega) hm N _ _ (by omega) (by omega) (by simp) (by simp; omega)]
        rw [← hs]
    · rw [if_pos (by omega), if_neg (fun h => hm h.2)]
  · rw [if_neg hv, if_neg (fun h => hv h.1)]
/-! ### Comparing -/
theorem L21_eq (N : Nat) (l : List Frame) (hq : l.length ≤ 4611686018427387904) : ∀ (n i : Nat), i ≤ l.length → l.length - i < n → L21_0 N l l n i = some true
  | 0, _, _, h => by omega
  | n + 1, i, hi, h => by
    rw [L21_0, if_dec]
    by_cases hlt : i < l.length
    · rw [if_pos (by omega), get_of hlt, get_of hlt, if_ite, if_pos (by simp), ck_of (by omega) (by omega), cast_succ]
      exact L21_eq N l hq n (i + 1) (by omega) (by omega)
    · rw [if_neg (by omega)]
theorem F21_eq (N : Nat) (l : List Frame) (hN : l.length < N) (hq : l.length ≤ 4611686018427387904) : F21 N l l = some true := by
  unfold F21
  simp only [bne_self_eq_false, if_false?]
  exact L21_eq N l hq N 0 (by omega) (by omega)
theorem F9_eq : F9 2000 = some true := by kernel_rfl

end Go.Proofs.Try
