/- link: what the sender's functions, and their specification, compute. -/
import Derived.Test.YtakffbnhhfkipaaP2
set_option linter.unusedSimpArgs false
set_option linter.unusedVariables false
namespace Go.Proofs.Try
open Go.Eng

theorem L19_eq (N : Nat) (o : Outbox) (hq : o.Queue.length ≤ 4611686018427387904) : ∀ (n i : Nat), i ≤ o.Queue.length → o.Queue.length - i < n → L19_0 N o n i = some ((o.Queue.drop i).all bodyOk)
  | 0, _, _, h => by omega
  | n + 1, i, hi, h => by
    rw [L19_0, if_dec]
    by_cases hlt : i < o.Queue.length
    · rw [if_pos (by omega), get_of hlt, if_dec, drop_cons hlt, List.all_cons]
      by_cases hb : (o.Queue[i]).length ≤ 65536
      · rw [if_neg (by omega), ck_of (by omega) (by omega), cast_succ, L19_eq N o hq n (i + 1) (by omega) (by omega)]
        simp [bodyOk, hb]
      · rw [if_pos (by omega)]
        simp [bodyOk, hb]
    · rw [if_neg (by omega), List.drop_eq_nil_of_le (by omega)]; rfl
theorem F36_eq (N : Nat) (o : Outbox) (hb : 0 ≤ o.Base) (hb' : o.Base ≤ 1099511627776) (hq : o.Queue.length ≤ 4611686018427387904) : F36 N o = some (o.Base + o.Queue.length) := by
  unfold F36; exact ck_of (by omega) (by omega)
theorem F19_eq (N : Nat) (o : Outbox) (hN : 1000 < N) : F19 N o = some (validOut o) := by
  unfold F19 validOut
  simp only [if_dec]
  by_cases h1 : 0 ≤ o.Base ∧ o.Base ≤ 1099511627776 ∧ 0 ≤ o.Acked ∧ o.Acked ≤ 1099511627776 ∧ o.Queue.length ≤ 1000
  · rw [if_neg (by omega), if_neg (by omega), if_neg (by omega), if_neg (by omega), if_neg (by omega)]
    by_cases hs : o.Summary.length ≤ 65536
    · rw [if_neg (by omega), F36_eq N o (by omega) (by omega) (by omega), bd_some]
      by_cases h2 : o.Acked ≤ o.Base + o.Queue.length
      · rw [if_neg (by omega)]
        have := L19_eq N o (by omega) N 0 (by omega) (by omega)
        rw [show ((0 : Nat) : Int) = 0 from rfl] at this
        rw [this, List.drop_zero]
        have h3 : bodyOk o.Summary = true := by simp [bodyOk, hs]
        rw [h3, Bool.true_and, decide_eq_true (by omega), Bool.true_and]
      · rw [if_pos (by omega), decide_eq_false (by omega)]; rfl
    · rw [if_pos (by omega)]
      have h3 : bodyOk o.Summary = false := by simp [bodyOk, hs]
      rw [h3]; simp
  · rw [decide_eq_false (by omega)]
    simp only [Bool.false_and]
    repeat' split
    all_goals first | rfl | (exfalso; omega)

theorem F33_eq (N : Nat) (q : List Str) (h : q.length * 16 ≤ 140737488355328) : F33 N q = some q := by
  unfold F33
  cases q with
  | nil => rfl
  | cons x q => rw [show (x :: q).isEmpty = false from rfl, if_false?, gd_of h]
theorem F42_eq (N : Nat) (q : List Frame) (h : q.length * 32 ≤ 140737488355328) : F42 N q = some q := by
  unfold F42
  cases q with
  | nil => rfl
  | cons x q => rw [show (x :: q).isEmpty = false from rfl, if_false?, gd_of h]

def zOut : Outbox := ⟨0, 0, [], []⟩
theorem validOut_le {o : Outbox} (h : validOut o = true) : 0 ≤ o.Base ∧ o.Base ≤ 1099511627776 ∧ 0 ≤ o.Acked ∧ o.Acked ≤ 1099511627776 ∧ o.Acked ≤ o.Base + o.Queue.length ∧ o.Queue.length ≤ 1000 := by
  unfold validOut at h
  simp only [Bool.and_eq_true, decide_eq_true_eq] at h
  exact h.1

def putS (o : Outbox) (s : Str) : Outbox × Int :=
  if validOut o = true ∧ bodyOk s = true then (if o.Queue.length = 1000 ∨ o.Base + o.Queue.length ≥ 1099511627776 then (zOut, 2) else (⟨o.Base, o.Acked, o.Summary, o.Queue ++ [s]⟩, 0)) else (zOut, 1)
theorem F10_eq (N : Nat) (o : Outbox) (s : Str) (hN : o.Queue.length < N) (hq : o.Queue.length ≤ 4611686018427387904) : F10 N o s = some (putS o s) := by
  unfold F10 putS
  rw [F18_eq N o hN hq, bd_some, if_ite]
  by_cases hv : validOut o = true
  · have hl := validOut_le hv
    rw [if_pos hv, F31_eq, bd_some, if_ite]
    by_cases hb : bodyOk s = true
    · rw [if_pos hb, if_pos ⟨hv, hb⟩, if_ite]
      by_cases h1 : o.Queue.length = 1000
      · rw [if_pos (by simp [h1]), if_pos (.inl h1)]; rfl
      · rw [if_neg (by simp; omega), F32_eq N o hl.1 hl.2.1 hq, bd_some, if_dec]
        by_cases h2 : o.Base + o.Queue.length ≥ 1099511627776
        · rw [if_pos h2, if_pos (.inr h2)]; rfl
        · rw [if_neg h2, F33_eq N _ (by omega), bd_some, gd_of (by simp; omega), if_neg (by omega)]
    · rw [if_neg hb, if_neg (fun h => hb h.2)]; rfl
  · rw [if_neg hv, if_neg (fun h => hv h.1)]; rfl
theorem F14_eq (N : Nat) (o : Outbox) (s : Str) (hN : 1000 < N) : F14 N o s = some ⟨(putS o s).1, (putS o s).2⟩ := by
  unfold F14 putS
  rw [F19_eq N o hN, bd_some, if_ite]
  by_cases hv : validOut o = true
  · have hl := validOut_le hv
    rw [if_pos hv, if_dec]
    by_cases hb : bodyOk s = true
    · have hb' : s.length ≤ 65536 := by simpa [bodyOk] using hb
      rw [if_neg (by omega), if_pos ⟨hv, hb⟩, if_ite]
      by_cases h1 : o.Queue.length = 1000
      · rw [if_pos (by simp [h1]), if_pos (.inl h1)]; rfl
      · rw [if_neg (by simp; omega), F36_eq N o hl.1 hl.2.1 (by omega), bd_some, if_dec]
        by_cases h2 : o.Base + o.Queue.length ≥ 1099511627776
        · rw [if_pos h2, if_pos (.inr h2)]; rfl
        · rw [if_neg h2, gd_of (by omega), gd_of (by simp; omega), if_neg (by omega)]
    · have hb' : ¬ s.length ≤ 65536 := by simpa [bodyOk] using hb
      rw [if_pos (by omega), if_neg (fun h => hb h.2)]; rfl
  · rw [if_neg hv, if_neg (fun h => hv h.1)]; rfl

theorem drop_all {α : Type} (l : List α) (k : Nat) : (l.drop k).take (l.length - k) = l.drop k := List.take_of_length_le (by simp)
def foldS (o : Outbox) (u : Int) (s : Str) : Outbox × Int :=
  if validOut o = true ∧ o.Base ≤ u ∧ u ≤ o.Base + o.Queue.length ∧ bodyOk s = true then (⟨u, o.Acked, s, o.Queue.drop (u - o.Base).toNat⟩, 0) else (zOut, 1)
theorem F11_eq (N : Nat) (o : Outbox) (u : Int) (s : Str) (hN : o.Queue.length < N) (hq : o.Queue.length ≤ 4611686018427387904) : F11 N o u s = some (foldS o u s) := by
  unfold F11 foldS
  rw [F18_eq N o hN hq, bd_some, if_ite]
  by_cases hv : validOut o = true
  · have hl := validOut_le hv
    rw [if_pos hv, if_dec]
    by_cases h1 : o.Base ≤ u
    · rw [if_neg (by omega), F32_eq N o hl.1 hl.2.1 hq, bd_some, if_dec]
      by_cases h2 : u ≤ o.Base + o.Queue.length
      · rw [if_neg (by omega), F31_eq, bd_some, if_ite]
        by_cases hb : bodyOk s = true
        · rw [if_pos hb, if_pos ⟨hv, h1, h2, hb⟩, ck_of (by omega) (by omega), gd_of (by omega), gd_of (by omega), drop_all]
        · rw [if_neg hb, if_neg (fun h => hb h.2.2.2)]; rfl
      · rw [if_pos (by omega), if_neg (fun h => h2 h.2.2.1)]; rfl
    · rw [if_pos (by omega), if_neg (fun h => h1 h.2.1)]; rfl
  · rw [if_neg hv, if_neg (fun h => hv h.1)]; rfl
theorem F15_eq (N : Nat) (o : Outbox) (u : Int) (s : Str) (hN : 1000 < N) : F15 N o u s = some ⟨(foldS o u s).1, (foldS o u s).2⟩ := by
  unfold F15 foldS
  rw [F19_eq N o hN, bd_some, if_ite]
  by_cases hv : validOut o = true
  · have hl := validOut_le hv
    rw [if_pos hv, if_dec]
    by_cases h1 : o.Base ≤ u
    · rw [if_neg (by omega), F36_eq N o hl.1 hl.2.1 (by omega), bd_some, if_dec]
      by_cases h2 : u ≤ o.Base + o.Queue.length
      · rw [if_neg (by omega), if_dec]
        by_cases hb : bodyOk s = true
        · have hb' : s.length ≤ 65536 := by simpa [bodyOk] using hb
          rw [if_neg (by omega), if_pos ⟨hv, h1, h2, hb⟩, ck_of (by omega) (by omega), gd_of (by omega), gd_of (by omega), drop_all, gd_of (by simp; omega)]
        · have hb' : ¬ s.length ≤ 65536 := by simpa [bodyOk] using hb
          rw [if_pos (by omega), if_neg (fun h => hb h.2.2.2)]; rfl
      · rw [if_pos (by omega), if_neg (fun h => h2 h.2.2.1)]; rfl
    · rw [if_pos (by omega), if_neg (fun h => h1 h.2.1)]; rfl
  · rw [if_neg hv, if_neg (fun h => hv h.1)]; rfl

def ackS (o : Outbox) (u : Int) : Outbox × Int :=
  if validOut o = true ∧ 0 ≤ u ∧ u ≤ o.Base + o.Queue.length then (if u ≤ o.Acked then (o, 0) else if u > o.Base then (⟨u, u, [], o.Queue.drop (u - o.Base).toNat⟩, 0) else (⟨o.Base, u, o.Summary, o.Queue⟩, 0)) else (zOut, 1)
theorem F13_eq (N : Nat) (o : Outbox) (u : Int) (hN : o.Queue.length < N) (hq : o.Queue.length ≤ 4611686018427387904) : F13 N o u = some (ackS o u) := by
  unfold F13 ackS
  rw [F18_eq N o hN hq, bd_some, if_ite]
  by_cases hv : validOut o = true
  · have hl := validOut_le hv
    rw [if_pos hv, F32_eq N o hl.1 hl.2.1 hq, bd_some, F35_eq, bd_some, if_dec]
    by_cases h1 : 0 ≤ u ∧ u ≤ o.Base + o.Queue.length
    · rw [if_pos h1, if_pos ⟨hv, h1⟩, if_dec, if_dec]
      by_cases h2 : u ≤ o.Acked
      · rw [if_pos h2, if_pos h2]
      · rw [if_neg h2, if_neg h2]
        by_cases h3 : u > o.Base
        · rw [if_pos h3, if_pos h3, ck_of (by omega) (by omega), gd_of (by omega), gd_of (by omega), drop_all]
        · rw [if_neg h3, if_neg h3]
    · rw [if_neg h1, if_neg (fun h => h1 h.2)]; rfl
  · rw [if_neg hv, if_neg (fun h => hv h.1)]; rfl
theorem F17_eq (N : Nat) (o : Outbox) (u : Int) (hN : 1000 < N) : F17 N o u = some ⟨(ackS o u).1, (ackS o u).2⟩ := by
  unfold F17 ackS
  rw [F19_eq N o hN, bd_some, if_ite]
  by_cases hv : validOut o = true
  · have hl := validOut_le hv
    rw [if_pos hv, if_dec]
    by_cases h0 : 0 ≤ u
    · rw [if_neg (by omega), F36_eq N o hl.1 hl.2.1 (by omega), bd_some, if_dec]
      by_cases h1 : u ≤ o.Base + o.Queue.length
      · rw [if_neg (by omega), if_pos ⟨hv, h0, h1⟩, if_dec, if_dec]
        by_cases h2 : u ≤ o.Acked
        · rw [if_pos h2, if_pos h2]
        · rw [if_neg h2, if_neg h2]
          by_cases h3 : u > o.Base
          · rw [if_pos h3, if_pos h3, ck_of (by omega) (by omega), gd_of (by omega), gd_of (by omega), drop_all, gd_of (by simp; omega)]
          · rw [if_neg h3, if_neg h3]
      · rw [if_pos (by omega), if_neg (fun h => h1 h.2.2)]; rfl
    · rw [if_pos (by omega), if_neg (fun h => h0 h.2.1)]; rfl
  · rw [if_neg hv, if_neg (fun h => hv h.1)]; rfl

/-! ### Frames -/
def framesFrom (base : Int) : Nat → List Str → List Frame
  | _, [] => []
  | i, s :: r => ⟨false, base + i, s⟩ :: framesFrom base (i + 1) r
theorem framesFrom_length (b : Int) : ∀ (i : Nat) (l : List Str), (framesFrom b i l).length = l.length
  | _, [] => rfl
  | i, s :: r => by simp [framesFrom, framesFrom_length b (i + 1) r]
def heads (o : Outbox) : List Frame := if o.Acked < o.Base then [⟨true, o.Base, o.Summary⟩] else []
def allFrames (o : Outbox) : List Frame := heads o ++ framesFrom o.Base (max o.Acked o.Base - o.Base).toNat (o.Queue.drop (max o.Acked o.Base - o.Base).toNat)
def framesS (o : Outbox) (m : Int) : List Frame × Int := if validOut o = true ∧ 0 ≤ m then ((allFrames o).take m.toNat, 0) else ([], 1)

theorem L12_eq (N : Nat) (m : Int) (o : Outbox) (hb : 0 ≤ o.Base) (hb' : o.Base ≤ 1099511627776) (hq : o.Queue.length ≤ 1000) (hm : 0 ≤ m) : ∀ (n i : Nat) (a : List Frame), i ≤ o.Queue.length → o.Queue.length - i < n → a.length ≤ 1 + i → (a.length : Int) ≤ m →
    L12_0 N m o n (o.Base + i) a = some ((a ++ framesFrom o.Base i (o.Queue.drop i)).take m.toNat, 0)
  | 0, _, _, _, h, _, _ => by omega
  | n + 1, i, a, hi, h, ha, hma => by
    rw [L12_0, F32_eq N o hb hb' (by omega), bd_some, if_dec]
    by_cases hlt : i < o.Queue.length
    · have e : o.Base + (i : Int) - o.Base = (i : Int) := by omega
      rw [if_pos (by omega), e, ck_of (by omega) (by omega), get_of hlt, if_ite, drop_cons hlt]
      by_cases h1 : (a.length : Int) = m
      · rw [if_pos (by simp [h1]), List.take_append_of_le_length (by omega), List.take_of_length_le (by omega)]
      · rw [if_neg (by simp [h1]), gd_of (by simp; omega), ck_of (by omega) (by omega), show o.Base + (i : Int) + 1 = o.Base + ((i + 1 : Nat) : Int) by omega,
          L12_eq N m o hb hb' hq hm n (i + 1) _ (by omega) (by omega) (by simp; omega) (by simp; omega)]
        simp [framesFrom]
    · rw [if_neg (by omega), List.drop_eq_nil_of_le (by omega)]
      simp only [framesFrom, List.append_nil]
      rw [List.take_of_length_le (by omega)]
theorem F12_eq (N : Nat) (o : Outbox) (m : Int) (hN : o.Queue.length < N) (hq : o.Queue.length ≤ 4611686018427387904) : F12 N o m = some (framesS o m) := by
  unfold F12 framesS
  rw [F18_eq N o hN hq, bd_some, if_ite]
  by_cases hv : validOut o = true
  · have hl := validOut_le hv
    rw [if_pos hv, if_dec]
    by_cases hm : 0 ≤ m
    · rw [if_neg (by omega), if_pos ⟨hv, hm⟩]
      unfold F34
      rw [bd_some, if_dec]
      have hi : ((max o.Acked o.Base - o.Base).toNat : Int) = max o.Acked o.Base - o.Base := by omega
      have hs : max o.Acked o.Base = o.Base + ((max o.Acked o.Base - o.Base).toNat : Int) := by omega
      unfold allFrames heads
      by_cases h1 : o.Acked < o.Base
      · rw [if_pos h1, if_pos h1, if_ite]
        by_cases h2 : 0 = m
        · rw [if_pos (by simp [h2])]; subst h2; rfl
        · rw [if_neg (by simp [h2]), hs, L12_eq N m o hl.1 hl.2.1 (by omega) hm N _ _ (by omega) (by omega) (by simp) (by simp; omega)]
          rw [← hs]
      · rw [if_neg h1, if_neg h1, hs, L12_eq N m o hl.1 hl.2.1 (by omega) hm N _ _ (by omega) (by omega) (by simp) (by simp; omega)]
        rw [← hs]
    · rw [if_pos (by omega), if_neg (fun h => hm h.2)]
  · rw [if_neg hv, if_neg (fun h => hv h.1)]
theorem L16_eq (N : Nat) (m : Int) (o : Outbox) (hb : 0 ≤ o.Base) (hb' : o.Base ≤ 1099511627776) (hq : o.Queue.length ≤ 1000) (hm : 0 ≤ m) : ∀ (n i : Nat) (a : List Frame), i ≤ o.Queue.length → o.Queue.length - i < n → a.length ≤ 1 + i →
    L16_0 N o m n (o.Base + i) a = some ⟨(a ++ framesFrom o.Base i (o.Queue.drop i)).take m.toNat, 0⟩
  | 0, _, _, _, h, _ => by omega
  | n + 1, i, a, hi, h, ha => by
    rw [L16_0, F36_eq N o hb hb' (by omega), bd_some, if_dec]
    by_cases hlt : i < o.Queue.length
    · have e : o.Base + (i : Int) - o.Base = (i : Int) := by omega
      rw [if_pos (by omega), e, ck_of (by omega) (by omega), get_of hlt, drop_cons hlt]
      rw [gd_of (by simp; omega), ck_of (by omega) (by omega), show o.Base + (i : Int) + 1 = o.Base + ((i + 1 : Nat) : Int) by omega,
          L16_eq N m o hb hb' hq hm n (i + 1) _ (by omega) (by omega) (by simp; omega)]
      simp [framesFrom]
    · rw [if_neg (by omega), List.drop_eq_nil_of_le (by omega)]
      simp only [framesFrom, List.append_nil]
      rw [gd_of (by omega), gd_of (by omega), gd_of (by simp; omega)]
      congr 2
      by_cases h1 : m.toNat ≤ a.length
      · congr 1; omega
      · rw [List.take_of_length_le (by omega), List.take_of_length_le (by omega)]
theorem F16_eq (N : Nat) (o : Outbox) (m : Int) (hN : 1000 < N) : F16 N o m = some ⟨(framesS o m).1, (framesS o m).2⟩ := by
  unfold F16 framesS
  rw [F19_eq N o hN, bd_some, if_ite]
  by_cases hv : validOut o = true
  · have hl := validOut_le hv
    rw [if_pos hv, if_dec]
    by_cases hm : 0 ≤ m
    · rw [if_neg (by omega), if_pos ⟨hv, hm⟩, if_dec]
      have hs : max o.Acked o.Base = o.Base + ((max o.Acked o.Base - o.Base).toNat : Int) := by omega
      unfold allFrames heads
      by_cases h1 : o.Acked < o.Base
      · rw [if_pos h1, if_pos h1, hs, L16_eq N m o hl.1 hl.2.1 (by omega) hm N _ _ (by omega) (by omega) (by simp)]
        rw [← hs]
      · rw [if_neg h1, if_neg h1, hs, L16_eq N m o hl.1 hl.2.1 (by omega) hm N _ _ (by omega) (by omega) (by simp)]
        rw [← hs]
    · rw [if_pos (by omega), if_neg (fun h => hm h.2)]
  · rw [if_neg hv, if_neg (fun h => hv h.1)]

/-! ### Comparing -/
theorem L20_eq (N : Nat) (o : Outbox) (hq : o.Queue.length ≤ 4611686018427387904) : ∀ (n i : Nat), i ≤ o.Queue.length → o.Queue.length - i < n → L20_0 N o o n i = some true
  | 0, _, _, h => by omega
  | n + 1, i, hi, h => by
    rw [L20_0, if_dec]
    by_cases hlt : i < o.Queue.length
    · rw [if_pos (by omega), get_of hlt, get_of hlt, if_ite, if_pos (by simp), ck_of (by omega) (by omega), cast_succ]
      exact L20_eq N o hq n (i + 1) (by omega) (by omega)
    · rw [if_neg (by omega)]
theorem F20_eq (N : Nat) (o : Outbox) (hN : o.Queue.length < N) (hq : o.Queue.length ≤ 4611686018427387904) : F20 N o o = some true := by
  unfold F20
  simp only [bne_self_eq_false, BEq.rfl, if_true?, if_false?]
  exact L20_eq N o hq N 0 (by omega) (by omega)
theorem L21_eq (N : Nat) (l : List Frame) (hq : l.length ≤ 4611686018427387904) : ∀ (n i : Nat), i ≤ l.length → l.length - i < n → L21_0 N l l n i = some true
  | 0, _, _, h => by omega
  | n + 1, i, hi, h => by
    rw [L21_0, if_dec]
    by_cases hlt : i < l.length
    · rw [if_pos (by omega), get_of hlt, get_of hlt, if_ite, if_pos (by simp), ck_of (by omega) (by omega), cast_succ]
      exact L21_eq N l hq n (i + 1) (by omega) (by omega)
    · rw [if_neg (by omega)]
theorem F21_eq (N : Nat) (l : List Frame) (hN : l.length < N) (hq : l.length ≤ 4611686018427387904) : F21 N l l = some true := by
  unfold F21
  simp only [bne_self_eq_false, if_false?]
  exact L21_eq N l hq N 0 (by omega) (by omega)
theorem F9_eq : F9 2000 = some true := by kernel_rfl

theorem L8_ex (N : Nat) (o : Outbox) (hq : o.Queue.length ≤ 1001) : ∀ (n i : Nat), i ≤ o.Queue.length → o.Queue.length - i < n → ∃ b, L8_0 N o n i = some b
  | 0, _, _, h => by omega
  | n + 1, i, hi, h => by
    rw [L8_0, if_dec]
    by_cases hlt : i < o.Queue.length
    · rw [if_pos (by omega), get_of hlt, if_dec, ck_of (by omega) (by omega), cast_succ]
      split
      · exact ⟨_, rfl⟩
      · exact L8_ex N o hq n (i + 1) (by omega) (by omega)
    · rw [if_neg (by omega)]; exact ⟨_, rfl⟩
theorem F8_ex (N : Nat) (o : Outbox) (hN : 1001 < N) : ∃ b, F8 N o = some b ∧ (b = true → o.Queue.length ≤ 1001) := by
  unfold F8
  simp only [if_dec]
  by_cases h : o.Queue.length ≤ 1001
  · obtain ⟨b, hb⟩ := L8_ex N o h N 0 (by omega) (by omega)
    have hb : L8_0 N o N 0 = some b := hb
    rw [hb]
    repeat' split
    all_goals exact ⟨_, rfl, fun _ => h⟩
  · repeat' split
    all_goals first | exact ⟨_, rfl, fun e => by cases e⟩ | (exfalso; omega)

theorem sends_true (o : Outbox) (s : Str) (n : Int) : F3 2000 o s n = some true := by
  unfold F3
  obtain ⟨b, hb, hlen⟩ := F8_ex 2000 o (by omega)
  rw [hb, bd_some, if_ite]
  cases b with
  | false => rw [if_neg (by simp), F9_eq]; rfl
  | true =>
    have hq := hlen rfl
    rw [if_pos rfl, if_dec]
    by_cases hs : (s.length : Int) > 100
    · rw [if_pos hs, F9_eq]; rfl
    · have hpq : (putS o s).1.Queue.length ≤ 1001 := by
        unfold putS
        repeat' split
        all_goals first | (simp [zOut]; done) | (have := validOut_le (by assumption : validOut o = true ∧ _).1; simp; omega)
      have hfq : (foldS o n s).1.Queue.length ≤ 1001 := by
        unfold foldS
        split
        · simp; omega
        · simp [zOut]
      have haq : (ackS o n).1.Queue.length ≤ 1001 := by
        unfold ackS
        repeat' split
        all_goals first | (simp [zOut]; done) | (simp; omega)
      have hfr : (framesS o n).1.length ≤ 1001 := by
        unfold framesS
        split
        · have : (allFrames o).length ≤ 1001 := by
            unfold allFrames heads
            rw [List.length_append, framesFrom_length]
            have := validOut_le (by assumption : validOut o = true ∧ _).1
            split <;> simp <;> omega
          simp; omega
        · simp
      rw [if_neg hs, F10_eq 2000 o s (by omega) (by omega), bd_some, F11_eq 2000 o n s (by omega) (by omega), bd_some, F12_eq 2000 o n (by omega) (by omega), bd_some, F13_eq 2000 o n (by omega) (by omega), bd_some,
        F14_eq 2000 o s (by omega), bd_some, F15_eq 2000 o n s (by omega), bd_some, F16_eq 2000 o n (by omega), bd_some, F17_eq 2000 o n (by omega), bd_some, F18_eq 2000 o (by omega) (by omega), bd_some, F19_eq 2000 o (by omega), bd_some]
      simp only [BEq.rfl, if_true?, F20_eq 2000 _ (Nat.lt_of_le_of_lt hpq (by omega)) (Nat.le_trans hpq (by omega)), F20_eq 2000 _ (Nat.lt_of_le_of_lt hfq (by omega)) (Nat.le_trans hfq (by omega)), F20_eq 2000 _ (Nat.lt_of_le_of_lt haq (by omega)) (Nat.le_trans haq (by omega)), F21_eq 2000 _ (Nat.lt_of_le_of_lt hfr (by omega)) (Nat.le_trans hfr (by omega)), F9_eq, bd_some]
end Go.Proofs.Try
