/- Printed by a program: what the functions compute, and that they do (part 3). -/
import Derived.Test.YtakffbnhhfkipaaGR2
set_option linter.unusedSimpArgs false
set_option linter.unusedVariables false
set_option maxRecDepth 8000
namespace Go.Proofs.Try
open Go.Eng Go.RowKit
/-! ## 27 rivermark.rivermarkref11.ValidIn -/
def f27g0 : List RO :=
  [⟨(.some 1), (.box (.tmp 0)), .none⟩,
   ⟨(.some 2), (.mv (.const (.bool .false))), .none⟩]
def f27g1 : List RO :=
  [⟨(.some 6), (.faddr 0 (.tmp 1)), .none⟩,
   ⟨(.some 7), (.load .none (.tmp 6)), .none⟩,
   ⟨(.some 8), (.bin .lss (.tmp 7) (.const (.int .i64 0))), .none⟩,
   ⟨(.some 9), (.mv (.tmp 8)), .none⟩,
   ⟨(.some 10), (.faddr 0 (.tmp 1)), (.some (9, .false))⟩,
   ⟨(.some 11), (.load .none (.tmp 10)), (.some (9, .false))⟩,
   ⟨(.some 12), (.bin .gtr (.tmp 11) (.const (.int .i64 2199023255552))), (.some (9, .false))⟩,
   ⟨(.some 13), (.pick (.tmp 9) (.const (.bool .true)) (.tmp 12)), .none⟩,
   ⟨(.some 14), (.mv (.tmp 13)), .none⟩,
   ⟨(.some 15), (.faddr 1 (.tmp 1)), (.some (14, .false))⟩,
   ⟨(.some 16), (.load .none (.tmp 15)), (.some (14, .false))⟩,
   ⟨(.some 17), (.len .false (.tmp 16)), (.some (14, .false))⟩,
   ⟨(.some 18), (.bin .gtr (.tmp 17) (.const (.int .i64 64))), (.some (14, .false))⟩,
   ⟨(.some 19), (.pick (.tmp 14) (.const (.bool .true)) (.tmp 18)), .none⟩]
def f27g2 : List RO :=
  [⟨(.some 2), (.mv (.const (.bool .false))), .none⟩]
def f27g3 : List RO :=
  [⟨(.some 20), (.faddr 0 (.tmp 1)), .none⟩,
   ⟨(.some 21), (.load .none (.tmp 20)), .none⟩,
   ⟨(.some 3), (.mv (.tmp 21)), .none⟩]
def f27g4 : List RO :=
  [⟨(.some 4), (.mv (.const (.int .i64 0))), .none⟩]
def f27g5 : List RO :=
  [⟨(.some 22), (.mv (.tmp 4)), .none⟩,
   ⟨(.some 23), (.faddr 1 (.tmp 1)), .none⟩,
   ⟨(.some 24), (.load .none (.tmp 23)), .none⟩,
   ⟨(.some 25), (.len .false (.tmp 24)), .none⟩,
   ⟨(.some 26), (.bin .lss (.tmp 22) (.tmp 25)), .none⟩]
def f27g6 : List RO :=
  [⟨(.some 29), (.faddr 1 (.tmp 1)), .none⟩,
   ⟨(.some 30), (.load .none (.tmp 29)), .none⟩,
   ⟨(.some 31), (.mv (.tmp 4)), .none⟩,
   ⟨(.some 32), (.iaddr 3 (.tmp 30) (.tmp 31)), .none⟩,
   ⟨(.some 33), (.load (.some 3) (.tmp 32)), .none⟩,
   ⟨(.some 5), (.new [(.D (.B .false)), (.D (.I .i64 0)), (.D (.S []))]), .none⟩,
   ⟨.none, (.store 3 (.tmp 5) (.tmp 33)), .none⟩]
def f27g7 : List RO :=
  [⟨(.some 34), (.faddr 0 (.tmp 5)), .none⟩,
   ⟨(.some 35), (.load .none (.tmp 34)), .none⟩,
   ⟨(.some 36), (.mv (.tmp 35)), .none⟩,
   ⟨(.some 37), (.faddr 1 (.tmp 5)), (.some (36, .false))⟩,
   ⟨(.some 38), (.load .none (.tmp 37)), (.some (36, .false))⟩,
   ⟨(.some 39), (.mv (.tmp 3)), (.some (36, .false))⟩,
   ⟨(.some 40), (.bin .leq (.tmp 38) (.tmp 39)), (.some (36, .false))⟩,
   ⟨(.some 41), (.pick (.tmp 36) (.const (.bool .true)) (.tmp 40)), .none⟩,
   ⟨(.some 42), (.mv (.tmp 41)), .none⟩,
   ⟨(.some 43), (.faddr 1 (.tmp 5)), (.some (42, .false))⟩,
   ⟨(.some 44), (.load .none (.tmp 43)), (.some (42, .false))⟩,
   ⟨(.some 45), (.bin .gtr (.tmp 44) (.const (.int .i64 2199023255552))), (.some (42, .false))⟩,
   ⟨(.some 46), (.pick (.tmp 42) (.const (.bool .true)) (.tmp 45)), .none⟩,
   ⟨(.some 47), (.mv (.tmp 46)), .none⟩,
   ⟨(.some 48), (.faddr 2 (.tmp 5)), (.some (47, .false))⟩,
   ⟨(.some 49), (.load .none (.tmp 48)), (.some (47, .false))⟩,
   ⟨(.some 50), (.len .true (.tmp 49)), (.some (47, .false))⟩,
   ⟨(.some 51), (.bin .gtr (.tmp 50) (.const (.int .i64 65536))), (.some (47, .false))⟩,
   ⟨(.some 52), (.pick (.tmp 47) (.const (.bool .true)) (.tmp 51)), .none⟩]
def f27g8 : List RO :=
  [⟨(.some 2), (.mv (.const (.bool .false))), .none⟩]
def f27g9 : List RO :=
  [⟨(.some 53), (.faddr 1 (.tmp 5)), .none⟩,
   ⟨(.some 54), (.load .none (.tmp 53)), .none⟩,
   ⟨(.some 3), (.mv (.tmp 54)), .none⟩]
def f27g10 : List RO :=
  [⟨(.some 27), (.mv (.tmp 4)), .none⟩,
   ⟨(.some 28), (.bin .add (.tmp 27) (.const (.int .i64 1))), .none⟩,
   ⟨(.some 4), (.mv (.tmp 28)), .none⟩]
def f27b11 : RCode := (.seq (.seq (.reg .false f27g5) (.cond (.tmp 26) .skip (.exit 0))) (.seq (.block 1 (.seq (.reg .false f27g6) (.seq (.seq (.reg .false f27g7) (.cond (.tmp 52) (.seq (.reg .false f27g8) .ret) .skip)) (.reg .false f27g9)))) (.reg .false f27g10)))
def f27g12 : List RO :=
  [⟨(.some 2), (.mv (.const (.bool .true))), .none⟩]
def f27c : RCode := (.seq (.reg .false f27g0) (.seq (.seq (.reg .false f27g1) (.cond (.tmp 19) (.seq (.reg .false f27g2) .ret) .skip)) (.seq (.reg .false f27g3) (.seq (.seq (.reg .false f27g4) (.block 0 (.loop f27b11))) (.seq (.reg .false f27g12) .ret)))))
def f27r : List RRes := [(.tmp 2)]
attribute [push_cast] f27g0 f27g1 f27g2 f27g3 f27g4 f27g5 f27g6 f27g7 f27g8 f27g9 f27g10 f27g12
def L27_0 (N : Nat) (p0 : Inbox) : Nat → Int → Int → Option Bool
  | 0, _, _ => none
  | m1+1, a1, a2 => if? (decide (a2 < (p0.Ahead.length : Int))) (get? p0.Ahead (a2) fun x3 => if? (x3.Sum) (some (false)) (if? (decide (x3.Seq ≤ a1)) (some (false)) (if? (decide (x3.Seq > 2199023255552)) (some (false)) (if? (decide ((x3.Body.length : Int) > 65536)) (some (false)) (ck .i64 (a2 + 1) (L27_0 N p0 m1 x3.Seq (a2 + 1))))))) (some (true))
def I27_0 (N : Nat) (p0 : Inbox) (r : Bool) (n : Nat) (s : AState) : Prop := ∃ (a1 : Int) (a2 : Int), L27_0 N p0 n a1 a2 = some r ∧ s = ⟨envL [(1, .ptr (.O 0) 0), (3, .D (.I .i64 a1)), (4, .D (.I .i64 a2))], ownL [], ownL [some (.box [.D (.I .i64 p0.Next), .D (.L (p0.Ahead.map Frame.row))])], 1⟩
def F27 (N : Nat) (p0 : Inbox) : Option Bool := if? (decide (p0.Next < 0)) (some (false)) (if? (decide (p0.Next > 2199023255552)) (some (false)) (if? (decide ((p0.Ahead.length : Int) > 64)) (some (false)) (L27_0 N p0 N p0.Next 0)))
theorem c27 (N : Nat) (p0 : Inbox) (r : Bool) (h : F27 N p0 = some r) : ACall Try.prog 27 [.agg [.D (.I .i64 p0.Next), .D (.L (p0.Ahead.map Frame.row))]] [] (.D (.B r)) [] [] := by
  refine ACall.of_bodyW [] (fn := Try.f27) (rc := f27c) (rs := f27r) Try.func27 rfl rfl (by kernel_rfl) (by kernel_rfl) (by kernel_rfl) (by rw [Try.ntmps27]; simp) ?_
  unfold F27 at h
  unfold f27c f27r
  rw [entry_eq _ _]
  rcases F_if h with ⟨h343, h⟩ | ⟨h343, h⟩
  · try simp (disch := first | assumption | (simp; done) | omega | (simp; omega)) only [push_cast, reduceCtorEq, Nat.reduceEqDiff, Nat.reduceAdd, Nat.reduceSub, Nat.reduceMul, Nat.reduceLeDiff, Nat.reduceLT, Int.reduceEq, Int.reduceNe, Int.reduceLT, Int.reduceLE, Int.reduceGT, Int.reduceGE, Int.reduceBEq, Int.reduceBNe, ↓reduceIte] at h343
    obtain rfl := Option.some.inj h
    simp (config := { maxSteps := 1000000 }) (disch := first | assumption | (simp; done) | omega | (simp; omega)) only [push_cast, reduceCtorEq, Nat.reduceEqDiff, Nat.reduceAdd, Nat.reduceSub, Nat.reduceMul, Nat.reduceLeDiff, Nat.reduceLT, Int.reduceEq, Int.reduceNe, Int.reduceLT, Int.reduceLE, Int.reduceGT, Int.reduceGE, Int.reduceBEq, Int.reduceBNe, ↓reduceIte, h343]
    refine e_ret (.inr rfl) ?_
    simp (config := { maxSteps := 1000000 }) (disch := first | assumption | (simp; done) | omega | (simp; omega)) only [push_cast, reduceCtorEq, Nat.reduceEqDiff, Nat.reduceAdd, Nat.reduceSub, Nat.reduceMul, Nat.reduceLeDiff, Nat.reduceLT, Int.reduceEq, Int.reduceNe, Int.reduceLT, Int.reduceLE, Int.reduceGT, Int.reduceGE, Int.reduceBEq, Int.reduceBNe, ↓reduceIte, aret, aresults, aresult, h343]
    refine ⟨_, rfl, ?_⟩
    first | (simp (config := { maxSteps := 1000000 }) (disch := first | assumption | (simp; done) | omega | (simp; omega)) only [push_cast, reduceCtorEq, Nat.reduceEqDiff, Nat.reduceAdd, Nat.reduceSub, Nat.reduceMul, Nat.reduceLeDiff, Nat.reduceLT, Int.reduceEq, Int.reduceNe, Int.reduceLT, Int.reduceLE, Int.reduceGT, Int.reduceGE, Int.reduceBEq, Int.reduceBNe, ↓reduceIte, h343] <;> rfl) | rfl
  · try simp (disch := first | assumption | (simp; done) | omega | (simp; omega)) only [push_cast, reduceCtorEq, Nat.reduceEqDiff, Nat.reduceAdd, Nat.reduceSub, Nat.reduceMul, Nat.reduceLeDiff, Nat.reduceLT, Int.reduceEq, Int.reduceNe, Int.reduceLT, Int.reduceLE, Int.reduceGT, Int.reduceGE, Int.reduceBEq, Int.reduceBNe, ↓reduceIte] at h343
    rcases F_if h with ⟨h344, h⟩ | ⟨h344, h⟩
    · try simp (disch := first | assumption | (simp; done) | omega | (simp; omega)) only [push_cast, reduceCtorEq, Nat.reduceEqDiff, Nat.reduceAdd, Nat.reduceSub, Nat.reduceMul, Nat.reduceLeDiff, Nat.reduceLT, Int.reduceEq, Int.reduceNe, Int.reduceLT, Int.reduceLE, Int.reduceGT, Int.reduceGE, Int.reduceBEq, Int.reduceBNe, ↓reduceIte] at h344
      obtain rfl := Option.some.inj h
      simp (config := { maxSteps := 1000000 }) (disch := first | assumption | (simp; done) | omega | (simp; omega)) only [push_cast, reduceCtorEq, Nat.reduceEqDiff, Nat.reduceAdd, Nat.reduceSub, Nat.reduceMul, Nat.reduceLeDiff, Nat.reduceLT, Int.reduceEq, Int.reduceNe, Int.reduceLT, Int.reduceLE, Int.reduceGT, Int.reduceGE, Int.reduceBEq, Int.reduceBNe, ↓reduceIte, h343, h344]
      refine e_ret (.inr rfl) ?_
      simp (config := { maxSteps := 1000000 }) (disch := first | assumption | (simp; done) | omega | (simp; omega)) only [push_cast, reduceCtorEq, Nat.reduceEqDiff, Nat.reduceAdd, Nat.reduceSub, Nat.reduceMul, Nat.reduceLeDiff, Nat.reduceLT, Int.reduceEq, Int.reduceNe, Int.reduceLT, Int.reduceLE, Int.reduceGT, Int.reduceGE, Int.reduceBEq, Int.reduceBNe, ↓reduceIte, aret, aresults, aresult, h343, h344]
      refine ⟨_, rfl, ?_⟩
      first | (simp (config := { maxSteps := 1000000 }) (disch := first | assumption | (simp; done) | omega | (simp; omega)) only [push_cast, reduceCtorEq, Nat.reduceEqDiff, Nat.reduceAdd, Nat.reduceSub, Nat.reduceMul, Nat.reduceLeDiff, Nat.reduceLT, Int.reduceEq, Int.reduceNe, Int.reduceLT, Int.reduceLE, Int.reduceGT, Int.reduceGE, Int.reduceBEq, Int.reduceBNe, ↓reduceIte, h343, h344] <;> rfl) | rfl
    · try simp (disch := first | assumption | (simp; done) | omega | (simp; omega)) only [push_cast, reduceCtorEq, Nat.reduceEqDiff, Nat.reduceAdd, Nat.reduceSub, Nat.reduceMul, Nat.reduceLeDiff, Nat.reduceLT, Int.reduceEq, Int.reduceNe, Int.reduceLT, Int.reduceLE, Int.reduceGT, Int.reduceGE, Int.reduceBEq, Int.reduceBNe, ↓reduceIte] at h344
      rcases F_if h with ⟨h345, h⟩ | ⟨h345, h⟩
      · try simp (disch := first | assumption | (simp; done) | omega | (simp; omega)) only [push_cast, reduceCtorEq, Nat.reduceEqDiff, Nat.reduceAdd, Nat.reduceSub, Nat.reduceMul, Nat.reduceLeDiff, Nat.reduceLT, Int.reduceEq, Int.reduceNe, Int.reduceLT, Int.reduceLE, Int.reduceGT, Int.reduceGE, Int.reduceBEq, Int.reduceBNe, ↓reduceIte] at h345
        obtain rfl := Option.some.inj h
        simp (config := { maxSteps := 1000000 }) (disch := first | assumption | (simp; done) | omega | (simp; omega)) only [push_cast, reduceCtorEq, Nat.reduceEqDiff, Nat.reduceAdd, Nat.reduceSub, Nat.reduceMul, Nat.reduceLeDiff, Nat.reduceLT, Int.reduceEq, Int.reduceNe, Int.reduceLT, Int.reduceLE, Int.reduceGT, Int.reduceGE, Int.reduceBEq, Int.reduceBNe, ↓reduceIte, h343, h344, h345]
        refine e_ret (.inr rfl) ?_
        simp (config := { maxSteps := 1000000 }) (disch := first | assumption | (simp; done) | omega | (simp; omega)) only [push_cast, reduceCtorEq, Nat.reduceEqDiff, Nat.reduceAdd, Nat.reduceSub, Nat.reduceMul, Nat.reduceLeDiff, Nat.reduceLT, Int.reduceEq, Int.reduceNe, Int.reduceLT, Int.reduceLE, Int.reduceGT, Int.reduceGE, Int.reduceBEq, Int.reduceBNe, ↓reduceIte, aret, aresults, aresult, h343, h344, h345]
        refine ⟨_, rfl, ?_⟩
        first | (simp (config := { maxSteps := 1000000 }) (disch := first | assumption | (simp; done) | omega | (simp; omega)) only [push_cast, reduceCtorEq, Nat.reduceEqDiff, Nat.reduceAdd, Nat.reduceSub, Nat.reduceMul, Nat.reduceLeDiff, Nat.reduceLT, Int.reduceEq, Int.reduceNe, Int.reduceLT, Int.reduceLE, Int.reduceGT, Int.reduceGE, Int.reduceBEq, Int.reduceBNe, ↓reduceIte, h343, h344, h345] <;> rfl) | rfl
      · try simp (disch := first | assumption | (simp; done) | omega | (simp; omega)) only [push_cast, reduceCtorEq, Nat.reduceEqDiff, Nat.reduceAdd, Nat.reduceSub, Nat.reduceMul, Nat.reduceLeDiff, Nat.reduceLT, Int.reduceEq, Int.reduceNe, Int.reduceLT, Int.reduceLE, Int.reduceGT, Int.reduceGE, Int.reduceBEq, Int.reduceBNe, ↓reduceIte] at h345
        simp (config := { maxSteps := 1000000 }) (disch := first | assumption | (simp; done) | omega | (simp; omega)) only [push_cast, reduceCtorEq, Nat.reduceEqDiff, Nat.reduceAdd, Nat.reduceSub, Nat.reduceMul, Nat.reduceLeDiff, Nat.reduceLT, Int.reduceEq, Int.reduceNe, Int.reduceLT, Int.reduceLE, Int.reduceGT, Int.reduceGE, Int.reduceBEq, Int.reduceBNe, ↓reduceIte, h343, h344, h345]
        refine loop_of (I27_0 N p0 _) N [1, 3, 4] [0] (by decide) ⟨p0.Next, 0, h, ?_⟩ ?_
        · rw [wk_mk]
          simp (config := { maxSteps := 1000000 }) (disch := first | assumption | (simp; done) | omega | (simp; omega)) only [push_cast, reduceCtorEq, Nat.reduceEqDiff, Nat.reduceAdd, Nat.reduceSub, Nat.reduceMul, Nat.reduceLeDiff, Nat.reduceLT, Int.reduceEq, Int.reduceNe, Int.reduceLT, Int.reduceLE, Int.reduceGT, Int.reduceGE, Int.reduceBEq, Int.reduceBNe, ↓reduceIte, h343, h344, h345] <;> rfl
        · rintro n s ⟨a1, a2, h, rfl⟩
          cases n with
          | zero => exact absurd h (by simp [L27_0])
          | succ m1 =>
            rw [L27_0] at h
            unfold f27b11
            rcases F_if h with ⟨h346, h⟩ | ⟨h346, h⟩
            · try simp (disch := first | assumption | (simp; done) | omega | (simp; omega)) only [push_cast, reduceCtorEq, Nat.reduceEqDiff, Nat.reduceAdd, Nat.reduceSub, Nat.reduceMul, Nat.reduceLeDiff, Nat.reduceLT, Int.reduceEq, Int.reduceNe, Int.reduceLT, Int.reduceLE, Int.reduceGT, Int.reduceGE, Int.reduceBEq, Int.reduceBNe, ↓reduceIte] at h346
              obtain ⟨x3, h347, h348, h⟩ := F_get h
              have h350 := get_lt h347 h348
              have h349 := map_get Frame.row h348
              try simp (disch := first | assumption | (simp; done) | omega | (simp; omega)) only [push_cast, reduceCtorEq, Nat.reduceEqDiff, Nat.reduceAdd, Nat.reduceSub, Nat.reduceMul, Nat.reduceLeDiff, Nat.reduceLT, Int.reduceEq, Int.reduceNe, Int.reduceLT, Int.reduceLE, Int.reduceGT, Int.reduceGE, Int.reduceBEq, Int.reduceBNe, ↓reduceIte] at h349
              try simp (disch := first | assumption | (simp; done) | omega | (simp; omega)) only [push_cast, reduceCtorEq, Nat.reduceEqDiff, Nat.reduceAdd, Nat.reduceSub, Nat.reduceMul, Nat.reduceLeDiff, Nat.reduceLT, Int.reduceEq, Int.reduceNe, Int.reduceLT, Int.reduceLE, Int.reduceGT, Int.reduceGE, Int.reduceBEq, Int.reduceBNe, ↓reduceIte] at h350
              rcases F_if h with ⟨h351, h⟩ | ⟨h351, h⟩
              · try simp (disch := first | assumption | (simp; done) | omega | (simp; omega)) only [push_cast, reduceCtorEq, Nat.reduceEqDiff, Nat.reduceAdd, Nat.reduceSub, Nat.reduceMul, Nat.reduceLeDiff, Nat.reduceLT, Int.reduceEq, Int.reduceNe, Int.reduceLT, Int.reduceLE, Int.reduceGT, Int.reduceGE, Int.reduceBEq, Int.reduceBNe, ↓reduceIte] at h351
                obtain rfl := Option.some.inj h
                simp (config := { maxSteps := 1000000 }) (disch := first | assumption | (simp; done) | omega | (simp; omega)) only [push_cast, reduceCtorEq, Nat.reduceEqDiff, Nat.reduceAdd, Nat.reduceSub, Nat.reduceMul, Nat.reduceLeDiff, Nat.reduceLT, Int.reduceEq, Int.reduceNe, Int.reduceLT, Int.reduceLE, Int.reduceGT, Int.reduceGE, Int.reduceBEq, Int.reduceBNe, ↓reduceIte, h343, h344, h345, h346, h347, h349, h350, h351]
                refine e_ret (.inr rfl) ?_
                simp (config := { maxSteps := 1000000 }) (disch := first | assumption | (simp; done) | omega | (simp; omega)) only [push_cast, reduceCtorEq, Nat.reduceEqDiff, Nat.reduceAdd, Nat.reduceSub, Nat.reduceMul, Nat.reduceLeDiff, Nat.reduceLT, Int.reduceEq, Int.reduceNe, Int.reduceLT, Int.reduceLE, Int.reduceGT, Int.reduceGE, Int.reduceBEq, Int.reduceBNe, ↓reduceIte, aret, aresults, aresult, h343, h344, h345, h346, h347, h349, h350, h351]
                refine ⟨_, rfl, ?_⟩
                first | (simp (config := { maxSteps := 1000000 }) (disch := first | assumption | (simp; done) | omega | (simp; omega)) only [push_cast, reduceCtorEq, Nat.reduceEqDiff, Nat.reduceAdd, Nat.reduceSub, Nat.reduceMul, Nat.reduceLeDiff, Nat.reduceLT, Int.reduceEq, Int.reduceNe, Int.reduceLT, Int.reduceLE, Int.reduceGT, Int.reduceGE, Int.reduceBEq, Int.reduceBNe, ↓reduceIte, h343, h344, h345, h346, h347, h349, h350, h351] <;> rfl) | rfl
              · try simp (disch := first | assumption | (simp; done) | omega | (simp; omega)) only [push_cast, reduceCtorEq, Nat.reduceEqDiff, Nat.reduceAdd, Nat.reduceSub, Nat.reduceMul, Nat.reduceLeDiff, Nat.reduceLT, Int.reduceEq, Int.reduceNe, Int.reduceLT, Int.reduceLE, Int.reduceGT, Int.reduceGE, Int.reduceBEq, Int.reduceBNe, ↓reduceIte] at h351
                rcases F_if h with ⟨h352, h⟩ | ⟨h352, h⟩
                · try simp (disch := first | assumption | (simp; done) | omega | (simp; omega)) only [push_cast, reduceCtorEq, Nat.reduceEqDiff, Nat.reduceAdd, Nat.reduceSub, Nat.reduceMul, Nat.reduceLeDiff, Nat.reduceLT, Int.reduceEq, Int.reduceNe, Int.reduceLT, Int.reduceLE, Int.reduceGT, Int.reduceGE, Int.reduceBEq, Int.reduceBNe, ↓reduceIte] at h352
                  obtain rfl := Option.some.inj h
                  simp (config := { maxSteps := 1000000 }) (disch := first | assumption | (simp; done) | omega | (simp; omega)) only [push_cast, reduceCtorEq, Nat.reduceEqDiff, Nat.reduceAdd, Nat.reduceSub, Nat.reduceMul, Nat.reduceLeDiff, Nat.reduceLT, Int.reduceEq, Int.reduceNe, Int.reduceLT, Int.reduceLE, Int.reduceGT, Int.reduceGE, Int.reduceBEq, Int.reduceBNe, ↓reduceIte, h343, h344, h345, h346, h347, h349, h350, h351, h352]
                  refine e_ret (.inr rfl) ?_
                  simp (config := { maxSteps := 1000000 }) (disch := first | assumption | (simp; done) | omega | (simp; omega)) only [push_cast, reduceCtorEq, Nat.reduceEqDiff, Nat.reduceAdd, Nat.reduceSub, Nat.reduceMul, Nat.reduceLeDiff, Nat.reduceLT, Int.reduceEq, Int.reduceNe, Int.reduceLT, Int.reduceLE, Int.reduceGT, Int.reduceGE, Int.reduceBEq, Int.reduceBNe, ↓reduceIte, aret, aresults, aresult, h343, h344, h345, h346, h347, h349, h350, h351, h352]
                  refine ⟨_, rfl, ?_⟩
                  first | (simp (config := { maxSteps := 1000000 }) (disch := first | assumption | (simp; done) | omega | (simp; omega)) only [push_cast, reduceCtorEq, Nat.reduceEqDiff, Nat.reduceAdd, Nat.reduceSub, Nat.reduceMul, Nat.reduceLeDiff, Nat.reduceLT, Int.reduceEq, Int.reduceNe, Int.reduceLT, Int.reduceLE, Int.reduceGT, Int.reduceGE, Int.reduceBEq, Int.reduceBNe, ↓reduceIte, h343, h344, h345, h346, h347, h349, h350, h351, h352] <;> rfl) | rfl
                · try simp (disch := first | assumption | (simp; done) | omega | (simp; omega)) only [push_cast, reduceCtorEq, Nat.reduceEqDiff, Nat.reduceAdd, Nat.reduceSub, Nat.reduceMul, Nat.reduceLeDiff, Nat.reduceLT, Int.reduceEq, Int.reduceNe, Int.reduceLT, Int.reduceLE, Int.reduceGT, Int.reduceGE, Int.reduceBEq, Int.reduceBNe, ↓reduceIte] at h352
                  rcases F_if h with ⟨h353, h⟩ | ⟨h353, h⟩
                  · try simp (disch := first | assumption | (simp; done) | omega | (simp; omega)) only [push_cast, reduceCtorEq, Nat.reduceEqDiff, Nat.reduceAdd, Nat.reduceSub, Nat.reduceMul, Nat.reduceLeDiff, Nat.reduceLT, Int.reduceEq, Int.reduceNe, Int.reduceLT, Int.reduceLE, Int.reduceGT, Int.reduceGE, Int.reduceBEq, Int.reduceBNe, ↓reduceIte] at h353
                    obtain rfl := Option.some.inj h
                    simp (config := { maxSteps := 1000000 }) (disch := first | assumption | (simp; done) | omega | (simp; omega)) only [push_cast, reduceCtorEq, Nat.reduceEqDiff, Nat.reduceAdd, Nat.reduceSub, Nat.reduceMul, Nat.reduceLeDiff, Nat.reduceLT, Int.reduceEq, Int.reduceNe, Int.reduceLT, Int.reduceLE, Int.reduceGT, Int.reduceGE, Int.reduceBEq, Int.reduceBNe, ↓reduceIte, h343, h344, h345, h346, h347, h349, h350, h351, h352, h353]
                    refine e_ret (.inr rfl) ?_
                    simp (config := { maxSteps := 1000000 }) (disch := first | assumption | (simp; done) | omega | (simp; omega)) only [push_cast, reduceCtorEq, Nat.reduceEqDiff, Nat.reduceAdd, Nat.reduceSub, Nat.reduceMul, Nat.reduceLeDiff, Nat.reduceLT, Int.reduceEq, Int.reduceNe, Int.reduceLT, Int.reduceLE, Int.reduceGT, Int.reduceGE, Int.reduceBEq, Int.reduceBNe, ↓reduceIte, aret, aresults, aresult, h343, h344, h345, h346, h347, h349, h350, h351, h352, h353]
                    refine ⟨_, rfl, ?_⟩
                    first | (simp (config := { maxSteps := 1000000 }) (disch := first | assumption | (simp; done) | omega | (simp; omega)) only [push_cast, reduceCtorEq, Nat.reduceEqDiff, Nat.reduceAdd, Nat.reduceSub, Nat.reduceMul, Nat.reduceLeDiff, Nat.reduceLT, Int.reduceEq, Int.reduceNe, Int.reduceLT, Int.reduceLE, Int.reduceGT, Int.reduceGE, Int.reduceBEq, Int.reduceBNe, ↓reduceIte, h343, h344, h345, h346, h347, h349, h350, h351, h352, h353] <;> rfl) | rfl
                  · try simp (disch := first | assumption | (simp; done) | omega | (simp; omega)) only [push_cast, reduceCtorEq, Nat.reduceEqDiff, Nat.reduceAdd, Nat.reduceSub, Nat.reduceMul, Nat.reduceLeDiff, Nat.reduceLT, Int.reduceEq, Int.reduceNe, Int.reduceLT, Int.reduceLE, Int.reduceGT, Int.reduceGE, Int.reduceBEq, Int.reduceBNe, ↓reduceIte] at h353
                    rcases F_if h with ⟨h354, h⟩ | ⟨h354, h⟩
                    · try simp (disch := first | assumption | (simp; done) | omega | (simp; omega)) only [push_cast, reduceCtorEq, Nat.reduceEqDiff, Nat.reduceAdd, Nat.reduceSub, Nat.reduceMul, Nat.reduceLeDiff, Nat.reduceLT, Int.reduceEq, Int.reduceNe, Int.reduceLT, Int.reduceLE, Int.reduceGT, Int.reduceGE, Int.reduceBEq, Int.reduceBNe, ↓reduceIte] at h354
                      obtain rfl := Option.some.inj h
                      simp (config := { maxSteps := 1000000 }) (disch := first | assumption | (simp; done) | omega | (simp; omega)) only [push_cast, reduceCtorEq, Nat.reduceEqDiff, Nat.reduceAdd, Nat.reduceSub, Nat.reduceMul, Nat.reduceLeDiff, Nat.reduceLT, Int.reduceEq, Int.reduceNe, Int.reduceLT, Int.reduceLE, Int.reduceGT, Int.reduceGE, Int.reduceBEq, Int.reduceBNe, ↓reduceIte, h343, h344, h345, h346, h347, h349, h350, h351, h352, h353, h354]
                      refine e_ret (.inr rfl) ?_
                      simp (config := { maxSteps := 1000000 }) (disch := first | assumption | (simp; done) | omega | (simp; omega)) only [push_cast, reduceCtorEq, Nat.reduceEqDiff, Nat.reduceAdd, Nat.reduceSub, Nat.reduceMul, Nat.reduceLeDiff, Nat.reduceLT, Int.reduceEq, Int.reduceNe, Int.reduceLT, Int.reduceLE, Int.reduceGT, Int.reduceGE, Int.reduceBEq, Int.reduceBNe, ↓reduceIte, aret, aresults, aresult, h343, h344, h345, h346, h347, h349, h350, h351, h352, h353, h354]
                      refine ⟨_, rfl, ?_⟩
                      first | (simp (config := { maxSteps := 1000000 }) (disch := first | assumption | (simp; done) | omega | (simp; omega)) only [push_cast, reduceCtorEq, Nat.reduceEqDiff, Nat.reduceAdd, Nat.reduceSub, Nat.reduceMul, Nat.reduceLeDiff, Nat.reduceLT, Int.reduceEq, Int.reduceNe, Int.reduceLT, Int.reduceLE, Int.reduceGT, Int.reduceGE, Int.reduceBEq, Int.reduceBNe, ↓reduceIte, h343, h344, h345, h346, h347, h349, h350, h351, h352, h353, h354] <;> rfl) | rfl
                    · try simp (disch := first | assumption | (simp; done) | omega | (simp; omega)) only [push_cast, reduceCtorEq, Nat.reduceEqDiff, Nat.reduceAdd, Nat.reduceSub, Nat.reduceMul, Nat.reduceLeDiff, Nat.reduceLT, Int.reduceEq, Int.reduceNe, Int.reduceLT, Int.reduceLE, Int.reduceGT, Int.reduceGE, Int.reduceBEq, Int.reduceBNe, ↓reduceIte] at h354
                      obtain ⟨h355, h⟩ := F_ck h
                      try simp (disch := first | assumption | (simp; done) | omega | (simp; omega)) only [push_cast, reduceCtorEq, Nat.reduceEqDiff, Nat.reduceAdd, Nat.reduceSub, Nat.reduceMul, Nat.reduceLeDiff, Nat.reduceLT, Int.reduceEq, Int.reduceNe, Int.reduceLT, Int.reduceLE, Int.reduceGT, Int.reduceGE, Int.reduceBEq, Int.reduceBNe, ↓reduceIte] at h355
                      simp (config := { maxSteps := 1000000 }) (disch := first | assumption | (simp; done) | omega | (simp; omega)) only [push_cast, reduceCtorEq, Nat.reduceEqDiff, Nat.reduceAdd, Nat.reduceSub, Nat.reduceMul, Nat.reduceLeDiff, Nat.reduceLT, Int.reduceEq, Int.reduceNe, Int.reduceLT, Int.reduceLE, Int.reduceGT, Int.reduceGE, Int.reduceBEq, Int.reduceBNe, ↓reduceIte, h343, h344, h345, h346, h347, h349, h350, h351, h352, h353, h354, h355]
                      refine lpK_of m1 [1, 3, 4] [0] (by omega) (by decide) ⟨x3.Seq, (a2 + 1), h, ?_⟩
                      rw [wk_mk]
                      simp (config := { maxSteps := 1000000 }) (disch := first | assumption | (simp; done) | omega | (simp; omega)) only [push_cast, reduceCtorEq, Nat.reduceEqDiff, Nat.reduceAdd, Nat.reduceSub, Nat.reduceMul, Nat.reduceLeDiff, Nat.reduceLT, Int.reduceEq, Int.reduceNe, Int.reduceLT, Int.reduceLE, Int.reduceGT, Int.reduceGE, Int.reduceBEq, Int.reduceBNe, ↓reduceIte, h343, h344, h345, h346, h347, h349, h350, h351, h352, h353, h354, h355] <;> rfl
            · try simp (disch := first | assumption | (simp; done) | omega | (simp; omega)) only [push_cast, reduceCtorEq, Nat.reduceEqDiff, Nat.reduceAdd, Nat.reduceSub, Nat.reduceMul, Nat.reduceLeDiff, Nat.reduceLT, Int.reduceEq, Int.reduceNe, Int.reduceLT, Int.reduceLE, Int.reduceGT, Int.reduceGE, Int.reduceBEq, Int.reduceBNe, ↓reduceIte] at h346
              obtain rfl := Option.some.inj h
              simp (config := { maxSteps := 1000000 }) (disch := first | assumption | (simp; done) | omega | (simp; omega)) only [push_cast, reduceCtorEq, Nat.reduceEqDiff, Nat.reduceAdd, Nat.reduceSub, Nat.reduceMul, Nat.reduceLeDiff, Nat.reduceLT, Int.reduceEq, Int.reduceNe, Int.reduceLT, Int.reduceLE, Int.reduceGT, Int.reduceGE, Int.reduceBEq, Int.reduceBNe, ↓reduceIte, h343, h344, h345, h346]
              refine e_ret (.inr rfl) ?_
              simp (config := { maxSteps := 1000000 }) (disch := first | assumption | (simp; done) | omega | (simp; omega)) only [push_cast, reduceCtorEq, Nat.reduceEqDiff, Nat.reduceAdd, Nat.reduceSub, Nat.reduceMul, Nat.reduceLeDiff, Nat.reduceLT, Int.reduceEq, Int.reduceNe, Int.reduceLT, Int.reduceLE, Int.reduceGT, Int.reduceGE, Int.reduceBEq, Int.reduceBNe, ↓reduceIte, aret, aresults, aresult, h343, h344, h345, h346]
              refine ⟨_, rfl, ?_⟩
              first | (simp (config := { maxSteps := 1000000 }) (disch := first | assumption | (simp; done) | omega | (simp; omega)) only [push_cast, reduceCtorEq, Nat.reduceEqDiff, Nat.reduceAdd, Nat.reduceSub, Nat.reduceMul, Nat.reduceLeDiff, Nat.reduceLT, Int.reduceEq, Int.reduceNe, Int.reduceLT, Int.reduceLE, Int.reduceGT, Int.reduceGE, Int.reduceBEq, Int.reduceBNe, ↓reduceIte, h343, h344, h345, h346] <;> rfl) | rfl

/-! ## 45 rivermark.rivermarkref11.insert -/
def f45g0 : List RO :=
  [⟨(.some 3), (.box (.tmp 1)), .none⟩,
   ⟨(.some 4), (.mv (.const (.slice .none 0 0))), .none⟩]
def f45g1 : List RO :=
  [⟨(.some 5), (.mv (.const (.slice .none 0 0))), .none⟩]
def f45g2 : List RO :=
  [⟨(.some 6), (.mv (.const (.bool .false))), .none⟩]
def f45g3 : List RO :=
  [⟨(.some 7), (.mv (.const (.int .i64 0))), .none⟩]
def f45g4 : List RO :=
  [⟨(.some 8), (.mv (.tmp 7)), .none⟩,
   ⟨(.some 9), (.mv (.tmp 0)), .none⟩,
   ⟨(.some 10), (.len .false (.tmp 9)), .none⟩,
   ⟨(.some 11), (.bin .lss (.tmp 8) (.tmp 10)), .none⟩]
def f45g5 : List RO :=
  [⟨(.some 14), (.mv (.tmp 0)), .none⟩,
   ⟨(.some 15), (.mv (.tmp 7)), .none⟩,
   ⟨(.some 16), (.iaddr 3 (.tmp 14) (.tmp 15)), .none⟩,
   ⟨(.some 17), (.faddr 1 (.tmp 16)), .none⟩,
   ⟨(.some 18), (.load .none (.tmp 17)), .none⟩,
   ⟨(.some 19), (.faddr 1 (.tmp 3)), .none⟩,
   ⟨(.some 20), (.load .none (.tmp 19)), .none⟩,
   ⟨(.some 21), (.bin .eql (.tmp 18) (.tmp 20)), .none⟩]
def f45g6 : List RO :=
  [⟨(.some 22), (.mv (.tmp 0)), .none⟩,
   ⟨(.some 4), (.mv (.tmp 22)), .none⟩]
def f45g7 : List RO :=
  [⟨(.some 23), (.mv (.tmp 6)), .none⟩,
   ⟨(.some 24), (.un .not (.tmp 23)), .none⟩,
   ⟨(.some 25), (.mv (.tmp 24)), .none⟩,
   ⟨(.some 26), (.faddr 1 (.tmp 3)), (.some (25, .true))⟩,
   ⟨(.some 27), (.load .none (.tmp 26)), (.some (25, .true))⟩,
   ⟨(.some 28), (.mv (.tmp 0)), (.some (25, .true))⟩,
   ⟨(.some 29), (.mv (.tmp 7)), (.some (25, .true))⟩,
   ⟨(.some 30), (.iaddr 3 (.tmp 28) (.tmp 29)), (.some (25, .true))⟩,
   ⟨(.some 31), (.faddr 1 (.tmp 30)), (.some (25, .true))⟩,
   ⟨(.some 32), (.load .none (.tmp 31)), (.some (25, .true))⟩,
   ⟨(.some 33), (.bin .lss (.tmp 27) (.tmp 32)), (.some (25, .true))⟩,
   ⟨(.some 34), (.pick (.tmp 25) (.tmp 33) (.const (.bool .false))), .none⟩]
def f45g8 : List RO :=
  [⟨(.some 35), (.mv (.tmp 5)), .none⟩,
   ⟨(.some 36), (.load (.some 3) (.tmp 3)), .none⟩,
   ⟨(.some 37), (.bslice 3 [(.tmp 36)]), .none⟩,
   ⟨(.some 38), (.appE 3 32 (.tmp 35) (.tmp 37)), .none⟩,
   ⟨(.some 5), (.mv (.tmp 38)), .none⟩]
def f45g9 : List RO :=
  [⟨(.some 6), (.mv (.const (.bool .true))), .none⟩]
def f45g10 : List RO :=
  [⟨(.some 39), (.mv (.tmp 5)), .none⟩,
   ⟨(.some 40), (.mv (.tmp 0)), .none⟩,
   ⟨(.some 41), (.mv (.tmp 7)), .none⟩,
   ⟨(.some 42), (.iaddr 3 (.tmp 40) (.tmp 41)), .none⟩,
   ⟨(.some 43), (.load (.some 3) (.tmp 42)), .none⟩,
   ⟨(.some 44), (.bslice 3 [(.tmp 43)]), .none⟩,
   ⟨(.some 45), (.appE 3 32 (.tmp 39) (.tmp 44)), .none⟩,
   ⟨(.some 5), (.mv (.tmp 45)), .none⟩]
def f45g11 : List RO :=
  [⟨(.some 12), (.mv (.tmp 7)), .none⟩,
   ⟨(.some 13), (.bin .add (.tmp 12) (.const (.int .i64 1))), .none⟩,
   ⟨(.some 7), (.mv (.tmp 13)), .none⟩]
def f45b12 : RCode := (.seq (.seq (.reg .false f45g4) (.cond (.tmp 11) .skip (.exit 0))) (.seq (.block 1 (.seq (.seq (.reg .true f45g5) (.cond (.tmp 21) (.seq (.reg .false f45g6) .ret) .skip)) (.seq (.seq (.reg .true f45g7) (.cond (.tmp 34) (.seq (.reg .false f45g8) (.reg .false f45g9)) .skip)) (.reg .false f45g10)))) (.reg .false f45g11)))
def f45g13 : List RO :=
  [⟨(.some 46), (.mv (.tmp 6)), .none⟩,
   ⟨(.some 47), (.un .not (.tmp 46)), .none⟩]
def f45g14 : List RO :=
  [⟨(.some 48), (.mv (.tmp 5)), .none⟩,
   ⟨(.some 49), (.load (.some 3) (.tmp 3)), .none⟩,
   ⟨(.some 50), (.bslice 3 [(.tmp 49)]), .none⟩,
   ⟨(.some 51), (.appE 3 32 (.tmp 48) (.tmp 50)), .none⟩,
   ⟨(.some 5), (.mv (.tmp 51)), .none⟩]
def f45g15 : List RO :=
  [⟨(.some 52), (.mv (.tmp 5)), .none⟩,
   ⟨(.some 4), (.mv (.tmp 52)), .none⟩]
def f45c : RCode := (.seq (.reg .false f45g0) (.seq (.reg .false f45g1) (.seq (.reg .false f45g2) (.seq (.seq (.reg .false f45g3) (.block 0 (.loop f45b12))) (.seq (.seq (.reg .false f45g13) (.cond (.tmp 47) (.reg .false f45g14) .skip)) (.seq (.reg .false f45g15) .ret))))))
def f45r : List RRes := [(.tmp 4)]
attribute [push_cast] f45g0 f45g1 f45g2 f45g3 f45g4 f45g5 f45g6 f45g7 f45g8 f45g9 f45g10 f45g11 f45g13 f45g14 f45g15
def L45_0 (N : Nat) (p0 : (List Frame)) (p1 : Frame) : Nat → Bool → Int → (List Frame) → Option (List Frame)
  | 0, _, _, _ => none
  | m1+1, a1, a2, a3 => if? (decide (a2 < (p0.length : Int))) (get? p0 (a2) fun x4 => if? ((x4.Seq == p1.Seq)) (some (p0)) (if? (a1) (gd? ((a3.length + [x4].length) * 32 ≤ 140737488355328) (ck .i64 (a2 + 1) (L45_0 N p0 p1 m1 a1 (a2 + 1) (a3 ++ [x4])))) (if? (decide (p1.Seq < x4.Seq)) (gd? ((a3.length + [p1].length) * 32 ≤ 140737488355328) (gd? (((a3 ++ [p1]).length + [x4].length) * 32 ≤ 140737488355328) (ck .i64 (a2 + 1) (L45_0 N p0 p1 m1 true (a2 + 1) ((a3 ++ [p1]) ++ [x4]))))) (gd? ((a3.length + [x4].length) * 32 ≤ 140737488355328) (ck .i64 (a2 + 1) (L45_0 N p0 p1 m1 a1 (a2 + 1) (a3 ++ [x4]))))))) (if? (a1) (some (a3)) (gd? ((a3.length + [p1].length) * 32 ≤ 140737488355328) (some ((a3 ++ [p1])))))
def I45_0 (N : Nat) (p0 : (List Frame)) (p1 : Frame) (r : (List Frame)) (n : Nat) (s : AState) : Prop := ∃ (a1 : Bool) (a2 : Int) (a3 : (List Frame)), L45_0 N p0 p1 n a1 a2 a3 = some r ∧ s = ⟨envL [(0, .D (.L (p0.map Frame.row))), (3, .ptr (.O 0) 0), (5, .sl (.O 1) 3 0 a3.length), (6, .D (.B a1)), (7, .D (.I .i64 a2))], ownL [], ownL [some (.box [.D (.B p1.Sum), .D (.I .i64 p1.Seq), .D (.S p1.Body)]), some (.row true 3 (a3.map Frame.row))], 2⟩
def F45 (N : Nat) (p0 : (List Frame)) (p1 : Frame) : Option (List Frame) := L45_0 N p0 p1 N false 0 []
theorem c45 (N : Nat) (p0 : (List Frame)) (p1 : Frame) (r : (List Frame)) (h : F45 N p0 p1 = some r) : ACall Try.prog 45 [.D (.L (p0.map Frame.row)), .agg [.D (.B p1.Sum), .D (.I .i64 p1.Seq), .D (.S p1.Body)]] [] (.D (.L (r.map Frame.row))) [] [] := by
  refine ACall.of_bodyW [38, 45, 51] (fn := Try.f45) (rc := f45c) (rs := f45r) Try.func45 rfl rfl (by kernel_rfl) (by kernel_rfl) (by kernel_rfl) (by rw [Try.ntmps45]; simp) ?_
  unfold F45 at h
  unfold f45c f45r
  rw [entry_eq _ _]
  simp (config := { maxSteps := 1000000 }) (disch := first | assumption | (simp; done) | omega | (simp; omega)) only [push_cast, reduceCtorEq, Nat.reduceEqDiff, Nat.reduceAdd, Nat.reduceSub, Nat.reduceMul, Nat.reduceLeDiff, Nat.reduceLT, Int.reduceEq, Int.reduceNe, Int.reduceLT, Int.reduceLE, Int.reduceGT, Int.reduceGE, Int.reduceBEq, Int.reduceBNe, ↓reduceIte]
  refine loop_own0 5 3 rfl ?_
  simp (config := { maxSteps := 1000000 }) (disch := first | assumption | (simp; done) | omega | (simp; omega)) only [push_cast, reduceCtorEq, Nat.reduceEqDiff, Nat.reduceAdd, Nat.reduceSub, Nat.reduceMul, Nat.reduceLeDiff, Nat.reduceLT, Int.reduceEq, Int.reduceNe, Int.reduceLT, Int.reduceLE, Int.reduceGT, Int.reduceGE, Int.reduceBEq, Int.reduceBNe, ↓reduceIte]
  refine loop_of (I45_0 N p0 p1 _) N [0, 3, 5, 6, 7] [0, 1] (by decide) ⟨false, 0, [], h, ?_⟩ ?_
  · rw [wk_mk]
    simp (config := { maxSteps := 1000000 }) (disch := first | assumption | (simp; done) | omega | (simp; omega)) only [push_cast, reduceCtorEq, Nat.reduceEqDiff, Nat.reduceAdd, Nat.reduceSub, Nat.reduceMul, Nat.reduceLeDiff, Nat.reduceLT, Int.reduceEq, Int.reduceNe, Int.reduceLT, Int.reduceLE, Int.reduceGT, Int.reduceGE, Int.reduceBEq, Int.reduceBNe, ↓reduceIte] <;> rfl
  · rintro n s ⟨a1, a2, a3, h, rfl⟩
    cases n with
    | zero => exact absurd h (by simp [L45_0])
    | succ m1 =>
      rw [L45_0] at h
      unfold f45b12
      rcases F_if h with ⟨h356, h⟩ | ⟨h356, h⟩
      · try simp (disch := first | assumption | (simp; done) | omega | (simp; omega)) only [push_cast, reduceCtorEq, Nat.reduceEqDiff, Nat.reduceAdd, Nat.reduceSub, Nat.reduceMul, Nat.reduceLeDiff, Nat.reduceLT, Int.reduceEq, Int.reduceNe, Int.reduceLT, Int.reduceLE, Int.reduceGT, Int.reduceGE, Int.reduceBEq, Int.reduceBNe, ↓reduceIte] at h356
        obtain ⟨x4, h357, h358, h⟩ := F_get h
        have h360 := get_lt h357 h358
        have h359 := map_get Frame.row h358
        try simp (disch := first | assumption | (simp; done) | omega | (simp; omega)) only [push_cast, reduceCtorEq, Nat.reduceEqDiff, Nat.reduceAdd, Nat.reduceSub, Nat.reduceMul, Nat.reduceLeDiff, Nat.reduceLT, Int.reduceEq, Int.reduceNe, Int.reduceLT, Int.reduceLE, Int.reduceGT, Int.reduceGE, Int.reduceBEq, Int.reduceBNe, ↓reduceIte] at h359
        try simp (disch := first | assumption | (simp; done) | omega | (simp; omega)) only [push_cast, reduceCtorEq, Nat.reduceEqDiff, Nat.reduceAdd, Nat.reduceSub, Nat.reduceMul, Nat.reduceLeDiff, Nat.reduceLT, Int.reduceEq, Int.reduceNe, Int.reduceLT, Int.reduceLE, Int.reduceGT, Int.reduceGE, Int.reduceBEq, Int.reduceBNe, ↓reduceIte] at h360
        rcases F_if h with ⟨h361, h⟩ | ⟨h361, h⟩
        · try simp (disch := first | assumption | (simp; done) | omega | (simp; omega)) only [push_cast, reduceCtorEq, Nat.reduceEqDiff, Nat.reduceAdd, Nat.reduceSub, Nat.reduceMul, Nat.reduceLeDiff, Nat.reduceLT, Int.reduceEq, Int.reduceNe, Int.reduceLT, Int.reduceLE, Int.reduceGT, Int.reduceGE, Int.reduceBEq, Int.reduceBNe, ↓reduceIte] at h361
          obtain rfl := Option.some.inj h
          simp (config := { maxSteps := 1000000 }) (disch := first | assumption | (simp; done) | omega | (simp; omega)) only [push_cast, reduceCtorEq, Nat.reduceEqDiff, Nat.reduceAdd, Nat.reduceSub, Nat.reduceMul, Nat.reduceLeDiff, Nat.reduceLT, Int.reduceEq, Int.reduceNe, Int.reduceLT, Int.reduceLE, Int.reduceGT, Int.reduceGE, Int.reduceBEq, Int.reduceBNe, ↓reduceIte, h356, h357, h359, h360, h361]
          refine e_ret (.inr rfl) ?_
          simp (config := { maxSteps := 1000000 }) (disch := first | assumption | (simp; done) | omega | (simp; omega)) only [push_cast, reduceCtorEq, Nat.reduceEqDiff, Nat.reduceAdd, Nat.reduceSub, Nat.reduceMul, Nat.reduceLeDiff, Nat.reduceLT, Int.reduceEq, Int.reduceNe, Int.reduceLT, Int.reduceLE, Int.reduceGT, Int.reduceGE, Int.reduceBEq, Int.reduceBNe, ↓reduceIte, aret, aresults, aresult, h356, h357, h359, h360, h361]
          refine ⟨_, rfl, ?_⟩
          first | (simp (config := { maxSteps := 1000000 }) (disch := first | assumption | (simp; done) | omega | (simp; omega)) only [push_cast, reduceCtorEq, Nat.reduceEqDiff, Nat.reduceAdd, Nat.reduceSub, Nat.reduceMul, Nat.reduceLeDiff, Nat.reduceLT, Int.reduceEq, Int.reduceNe, Int.reduceLT, Int.reduceLE, Int.reduceGT, Int.reduceGE, Int.reduceBEq, Int.reduceBNe, ↓reduceIte, h356, h357, h359, h360, h361] <;> rfl) | rfl
        · try simp (disch := first | assumption | (simp; done) | omega | (simp; omega)) only [push_cast, reduceCtorEq, Nat.reduceEqDiff, Nat.reduceAdd, Nat.reduceSub, Nat.reduceMul, Nat.reduceLeDiff, Nat.reduceLT, Int.reduceEq, Int.reduceNe, Int.reduceLT, Int.reduceLE, Int.reduceGT, Int.reduceGE, Int.reduceBEq, Int.reduceBNe, ↓reduceIte] at h361
          rcases F_if h with ⟨h362, h⟩ | ⟨h362, h⟩
          · try simp (disch := first | assumption | (simp; done) | omega | (simp; omega)) only [push_cast, reduceCtorEq, Nat.reduceEqDiff, Nat.reduceAdd, Nat.reduceSub, Nat.reduceMul, Nat.reduceLeDiff, Nat.reduceLT, Int.reduceEq, Int.reduceNe, Int.reduceLT, Int.reduceLE, Int.reduceGT, Int.reduceGE, Int.reduceBEq, Int.reduceBNe, ↓reduceIte] at h362
            obtain ⟨h363, h⟩ := F_gd h
            try simp (disch := first | assumption | (simp; done) | omega | (simp; omega)) only [push_cast, reduceCtorEq, Nat.reduceEqDiff, Nat.reduceAdd, Nat.reduceSub, Nat.reduceMul, Nat.reduceLeDiff, Nat.reduceLT, Int.reduceEq, Int.reduceNe, Int.reduceLT, Int.reduceLE, Int.reduceGT, Int.reduceGE, Int.reduceBEq, Int.reduceBNe, ↓reduceIte] at h363
            obtain ⟨h364, h⟩ := F_ck h
            try simp (disch := first | assumption | (simp; done) | omega | (simp; omega)) only [push_cast, reduceCtorEq, Nat.reduceEqDiff, Nat.reduceAdd, Nat.reduceSub, Nat.reduceMul, Nat.reduceLeDiff, Nat.reduceLT, Int.reduceEq, Int.reduceNe, Int.reduceLT, Int.reduceLE, Int.reduceGT, Int.reduceGE, Int.reduceBEq, Int.reduceBNe, ↓reduceIte] at h364
            simp (config := { maxSteps := 1000000 }) (disch := first | assumption | (simp; done) | omega | (simp; omega)) only [push_cast, reduceCtorEq, Nat.reduceEqDiff, Nat.reduceAdd, Nat.reduceSub, Nat.reduceMul, Nat.reduceLeDiff, Nat.reduceLT, Int.reduceEq, Int.reduceNe, Int.reduceLT, Int.reduceLE, Int.reduceGT, Int.reduceGE, Int.reduceBEq, Int.reduceBNe, ↓reduceIte, h356, h357, h359, h360, h361, h362, h363, h364]
            refine lpK_of m1 [0, 3, 5, 6, 7] [0, 3] (by omega) (by decide) ⟨a1, (a2 + 1), (a3 ++ [x4]), h, ?_⟩
            rw [wk_mk]
            simp (config := { maxSteps := 1000000 }) (disch := first | assumption | (simp; done) | omega | (simp; omega)) only [push_cast, reduceCtorEq, Nat.reduceEqDiff, Nat.reduceAdd, Nat.reduceSub, Nat.reduceMul, Nat.reduceLeDiff, Nat.reduceLT, Int.reduceEq, Int.reduceNe, Int.reduceLT, Int.reduceLE, Int.reduceGT, Int.reduceGE, Int.reduceBEq, Int.reduceBNe, ↓reduceIte, h356, h357, h359, h360, h361, h362, h363, h364] <;> rfl
          · try simp (disch := first | assumption | (simp; done) | omega | (simp; omega)) only [push_cast, reduceCtorEq, Nat.reduceEqDiff, Nat.reduceAdd, Nat.reduceSub, Nat.reduceMul, Nat.reduceLeDiff, Nat.reduceLT, Int.reduceEq, Int.reduceNe, Int.reduceLT, Int.reduceLE, Int.reduceGT, Int.reduceGE, Int.reduceBEq, Int.reduceBNe, ↓reduceIte] at h362
            rcases F_if h with ⟨h365, h⟩ | ⟨h365, h⟩
            · try simp (disch := first | assumption | (simp; done) | omega | (simp; omega)) only [push_cast, reduceCtorEq, Nat.reduceEqDiff, Nat.reduceAdd, Nat.reduceSub, Nat.reduceMul, Nat.reduceLeDiff, Nat.reduceLT, Int.reduceEq, Int.reduceNe, Int.reduceLT, Int.reduceLE, Int.reduceGT, Int.reduceGE, Int.reduceBEq, Int.reduceBNe, ↓reduceIte] at h365
              obtain ⟨h366, h⟩ := F_gd h
              try simp (disch := first | assumption | (simp; done) | omega | (simp; omega)) only [push_cast, reduceCtorEq, Nat.reduceEqDiff, Nat.reduceAdd, Nat.reduceSub, Nat.reduceMul, Nat.reduceLeDiff, Nat.reduceLT, Int.reduceEq, Int.reduceNe, Int.reduceLT, Int.reduceLE, Int.reduceGT, Int.reduceGE, Int.reduceBEq, Int.reduceBNe, ↓reduceIte] at h366
              obtain ⟨h367, h⟩ := F_gd h
              try simp (disch := first | assumption | (simp; done) | omega | (simp; omega)) only [push_cast, reduceCtorEq, Nat.reduceEqDiff, Nat.reduceAdd, Nat.reduceSub, Nat.reduceMul, Nat.reduceLeDiff, Nat.reduceLT, Int.reduceEq, Int.reduceNe, Int.reduceLT, Int.reduceLE, Int.reduceGT, Int.reduceGE, Int.reduceBEq, Int.reduceBNe, ↓reduceIte] at h367
              obtain ⟨h368, h⟩ := F_ck h
              try simp (disch := first | assumption | (simp; done) | omega | (simp; omega)) only [push_cast, reduceCtorEq, Nat.reduceEqDiff, Nat.reduceAdd, Nat.reduceSub, Nat.reduceMul, Nat.reduceLeDiff, Nat.reduceLT, Int.reduceEq, Int.reduceNe, Int.reduceLT, Int.reduceLE, Int.reduceGT, Int.reduceGE, Int.reduceBEq, Int.reduceBNe, ↓reduceIte] at h368
              simp (config := { maxSteps := 1000000 }) (disch := first | assumption | (simp; done) | omega | (simp; omega)) only [push_cast, reduceCtorEq, Nat.reduceEqDiff, Nat.reduceAdd, Nat.reduceSub, Nat.reduceMul, Nat.reduceLeDiff, Nat.reduceLT, Int.reduceEq, Int.reduceNe, Int.reduceLT, Int.reduceLE, Int.reduceGT, Int.reduceGE, Int.reduceBEq, Int.reduceBNe, ↓reduceIte, h356, h357, h359, h360, h361, h362, h365, h366, h367, h368]
              refine lpK_of m1 [0, 3, 5, 6, 7] [0, 5] (by omega) (by decide) ⟨true, (a2 + 1), ((a3 ++ [p1]) ++ [x4]), h, ?_⟩
              rw [wk_mk]
              simp (config := { maxSteps := 1000000 }) (disch := first | assumption | (simp; done) | omega | (simp; omega)) only [push_cast, reduceCtorEq, Nat.reduceEqDiff, Nat.reduceAdd, Nat.reduceSub, Nat.reduceMul, Nat.reduceLeDiff, Nat.reduceLT, Int.reduceEq, Int.reduceNe, Int.reduceLT, Int.reduceLE, Int.reduceGT, Int.reduceGE, Int.reduceBEq, Int.reduceBNe, ↓reduceIte, h356, h357, h359, h360, h361, h362, h365, h366, h367, h368] <;> rfl
            · try simp (disch := first | assumption | (simp; done) | omega | (simp; omega)) only [push_cast, reduceCtorEq, Nat.reduceEqDiff, Nat.reduceAdd, Nat.reduceSub, Nat.reduceMul, Nat.reduceLeDiff, Nat.reduceLT, Int.reduceEq, Int.reduceNe, Int.reduceLT, Int.reduceLE, Int.reduceGT, Int.reduceGE, Int.reduceBEq, Int.reduceBNe, ↓reduceIte] at h365
              obtain ⟨h369, h⟩ := F_gd h
              try simp (disch := first | assumption | (simp; done) | omega | (simp; omega)) only [push_cast, reduceCtorEq, Nat.reduceEqDiff, Nat.reduceAdd, Nat.reduceSub, Nat.reduceMul, Nat.reduceLeDiff, Nat.reduceLT, Int.reduceEq, Int.reduceNe, Int.reduceLT, Int.reduceLE, Int.reduceGT, Int.reduceGE, Int.reduceBEq, Int.reduceBNe, ↓reduceIte] at h369
              obtain ⟨h370, h⟩ := F_ck h
              try simp (disch := first | assumption | (simp; done) | omega | (simp; omega)) only [push_cast, reduceCtorEq, Nat.reduceEqDiff, Nat.reduceAdd, Nat.reduceSub, Nat.reduceMul, Nat.reduceLeDiff, Nat.reduceLT, Int.reduceEq, Int.reduceNe, Int.reduceLT, Int.reduceLE, Int.reduceGT, Int.reduceGE, Int.reduceBEq, Int.reduceBNe, ↓reduceIte] at h370
              simp (config := { maxSteps := 1000000 }) (disch := first | assumption | (simp; done) | omega | (simp; omega)) only [push_cast, reduceCtorEq, Nat.reduceEqDiff, Nat.reduceAdd, Nat.reduceSub, Nat.reduceMul, Nat.reduceLeDiff, Nat.reduceLT, Int.reduceEq, Int.reduceNe, Int.reduceLT, Int.reduceLE, Int.reduceGT, Int.reduceGE, Int.reduceBEq, Int.reduceBNe, ↓reduceIte, h356, h357, h359, h360, h361, h362, h365, h369, h370]
              refine lpK_of m1 [0, 3, 5, 6, 7] [0, 3] (by omega) (by decide) ⟨a1, (a2 + 1), (a3 ++ [x4]), h, ?_⟩
              rw [wk_mk]
              simp (config := { maxSteps := 1000000 }) (disch := first | assumption | (simp; done) | omega | (simp; omega)) only [push_cast, reduceCtorEq, Nat.reduceEqDiff, Nat.reduceAdd, Nat.reduceSub, Nat.reduceMul, Nat.reduceLeDiff, Nat.reduceLT, Int.reduceEq, Int.reduceNe, Int.reduceLT, Int.reduceLE, Int.reduceGT, Int.reduceGE, Int.reduceBEq, Int.reduceBNe, ↓reduceIte, h356, h357, h359, h360, h361, h362, h365, h369, h370] <;> rfl
      · try simp (disch := first | assumption | (simp; done) | omega | (simp; omega)) only [push_cast, reduceCtorEq, Nat.reduceEqDiff, Nat.reduceAdd, Nat.reduceSub, Nat.reduceMul, Nat.reduceLeDiff, Nat.reduceLT, Int.reduceEq, Int.reduceNe, Int.reduceLT, Int.reduceLE, Int.reduceGT, Int.reduceGE, Int.reduceBEq, Int.reduceBNe, ↓reduceIte] at h356
        rcases F_if h with ⟨h371, h⟩ | ⟨h371, h⟩
        · try simp (disch := first | assumption | (simp; done) | omega | (simp; omega)) only [push_cast, reduceCtorEq, Nat.reduceEqDiff, Nat.reduceAdd, Nat.reduceSub, Nat.reduceMul, Nat.reduceLeDiff, Nat.reduceLT, Int.reduceEq, Int.reduceNe, Int.reduceLT, Int.reduceLE, Int.reduceGT, Int.reduceGE, Int.reduceBEq, Int.reduceBNe, ↓reduceIte] at h371
          obtain rfl := Option.some.inj h
          simp (config := { maxSteps := 1000000 }) (disch := first | assumption | (simp; done) | omega | (simp; omega)) only [push_cast, reduceCtorEq, Nat.reduceEqDiff, Nat.reduceAdd, Nat.reduceSub, Nat.reduceMul, Nat.reduceLeDiff, Nat.reduceLT, Int.reduceEq, Int.reduceNe, Int.reduceLT, Int.reduceLE, Int.reduceGT, Int.reduceGE, Int.reduceBEq, Int.reduceBNe, ↓reduceIte, h356, h371]
          refine e_ret (.inr rfl) ?_
          simp (config := { maxSteps := 1000000 }) (disch := first | assumption | (simp; done) | omega | (simp; omega)) only [push_cast, reduceCtorEq, Nat.reduceEqDiff, Nat.reduceAdd, Nat.reduceSub, Nat.reduceMul, Nat.reduceLeDiff, Nat.reduceLT, Int.reduceEq, Int.reduceNe, Int.reduceLT, Int.reduceLE, Int.reduceGT, Int.reduceGE, Int.reduceBEq, Int.reduceBNe, ↓reduceIte, aret, aresults, aresult, h356, h371]
          refine ⟨_, rfl, ?_⟩
          first | (simp (config := { maxSteps := 1000000 }) (disch := first | assumption | (simp; done) | omega | (simp; omega)) only [push_cast, reduceCtorEq, Nat.reduceEqDiff, Nat.reduceAdd, Nat.reduceSub, Nat.reduceMul, Nat.reduceLeDiff, Nat.reduceLT, Int.reduceEq, Int.reduceNe, Int.reduceLT, Int.reduceLE, Int.reduceGT, Int.reduceGE, Int.reduceBEq, Int.reduceBNe, ↓reduceIte, h356, h371] <;> rfl) | rfl
        · try simp (disch := first | assumption | (simp; done) | omega | (simp; omega)) only [push_cast, reduceCtorEq, Nat.reduceEqDiff, Nat.reduceAdd, Nat.reduceSub, Nat.reduceMul, Nat.reduceLeDiff, Nat.reduceLT, Int.reduceEq, Int.reduceNe, Int.reduceLT, Int.reduceLE, Int.reduceGT, Int.reduceGE, Int.reduceBEq, Int.reduceBNe, ↓reduceIte] at h371
          obtain ⟨h372, h⟩ := F_gd h
          try simp (disch := first | assumption | (simp; done) | omega | (simp; omega)) only [push_cast, reduceCtorEq, Nat.reduceEqDiff, Nat.reduceAdd, Nat.reduceSub, Nat.reduceMul, Nat.reduceLeDiff, Nat.reduceLT, Int.reduceEq, Int.reduceNe, Int.reduceLT, Int.reduceLE, Int.reduceGT, Int.reduceGE, Int.reduceBEq, Int.reduceBNe, ↓reduceIte] at h372
          obtain rfl := Option.some.inj h
          simp (config := { maxSteps := 1000000 }) (disch := first | assumption | (simp; done) | omega | (simp; omega)) only [push_cast, reduceCtorEq, Nat.reduceEqDiff, Nat.reduceAdd, Nat.reduceSub, Nat.reduceMul, Nat.reduceLeDiff, Nat.reduceLT, Int.reduceEq, Int.reduceNe, Int.reduceLT, Int.reduceLE, Int.reduceGT, Int.reduceGE, Int.reduceBEq, Int.reduceBNe, ↓reduceIte, h356, h371, h372]
          refine e_ret (.inr rfl) ?_
          simp (config := { maxSteps := 1000000 }) (disch := first | assumption | (simp; done) | omega | (simp; omega)) only [push_cast, reduceCtorEq, Nat.reduceEqDiff, Nat.reduceAdd, Nat.reduceSub, Nat.reduceMul, Nat.reduceLeDiff, Nat.reduceLT, Int.reduceEq, Int.reduceNe, Int.reduceLT, Int.reduceLE, Int.reduceGT, Int.reduceGE, Int.reduceBEq, Int.reduceBNe, ↓reduceIte, aret, aresults, aresult, h356, h371, h372]
          refine ⟨_, rfl, ?_⟩
          first | (simp (config := { maxSteps := 1000000 }) (disch := first | assumption | (simp; done) | omega | (simp; omega)) only [push_cast, reduceCtorEq, Nat.reduceEqDiff, Nat.reduceAdd, Nat.reduceSub, Nat.reduceMul, Nat.reduceLeDiff, Nat.reduceLT, Int.reduceEq, Int.reduceNe, Int.reduceLT, Int.reduceLE, Int.reduceGT, Int.reduceGE, Int.reduceBEq, Int.reduceBNe, ↓reduceIte, h356, h371, h372] <;> rfl) | rfl

/-! ## 26 rivermark.rivermarkref11.Receive -/
def f26g0 : List RO :=
  [⟨(.some 2), (.box (.tmp 0)), .none⟩,
   ⟨(.some 3), (.box (.tmp 1)), .none⟩,
   ⟨(.some 4), (.new [(.D (.I .i64 0)), (.fl []), (.fl []), (.D (.I .i64 0))]), .none⟩]
def f26g1 : List RO :=
  [⟨(.some 9), (.load (.some 2) (.tmp 2)), .none⟩,
   ⟨(.some 10), (.call (.func 27) [(.tmp 9)]), .none⟩,
   ⟨(.some 11), (.un .not (.tmp 10)), .none⟩,
   ⟨(.some 12), (.mv (.tmp 11)), .none⟩,
   ⟨(.some 13), (.faddr 1 (.tmp 3)), (.some (12, .false))⟩,
   ⟨(.some 14), (.load .none (.tmp 13)), (.some (12, .false))⟩,
   ⟨(.some 15), (.bin .lss (.tmp 14) (.const (.int .i64 0))), (.some (12, .false))⟩,
   ⟨(.some 16), (.pick (.tmp 12) (.const (.bool .true)) (.tmp 15)), .none⟩,
   ⟨(.some 17), (.mv (.tmp 16)), .none⟩,
   ⟨(.some 18), (.faddr 1 (.tmp 3)), (.some (17, .false))⟩,
   ⟨(.some 19), (.load .none (.tmp 18)), (.some (17, .false))⟩,
   ⟨(.some 20), (.bin .gtr (.tmp 19) (.const (.int .i64 1099511627776))), (.some (17, .false))⟩,
   ⟨(.some 21), (.pick (.tmp 17) (.const (.bool .true)) (.tmp 20)), .none⟩,
   ⟨(.some 22), (.mv (.tmp 21)), .none⟩,
   ⟨(.some 23), (.faddr 2 (.tmp 3)), (.some (22, .false))⟩,
   ⟨(.some 24), (.load .none (.tmp 23)), (.some (22, .false))⟩,
   ⟨(.some 25), (.len .true (.tmp 24)), (.some (22, .false))⟩,
   ⟨(.some 26), (.bin .gtr (.tmp 25) (.const (.int .i64 65536))), (.some (22, .false))⟩,
   ⟨(.some 27), (.pick (.tmp 22) (.const (.bool .true)) (.tmp 26)), .none⟩]
def f26g2 : List RO :=
  [⟨(.some 28), (.load (.some 2) (.tmp 2)), .none⟩,
   ⟨(.some 29), (.build [(.D (.I .i64 0)), (.fl []), (.fl []), (.D (.I .i64 0))] [(0, (2, (.tmp 28))), (3, (1, (.const (.int .i64 1))))]), .none⟩,
   ⟨.none, (.store 4 (.tmp 4) (.tmp 29)), .none⟩]
def f26g3 : List RO :=
  [⟨(.some 30), (.faddr 0 (.tmp 2)), .none⟩,
   ⟨(.some 31), (.load .none (.tmp 30)), .none⟩,
   ⟨(.some 32), (.bslice 3 []), .none⟩,
   ⟨(.some 33), (.faddr 1 (.tmp 2)), .none⟩,
   ⟨(.some 34), (.load .none (.tmp 33)), .none⟩,
   ⟨(.some 35), (.app 3 32 (.tmp 32) (.tmp 34)), .none⟩,
   ⟨(.some 36), (.build [(.D (.I .i64 0)), (.fl [])] [(0, (1, (.tmp 31))), (1, (1, (.tmp 35)))]), .none⟩,
   ⟨(.some 5), (.new [(.D (.I .i64 0)), (.fl [])]), .none⟩,
   ⟨.none, (.store 2 (.tmp 5) (.tmp 36)), .none⟩]
def f26g4 : List RO :=
  [⟨(.some 37), (.faddr 0 (.tmp 3)), .none⟩,
   ⟨(.some 38), (.load .none (.tmp 37)), .none⟩,
   ⟨(.some 39), (.mv (.tmp 38)), .none⟩,
   ⟨(.some 40), (.faddr 1 (.tmp 3)), (.some (39, .true))⟩,
   ⟨(.some 41), (.load .none (.tmp 40)), (.some (39, .true))⟩,
   ⟨(.some 42), (.faddr 0 (.tmp 2)), (.some (39, .true))⟩,
   ⟨(.some 43), (.load .none (.tmp 42)), (.some (39, .true))⟩,
   ⟨(.some 44), (.bin .leq (.tmp 41) (.tmp 43)), (.some (39, .true))⟩,
   ⟨(.some 45), (.pick (.tmp 39) (.tmp 44) (.const (.bool .false))), .none⟩,
   ⟨(.some 46), (.mv (.tmp 45)), .none⟩,
   ⟨(.some 47), (.faddr 0 (.tmp 3)), (.some (46, .false))⟩,
   ⟨(.some 48), (.load .none (.tmp 47)), (.some (46, .false))⟩,
   ⟨(.some 49), (.un .not (.tmp 48)), (.some (46, .false))⟩,
   ⟨(.some 50), (.mv (.tmp 49)), (.some (46, .false))⟩,
   ⟨(.some 51), (.faddr 1 (.tmp 3)), (.some (50, .true))⟩,
   ⟨(.some 52), (.load .none (.tmp 51)), (.some (50, .true))⟩,
   ⟨(.some 53), (.faddr 0 (.tmp 2)), (.some (50, .true))⟩,
   ⟨(.some 54), (.load .none (.tmp 53)), (.some (50, .true))⟩,
   ⟨(.some 55), (.bin .lss (.tmp 52) (.tmp 54)), (.some (50, .true))⟩,
   ⟨(.some 56), (.pick (.tmp 50) (.tmp 55) (.const (.bool .false))), (.some (46, .false))⟩,
   ⟨(.some 57), (.pick (.tmp 46) (.const (.bool .true)) (.tmp 56)), .none⟩]
def f26g5 : List RO :=
  [⟨(.some 58), (.load (.some 2) (.tmp 2)), .none⟩,
   ⟨(.some 59), (.build [(.D (.I .i64 0)), (.fl []), (.fl []), (.D (.I .i64 0))] [(0, (2, (.tmp 58)))]), .none⟩,
   ⟨.none, (.store 4 (.tmp 4) (.tmp 59)), .none⟩]
def f26g6 : List RO :=
  [⟨(.some 60), (.faddr 0 (.tmp 3)), .none⟩,
   ⟨(.some 61), (.load .none (.tmp 60)), .none⟩,
   ⟨(.some 62), (.un .not (.tmp 61)), .none⟩,
   ⟨(.some 63), (.mv (.tmp 62)), .none⟩,
   ⟨(.some 64), (.faddr 1 (.tmp 3)), (.some (63, .true))⟩,
   ⟨(.some 65), (.load .none (.tmp 64)), (.some (63, .true))⟩,
   ⟨(.some 66), (.faddr 0 (.tmp 2)), (.some (63, .true))⟩,
   ⟨(.some 67), (.load .none (.tmp 66)), (.some (63, .true))⟩,
   ⟨(.some 68), (.bin .gtr (.tmp 65) (.tmp 67)), (.some (63, .true))⟩,
   ⟨(.some 69), (.pick (.tmp 63) (.tmp 68) (.const (.bool .false))), .none⟩]
def f26g7 : List RO :=
  [⟨(.some 70), (.faddr 1 (.tmp 2)), .none⟩,
   ⟨(.some 71), (.load .none (.tmp 70)), .none⟩,
   ⟨(.some 72), (.len .false (.tmp 71)), .none⟩,
   ⟨(.some 73), (.bin .lss (.tmp 72) (.const (.int .i64 64))), .none⟩]
def f26g8 : List RO :=
  [⟨(.some 74), (.faddr 1 (.tmp 5)), .none⟩,
   ⟨(.some 75), (.load .none (.tmp 74)), .none⟩,
   ⟨(.some 76), (.load (.some 3) (.tmp 3)), .none⟩,
   ⟨(.some 77), (.call (.func 45) [(.tmp 75), (.tmp 76)]), .none⟩,
   ⟨(.some 78), (.faddr 1 (.tmp 5)), .none⟩,
   ⟨.none, (.store 1 (.tmp 78) (.tmp 77)), .none⟩]
def f26g9 : List RO :=
  [⟨(.some 79), (.load (.some 2) (.tmp 5)), .none⟩,
   ⟨(.some 80), (.build [(.D (.I .i64 0)), (.fl []), (.fl []), (.D (.I .i64 0))] [(0, (2, (.tmp 79)))]), .none⟩,
   ⟨.none, (.store 4 (.tmp 4) (.tmp 80)), .none⟩]
def f26g10 : List RO :=
  [⟨(.some 81), (.load (.some 3) (.tmp 3)), .none⟩,
   ⟨(.some 82), (.bslice 3 [(.tmp 81)]), .none⟩,
   ⟨(.some 6), (.mv (.tmp 82)), .none⟩]
def f26g11 : List RO :=
  [⟨(.some 83), (.faddr 1 (.tmp 3)), .none⟩,
   ⟨(.some 84), (.load .none (.tmp 83)), .none⟩,
   ⟨(.some 85), (.faddr 0 (.tmp 5)), .none⟩,
   ⟨.none, (.store 1 (.tmp 85) (.tmp 84)), .none⟩]
def f26g12 : List RO :=
  [⟨(.some 86), (.faddr 0 (.tmp 3)), .none⟩,
   ⟨(.some 87), (.load .none (.tmp 86)), .none⟩,
   ⟨(.some 88), (.un .not (.tmp 87)), .none⟩]
def f26g13 : List RO :=
  [⟨(.some 89), (.faddr 1 (.tmp 3)), .none⟩,
   ⟨(.some 90), (.load .none (.tmp 89)), .none⟩,
   ⟨(.some 91), (.bin .add (.tmp 90) (.const (.int .i64 1))), .none⟩,
   ⟨(.some 92), (.faddr 0 (.tmp 5)), .none⟩,
   ⟨.none, (.store 1 (.tmp 92) (.tmp 91)), .none⟩]
def f26g14 : List RO :=
  [⟨(.some 7), (.mv (.const (.slice .none 0 0))), .none⟩]
def f26g15 : List RO :=
  [⟨(.some 8), (.mv (.const (.int .i64 0))), .none⟩]
def f26g16 : List RO :=
  [⟨(.some 93), (.mv (.tmp 8)), .none⟩,
   ⟨(.some 94), (.faddr 1 (.tmp 5)), .none⟩,
   ⟨(.some 95), (.load .none (.tmp 94)), .none⟩,
   ⟨(.some 96), (.len .false (.tmp 95)), .none⟩,
   ⟨(.some 97), (.bin .lss (.tmp 93) (.tmp 96)), .none⟩]
def f26g17 : List RO :=
  [⟨(.some 100), (.faddr 1 (.tmp 5)), .none⟩,
   ⟨(.some 101), (.load .none (.tmp 100)), .none⟩,
   ⟨(.some 102), (.mv (.tmp 8)), .none⟩,
   ⟨(.some 103), (.iaddr 3 (.tmp 101) (.tmp 102)), .none⟩,
   ⟨(.some 104), (.faddr 1 (.tmp 103)), .none⟩,
   ⟨(.some 105), (.load .none (.tmp 104)), .none⟩,
   ⟨(.some 106), (.faddr 0 (.tmp 5)), .none⟩,
   ⟨(.some 107), (.load .none (.tmp 106)), .none⟩,
   ⟨(.some 108), (.bin .eql (.tmp 105) (.tmp 107)), .none⟩]
def f26g18 : List RO :=
  [⟨(.some 109), (.mv (.tmp 6)), .none⟩,
   ⟨(.some 110), (.faddr 1 (.tmp 5)), .none⟩,
   ⟨(.some 111), (.load .none (.tmp 110)), .none⟩,
   ⟨(.some 112), (.mv (.tmp 8)), .none⟩,
   ⟨(.some 113), (.iaddr 3 (.tmp 111) (.tmp 112)), .none⟩,
   ⟨(.some 114), (.load (.some 3) (.tmp 113)), .none⟩,
   ⟨(.some 115), (.bslice 3 [(.tmp 114)]), .none⟩,
   ⟨(.some 116), (.appE 3 32 (.tmp 109) (.tmp 115)), .none⟩,
   ⟨(.some 6), (.mv (.tmp 116)), .none⟩]
def f26g19 : List RO :=
  [⟨(.some 117), (.faddr 0 (.tmp 5)), .none⟩,
   ⟨(.some 118), (.load .none (.tmp 117)), .none⟩,
   ⟨(.some 119), (.bin .add (.tmp 118) (.const (.int .i64 1))), .none⟩,
   ⟨(.some 120), (.faddr 0 (.tmp 5)), .none⟩,
   ⟨.none, (.store 1 (.tmp 120) (.tmp 119)), .none⟩]
def f26g20 : List RO :=
  [⟨(.some 121), (.faddr 1 (.tmp 5)), .none⟩,
   ⟨(.some 122), (.load .none (.tmp 121)), .none⟩,
   ⟨(.some 123), (.mv (.tmp 8)), .none⟩,
   ⟨(.some 124), (.iaddr 3 (.tmp 122) (.tmp 123)), .none⟩,
   ⟨(.some 125), (.faddr 1 (.tmp 124)), .none⟩,
   ⟨(.some 126), (.load .none (.tmp 125)), .none⟩,
   ⟨(.some 127), (.faddr 0 (.tmp 5)), .none⟩,
   ⟨(.some 128), (.load .none (.tmp 127)), .none⟩,
   ⟨(.some 129), (.bin .gtr (.tmp 126) (.tmp 128)), .none⟩]
def f26g21 : List RO :=
  [⟨(.some 130), (.mv (.tmp 7)), .none⟩,
   ⟨(.some 131), (.faddr 1 (.tmp 5)), .none⟩,
   ⟨(.some 132), (.load .none (.tmp 131)), .none⟩,
   ⟨(.some 133), (.mv (.tmp 8)), .none⟩,
   ⟨(.some 134), (.iaddr 3 (.tmp 132) (.tmp 133)), .none⟩,
   ⟨(.some 135), (.load (.some 3) (.tmp 134)), .none⟩,
   ⟨(.some 136), (.bslice 3 [(.tmp 135)]), .none⟩,
   ⟨(.some 137), (.appE 3 32 (.tmp 130) (.tmp 136)), .none⟩,
   ⟨(.some 7), (.mv (.tmp 137)), .none⟩]
def f26g22 : List RO :=
  [⟨(.some 98), (.mv (.tmp 8)), .none⟩,
   ⟨(.some 99), (.bin .add (.tmp 98) (.const (.int .i64 1))), .none⟩,
   ⟨(.some 8), (.mv (.tmp 99)), .none⟩]
def f26b23 : RCode := (.seq (.seq (.reg .false f26g16) (.cond (.tmp 97) .skip (.exit 0))) (.seq (.block 1 (.seq (.reg .true f26g17) (.cond (.tmp 108) (.seq (.reg .false f26g18) (.reg .false f26g19)) (.seq (.reg .true f26g20) (.cond (.tmp 129) (.reg .false f26g21) .skip))))) (.reg .false f26g22)))
def f26g24 : List RO :=
  [⟨(.some 138), (.mv (.tmp 7)), .none⟩,
   ⟨(.some 139), (.faddr 1 (.tmp 5)), .none⟩,
   ⟨.none, (.store 1 (.tmp 139) (.tmp 138)), .none⟩]
def f26g25 : List RO :=
  [⟨(.some 140), (.load (.some 2) (.tmp 5)), .none⟩,
   ⟨(.some 141), (.mv (.tmp 6)), .none⟩,
   ⟨(.some 142), (.build [(.D (.I .i64 0)), (.fl []), (.fl []), (.D (.I .i64 0))] [(0, (2, (.tmp 140))), (2, (1, (.tmp 141)))]), .none⟩,
   ⟨.none, (.store 4 (.tmp 4) (.tmp 142)), .none⟩]
def f26c : RCode := (.seq (.reg .false f26g0) (.seq (.seq (.reg .false f26g1) (.cond (.tmp 27) (.seq (.reg .false f26g2) .ret) .skip)) (.seq (.reg .true f26g3) (.seq (.seq (.reg .false f26g4) (.cond (.tmp 57) (.seq (.reg .false f26g5) .ret) .skip)) (.seq (.seq (.reg .false f26g6) (.cond (.tmp 69) (.seq (.seq (.reg .false f26g7) (.cond (.tmp 73) (.reg .false f26g8) .skip)) (.seq (.reg .false f26g9) .ret)) .skip)) (.seq (.reg .false f26g10) (.seq (.reg .false f26g11) (.seq (.seq (.reg .false f26g12) (.cond (.tmp 88) (.reg .false f26g13) .skip)) (.seq (.reg .false f26g14) (.seq (.seq (.reg .false f26g15) (.block 0 (.loop f26b23))) (.seq (.reg .false f26g24) (.seq (.reg .false f26g25) .ret))))))))))))
def f26r : List RRes := [(.cell (.some 4) 4)]
attribute [push_cast] f26g0 f26g1 f26g2 f26g3 f26g4 f26g5 f26g6 f26g7 f26g8 f26g9 f26g10 f26g11 f26g12 f26g13 f26g14 f26g15 f26g16 f26g17 f26g18 f26g19 f26g20 f26g21 f26g22 f26g24 f26g25
def L26_0 (N : Nat) (p0 : Inbox) : Nat → Int → Int → (List Frame) → (List Frame) → Option RGot
  | 0, _, _, _, _ => none
  | m1+1, a2, a3, a4, a5 => if? (decide (a2 < (p0.Ahead.length : Int))) (get? p0.Ahead (a2) fun x6 => if? ((x6.Seq == a3)) (gd? ((a4.length + [x6].length) * 32 ≤ 140737488355328) (ck .i64 (a3 + 1) (ck .i64 (a2 + 1) (L26_0 N p0 m1 (a2 + 1) (a3 + 1) (a4 ++ [x6]) a5)))) (if? (decide (x6.Seq > a3)) (gd? ((a5.length + [x6].length) * 32 ≤ 140737488355328) (ck .i64 (a2 + 1) (L26_0 N p0 m1 (a2 + 1) a3 a4 (a5 ++ [x6])))) (ck .i64 (a2 + 1) (L26_0 N p0 m1 (a2 + 1) a3 a4 a5)))) (some ((RGot.mk (Inbox.mk a3 a5) a4 0)))
def I26_0 (N : Nat) (p0 : Inbox) (r : RGot) (n : Nat) (s : AState) : Prop := ∃ (a2 : Int) (a3 : Int) (a4 : (List Frame)) (a5 : (List Frame)), L26_0 N p0 n a2 a3 a4 a5 = some r ∧ s = ⟨envL [(4, .ptr (.O 0) 0), (5, .ptr (.O 2) 0), (6, .sl (.O 3) 3 0 a4.length), (7, .sl (.O 4) 3 0 a5.length), (8, .D (.I .i64 a2))], ownL [], ownL [some (.box [.D (.I .i64 0), .D (.L ([].map Frame.row)), .D (.L ([].map Frame.row)), .D (.I .i64 0)]), some (.row true 3 (p0.Ahead.map Frame.row)), some (.box [.D (.I .i64 a3), .sl (.O 1) 3 0 p0.Ahead.length]), some (.row true 3 (a4.map Frame.row)), some (.row true 3 (a5.map Frame.row))], 5⟩
def F26 (N : Nat) (p0 : Inbox) (p1 : Frame) : Option RGot := bd? (F27 N p0) fun v1 => if? (v1) (if? (decide (p1.Seq < 0)) (some ((RGot.mk p0 [] 1))) (if? (decide (p1.Seq > 1099511627776)) (some ((RGot.mk p0 [] 1))) (if? (decide ((p1.Body.length : Int) > 65536)) (some ((RGot.mk p0 [] 1))) (gd? (p0.Ahead.length * 32 ≤ 140737488355328) (if? (p1.Sum) (if? (decide (p1.Seq ≤ p0.Next)) (some ((RGot.mk p0 [] 0))) (L26_0 N p0 N 0 p1.Seq [p1] [])) (if? (decide (p1.Seq < p0.Next)) (some ((RGot.mk p0 [] 0))) (if? (decide (p1.Seq > p0.Next)) (if? (decide ((p0.Ahead.length : Int) < 64)) (bd? (F45 N p0.Ahead p1) fun v7 => some ((RGot.mk (Inbox.mk p0.Next v7) [] 0))) (some ((RGot.mk p0 [] 0)))) (ck .i64 (p1.Seq + 1) (L26_0 N p0 N 0 (p1.Seq + 1) [p1] []))))))))) (some ((RGot.mk p0 [] 1)))
theorem c26 (N : Nat) (p0 : Inbox) (p1 : Frame) (r : RGot) (h : F26 N p0 p1 = some r) : ACall Try.prog 26 [.agg [.D (.I .i64 p0.Next), .D (.L (p0.Ahead.map Frame.row))], .agg [.D (.B p1.Sum), .D (.I .i64 p1.Seq), .D (.S p1.Body)]] [] (.agg [.D (.I .i64 r.I.Next), .D (.L (r.I.Ahead.map Frame.row)), .D (.L (r.L.map Frame.row)), .D (.I .i64 r.E)]) [] [] := by
  refine ACall.of_bodyW [116, 137] (fn := Try.f26) (rc := f26c) (rs := f26r) Try.func26 rfl rfl (by kernel_rfl) (by kernel_rfl) (by kernel_rfl) (by rw [Try.ntmps26]; simp) ?_
  unfold F26 at h
  unfold f26c f26r
  rw [entry_eq _ _]
  obtain ⟨v1, h373, h⟩ := F_bd h
  simp (config := { maxSteps := 1000000 }) (disch := first | assumption | (simp; done) | omega | (simp; omega)) only [push_cast, reduceCtorEq, Nat.reduceEqDiff, Nat.reduceAdd, Nat.reduceSub, Nat.reduceMul, Nat.reduceLeDiff, Nat.reduceLT, Int.reduceEq, Int.reduceNe, Int.reduceLT, Int.reduceLE, Int.reduceGT, Int.reduceGE, Int.reduceBEq, Int.reduceBNe, ↓reduceIte]
  refine call_flat (by rfl) (c27 N _ _ h373) ?_ rfl ?_
  · simp (config := { maxSteps := 1000000 }) (disch := first | assumption | (simp; done) | omega | (simp; omega)) only [push_cast, reduceCtorEq, Nat.reduceEqDiff, Nat.reduceAdd, Nat.reduceSub, Nat.reduceMul, Nat.reduceLeDiff, Nat.reduceLT, Int.reduceEq, Int.reduceNe, Int.reduceLT, Int.reduceLE, Int.reduceGT, Int.reduceGE, Int.reduceBEq, Int.reduceBNe, ↓reduceIte] <;> rfl
  rcases F_if h with ⟨h374, h⟩ | ⟨h374, h⟩
  · try simp (disch := first | assumption | (simp; done) | omega | (simp; omega)) only [push_cast, reduceCtorEq, Nat.reduceEqDiff, Nat.reduceAdd, Nat.reduceSub, Nat.reduceMul, Nat.reduceLeDiff, Nat.reduceLT, Int.reduceEq, Int.reduceNe, Int.reduceLT, Int.reduceLE, Int.reduceGT, Int.reduceGE, Int.reduceBEq, Int.reduceBNe, ↓reduceIte] at h374
    rcases F_if h with ⟨h375, h⟩ | ⟨h375, h⟩
    · try simp (disch := first | assumption | (simp; done) | omega | (simp; omega)) only [push_cast, reduceCtorEq, Nat.reduceEqDiff, Nat.reduceAdd, Nat.reduceSub, Nat.reduceMul, Nat.reduceLeDiff, Nat.reduceLT, Int.reduceEq, Int.reduceNe, Int.reduceLT, Int.reduceLE, Int.reduceGT, Int.reduceGE, Int.reduceBEq, Int.reduceBNe, ↓reduceIte] at h375
      obtain rfl := Option.some.inj h
      simp (config := { maxSteps := 1000000 }) (disch := first | assumption | (simp; done) | omega | (simp; omega)) only [push_cast, reduceCtorEq, Nat.reduceEqDiff, Nat.reduceAdd, Nat.reduceSub, Nat.reduceMul, Nat.reduceLeDiff, Nat.reduceLT, Int.reduceEq, Int.reduceNe, Int.reduceLT, Int.reduceLE, Int.reduceGT, Int.reduceGE, Int.reduceBEq, Int.reduceBNe, ↓reduceIte, h374, h375]
      refine e_ret (.inr rfl) ?_
      simp (config := { maxSteps := 1000000 }) (disch := first | assumption | (simp; done) | omega | (simp; omega)) only [push_cast, reduceCtorEq, Nat.reduceEqDiff, Nat.reduceAdd, Nat.reduceSub, Nat.reduceMul, Nat.reduceLeDiff, Nat.reduceLT, Int.reduceEq, Int.reduceNe, Int.reduceLT, Int.reduceLE, Int.reduceGT, Int.reduceGE, Int.reduceBEq, Int.reduceBNe, ↓reduceIte, aret, aresults, aresult, h374, h375]
      refine ⟨_, rfl, ?_⟩
      first | (simp (config := { maxSteps := 1000000 }) (disch := first | assumption | (simp; done) | omega | (simp; omega)) only [push_cast, reduceCtorEq, Nat.reduceEqDiff, Nat.reduceAdd, Nat.reduceSub, Nat.reduceMul, Nat.reduceLeDiff, Nat.reduceLT, Int.reduceEq, Int.reduceNe, Int.reduceLT, Int.reduceLE, Int.reduceGT, Int.reduceGE, Int.reduceBEq, Int.reduceBNe, ↓reduceIte, h374, h375] <;> rfl) | rfl
    · try simp (disch := first | assumption | (simp; done) | omega | (simp; omega)) only [push_cast, reduceCtorEq, Nat.reduceEqDiff, Nat.reduceAdd, Nat.reduceSub, Nat.reduceMul, Nat.reduceLeDiff, Nat.reduceLT, Int.reduceEq, Int.reduceNe, Int.reduceLT, Int.reduceLE, Int.reduceGT, Int.reduceGE, Int.reduceBEq, Int.reduceBNe, ↓reduceIte] at h375
      rcases F_if h with ⟨h376, h⟩ | ⟨h376, h⟩
      · try simp (disch := first | assumption | (simp; done) | omega | (simp; omega)) only [push_cast, reduceCtorEq, Nat.reduceEqDiff, Nat.reduceAdd, Nat.reduceSub, Nat.reduceMul, Nat.reduceLeDiff, Nat.reduceLT, Int.reduceEq, Int.reduceNe, Int.reduceLT, Int.reduceLE, Int.reduceGT, Int.reduceGE, Int.reduceBEq, Int.reduceBNe, ↓reduceIte] at h376
        obtain rfl := Option.some.inj h
        simp (config := { maxSteps := 1000000 }) (disch := first | assumption | (simp; done) | omega | (simp; omega)) only [push_cast, reduceCtorEq, Nat.reduceEqDiff, Nat.reduceAdd, Nat.reduceSub, Nat.reduceMul, Nat.reduceLeDiff, Nat.reduceLT, Int.reduceEq, Int.reduceNe, Int.reduceLT, Int.reduceLE, Int.reduceGT, Int.reduceGE, Int.reduceBEq, Int.reduceBNe, ↓reduceIte, h374, h375, h376]
        refine e_ret (.inr rfl) ?_
        simp (config := { maxSteps := 1000000 }) (disch := first | assumption | (simp; done) | omega | (simp; omega)) only [push_cast, reduceCtorEq, Nat.reduceEqDiff, Nat.reduceAdd, Nat.reduceSub, Nat.reduceMul, Nat.reduceLeDiff, Nat.reduceLT, Int.reduceEq, Int.reduceNe, Int.reduceLT, Int.reduceLE, Int.reduceGT, Int.reduceGE, Int.reduceBEq, Int.reduceBNe, ↓reduceIte, aret, aresults, aresult, h374, h375, h376]
        refine ⟨_, rfl, ?_⟩
        first | (simp (config := { maxSteps := 1000000 }) (disch := first | assumption | (simp; done) | omega | (simp; omega)) only [push_cast, reduceCtorEq, Nat.reduceEqDiff, Nat.reduceAdd, Nat.reduceSub, Nat.reduceMul, Nat.reduceLeDiff, Nat.reduceLT, Int.reduceEq, Int.reduceNe, Int.reduceLT, Int.reduceLE, Int.reduceGT, Int.reduceGE, Int.reduceBEq, Int.reduceBNe, ↓reduceIte, h374, h375, h376] <;> rfl) | rfl
      · try simp (disch := first | assumption | (simp; done) | omega | (simp; omega)) only [push_cast, reduceCtorEq, Nat.reduceEqDiff, Nat.reduceAdd, Nat.reduceSub, Nat.reduceMul, Nat.reduceLeDiff, Nat.reduceLT, Int.reduceEq, Int.reduceNe, Int.reduceLT, Int.reduceLE, Int.reduceGT, Int.reduceGE, Int.reduceBEq, Int.reduceBNe, ↓reduceIte] at h376
        rcases F_if h with ⟨h377, h⟩ | ⟨h377, h⟩
        · try simp (disch := first | assumption | (simp; done) | omega | (simp; omega)) only [push_cast, reduceCtorEq, Nat.reduceEqDiff, Nat.reduceAdd, Nat.reduceSub, Nat.reduceMul, Nat.reduceLeDiff, Nat.reduceLT, Int.reduceEq, Int.reduceNe, Int.reduceLT, Int.reduceLE, Int.reduceGT, Int.reduceGE, Int.reduceBEq, Int.reduceBNe, ↓reduceIte] at h377
          obtain rfl := Option.some.inj h
          simp (config := { maxSteps := 1000000 }) (disch := first | assumption | (simp; done) | omega | (simp; omega)) only [push_cast, reduceCtorEq, Nat.reduceEqDiff, Nat.reduceAdd, Nat.reduceSub, Nat.reduceMul, Nat.reduceLeDiff, Nat.reduceLT, Int.reduceEq, Int.reduceNe, Int.reduceLT, Int.reduceLE, Int.reduceGT, Int.reduceGE, Int.reduceBEq, Int.reduceBNe, ↓reduceIte, h374, h375, h376, h377]
          refine e_ret (.inr rfl) ?_
          simp (config := { maxSteps := 1000000 }) (disch := first | assumption | (simp; done) | omega | (simp; omega)) only [push_cast, reduceCtorEq, Nat.reduceEqDiff, Nat.reduceAdd, Nat.reduceSub, Nat.reduceMul, Nat.reduceLeDiff, Nat.reduceLT, Int.reduceEq, Int.reduceNe, Int.reduceLT, Int.reduceLE, Int.reduceGT, Int.reduceGE, Int.reduceBEq, Int.reduceBNe, ↓reduceIte, aret, aresults, aresult, h374, h375, h376, h377]
          refine ⟨_, rfl, ?_⟩
          first | (simp (config := { maxSteps := 1000000 }) (disch := first | assumption | (simp; done) | omega | (simp; omega)) only [push_cast, reduceCtorEq, Nat.reduceEqDiff, Nat.reduceAdd, Nat.reduceSub, Nat.reduceMul, Nat.reduceLeDiff, Nat.reduceLT, Int.reduceEq, Int.reduceNe, Int.reduceLT, Int.reduceLE, Int.reduceGT, Int.reduceGE, Int.reduceBEq, Int.reduceBNe, ↓reduceIte, h374, h375, h376, h377] <;> rfl) | rfl
        · try simp (disch := first | assumption | (simp; done) | omega | (simp; omega)) only [push_cast, reduceCtorEq, Nat.reduceEqDiff, Nat.reduceAdd, Nat.reduceSub, Nat.reduceMul, Nat.reduceLeDiff, Nat.reduceLT, Int.reduceEq, Int.reduceNe, Int.reduceLT, Int.reduceLE, Int.reduceGT, Int.reduceGE, Int.reduceBEq, Int.reduceBNe, ↓reduceIte] at h377
          obtain ⟨h378, h⟩ := F_gd h
          try simp (disch := first | assumption | (simp; done) | omega | (simp; omega)) only [push_cast, reduceCtorEq, Nat.reduceEqDiff, Nat.reduceAdd, Nat.reduceSub, Nat.reduceMul, Nat.reduceLeDiff, Nat.reduceLT, Int.reduceEq, Int.reduceNe, Int.reduceLT, Int.reduceLE, Int.reduceGT, Int.reduceGE, Int.reduceBEq, Int.reduceBNe, ↓reduceIte] at h378
          rcases F_if h with ⟨h379, h⟩ | ⟨h379, h⟩
          · try simp (disch := first | assumption | (simp; done) | omega | (simp; omega)) only [push_cast, reduceCtorEq, Nat.reduceEqDiff, Nat.reduceAdd, Nat.reduceSub, Nat.reduceMul, Nat.reduceLeDiff, Nat.reduceLT, Int.reduceEq, Int.reduceNe, Int.reduceLT, Int.reduceLE, Int.reduceGT, Int.reduceGE, Int.reduceBEq, Int.reduceBNe, ↓reduceIte] at h379
            rcases F_if h with ⟨h380, h⟩ | ⟨h380, h⟩
            · try simp (disch := first | assumption | (simp; done) | omega | (simp; omega)) only [push_cast, reduceCtorEq, Nat.reduceEqDiff, Nat.reduceAdd, Nat.reduceSub, Nat.reduceMul, Nat.reduceLeDiff, Nat.reduceLT, Int.reduceEq, Int.reduceNe, Int.reduceLT, Int.reduceLE, Int.reduceGT, Int.reduceGE, Int.reduceBEq, Int.reduceBNe, ↓reduceIte] at h380
              obtain rfl := Option.some.inj h
              simp (config := { maxSteps := 1000000 }) (disch := first | assumption | (simp; done) | omega | (simp; omega)) only [push_cast, reduceCtorEq, Nat.reduceEqDiff, Nat.reduceAdd, Nat.reduceSub, Nat.reduceMul, Nat.reduceLeDiff, Nat.reduceLT, Int.reduceEq, Int.reduceNe, Int.reduceLT, Int.reduceLE, Int.reduceGT, Int.reduceGE, Int.reduceBEq, Int.reduceBNe, ↓reduceIte, h374, h375, h376, h377, h378, h379, h380]
              refine e_ret (.inr rfl) ?_
              simp (config := { maxSteps := 1000000 }) (disch := first | assumption | (simp; done) | omega | (simp; omega)) only [push_cast, reduceCtorEq, Nat.reduceEqDiff, Nat.reduceAdd, Nat.reduceSub, Nat.reduceMul, Nat.reduceLeDiff, Nat.reduceLT, Int.reduceEq, Int.reduceNe, Int.reduceLT, Int.reduceLE, Int.reduceGT, Int.reduceGE, Int.reduceBEq, Int.reduceBNe, ↓reduceIte, aret, aresults, aresult, h374, h375, h376, h377, h378, h379, h380]
              refine ⟨_, rfl, ?_⟩
              first | (simp (config := { maxSteps := 1000000 }) (disch := first | assumption | (simp; done) | omega | (simp; omega)) only [push_cast, reduceCtorEq, Nat.reduceEqDiff, Nat.reduceAdd, Nat.reduceSub, Nat.reduceMul, Nat.reduceLeDiff, Nat.reduceLT, Int.reduceEq, Int.reduceNe, Int.reduceLT, Int.reduceLE, Int.reduceGT, Int.reduceGE, Int.reduceBEq, Int.reduceBNe, ↓reduceIte, h374, h375, h376, h377, h378, h379, h380] <;> rfl) | rfl
            · try simp (disch := first | assumption | (simp; done) | omega | (simp; omega)) only [push_cast, reduceCtorEq, Nat.reduceEqDiff, Nat.reduceAdd, Nat.reduceSub, Nat.reduceMul, Nat.reduceLeDiff, Nat.reduceLT, Int.reduceEq, Int.reduceNe, Int.reduceLT, Int.reduceLE, Int.reduceGT, Int.reduceGE, Int.reduceBEq, Int.reduceBNe, ↓reduceIte] at h380
              simp (config := { maxSteps := 1000000 }) (disch := first | assumption | (simp; done) | omega | (simp; omega)) only [push_cast, reduceCtorEq, Nat.reduceEqDiff, Nat.reduceAdd, Nat.reduceSub, Nat.reduceMul, Nat.reduceLeDiff, Nat.reduceLT, Int.reduceEq, Int.reduceNe, Int.reduceLT, Int.reduceLE, Int.reduceGT, Int.reduceGE, Int.reduceBEq, Int.reduceBNe, ↓reduceIte, h374, h375, h376, h377, h378, h379, h380]
              refine loop_own0 7 3 rfl ?_
              simp (config := { maxSteps := 1000000 }) (disch := first | assumption | (simp; done) | omega | (simp; omega)) only [push_cast, reduceCtorEq, Nat.reduceEqDiff, Nat.reduceAdd, Nat.reduceSub, Nat.reduceMul, Nat.reduceLeDiff, Nat.reduceLT, Int.reduceEq, Int.reduceNe, Int.reduceLT, Int.reduceLE, Int.reduceGT, Int.reduceGE, Int.reduceBEq, Int.reduceBNe, ↓reduceIte, h374, h375, h376, h377, h378, h379, h380]
              refine loop_of (I26_0 N p0 _) N [4, 5, 6, 7, 8] [2, 3, 4, 5, 6] (by decide) ⟨0, p1.Seq, [p1], [], h, ?_⟩ ?_
              · rw [wk_mk]
                simp (config := { maxSteps := 1000000 }) (disch := first | assumption | (simp; done) | omega | (simp; omega)) only [push_cast, reduceCtorEq, Nat.reduceEqDiff, Nat.reduceAdd, Nat.reduceSub, Nat.reduceMul, Nat.reduceLeDiff, Nat.reduceLT, Int.reduceEq, Int.reduceNe, Int.reduceLT, Int.reduceLE, Int.reduceGT, Int.reduceGE, Int.reduceBEq, Int.reduceBNe, ↓reduceIte, h374, h375, h376, h377, h378, h379, h380] <;> rfl
              · rintro n s ⟨a2, a3, a4, a5, h, rfl⟩
                cases n with
                | zero => exact absurd h (by simp [L26_0])
                | succ m1 =>
                  rw [L26_0] at h
                  unfold f26b23
                  rcases F_if h with ⟨h381, h⟩ | ⟨h381, h⟩
                  · try simp (disch := first | assumption | (simp; done) | omega | (simp; omega)) only [push_cast, reduceCtorEq, Nat.reduceEqDiff, Nat.reduceAdd, Nat.reduceSub, Nat.reduceMul, Nat.reduceLeDiff, Nat.reduceLT, Int.reduceEq, Int.reduceNe, Int.reduceLT, Int.reduceLE, Int.reduceGT, Int.reduceGE, Int.reduceBEq, Int.reduceBNe, ↓reduceIte] at h381
                    obtain ⟨x6, h382, h383, h⟩ := F_get h
                    have h385 := get_lt h382 h383
                    have h384 := map_get Frame.row h383
                    try simp (disch := first | assumption | (simp; done) | omega | (simp; omega)) only [push_cast, reduceCtorEq, Nat.reduceEqDiff, Nat.reduceAdd, Nat.reduceSub, Nat.reduceMul, Nat.reduceLeDiff, Nat.reduceLT, Int.reduceEq, Int.reduceNe, Int.reduceLT, Int.reduceLE, Int.reduceGT, Int.reduceGE, Int.reduceBEq, Int.reduceBNe, ↓reduceIte] at h384
                    try simp (disch := first | assumption | (simp; done) | omega | (simp; omega)) only [push_cast, reduceCtorEq, Nat.reduceEqDiff, Nat.reduceAdd, Nat.reduceSub, Nat.reduceMul, Nat.reduceLeDiff, Nat.reduceLT, Int.reduceEq, Int.reduceNe, Int.reduceLT, Int.reduceLE, Int.reduceGT, Int.reduceGE, Int.reduceBEq, Int.reduceBNe, ↓reduceIte] at h385
                    rcases F_if h with ⟨h386, h⟩ | ⟨h386, h⟩
                    · try simp (disch := first | assumption | (simp; done) | omega | (simp; omega)) only [push_cast, reduceCtorEq, Nat.reduceEqDiff, Nat.reduceAdd, Nat.reduceSub, Nat.reduceMul, Nat.reduceLeDiff, Nat.reduceLT, Int.reduceEq, Int.reduceNe, Int.reduceLT, Int.reduceLE, Int.reduceGT, Int.reduceGE, Int.reduceBEq, Int.reduceBNe, ↓reduceIte] at h386
                      obtain ⟨h387, h⟩ := F_gd h
                      try simp (disch := first | assumption | (simp; done) | omega | (simp; omega)) only [push_cast, reduceCtorEq, Nat.reduceEqDiff, Nat.reduceAdd, Nat.reduceSub, Nat.reduceMul, Nat.reduceLeDiff, Nat.reduceLT, Int.reduceEq, Int.reduceNe, Int.reduceLT, Int.reduceLE, Int.reduceGT, Int.reduceGE, Int.reduceBEq, Int.reduceBNe, ↓reduceIte] at h387
                      obtain ⟨h388, h⟩ := F_ck h
                      try simp (disch := first | assumption | (simp; done) | omega | (simp; omega)) only [push_cast, reduceCtorEq, Nat.reduceEqDiff, Nat.reduceAdd, Nat.reduceSub, Nat.reduceMul, Nat.reduceLeDiff, Nat.reduceLT, Int.reduceEq, Int.reduceNe, Int.reduceLT, Int.reduceLE, Int.reduceGT, Int.reduceGE, Int.reduceBEq, Int.reduceBNe, ↓reduceIte] at h388
                      obtain ⟨h389, h⟩ := F_ck h
                      try simp (disch := first | assumption | (simp; done) | omega | (simp; omega)) only [push_cast, reduceCtorEq, Nat.reduceEqDiff, Nat.reduceAdd, Nat.reduceSub, Nat.reduceMul, Nat.reduceLeDiff, Nat.reduceLT, Int.reduceEq, Int.reduceNe, Int.reduceLT, Int.reduceLE, Int.reduceGT, Int.reduceGE, Int.reduceBEq, Int.reduceBNe, ↓reduceIte] at h389
                      simp (config := { maxSteps := 1000000 }) (disch := first | assumption | (simp; done) | omega | (simp; omega)) only [push_cast, reduceCtorEq, Nat.reduceEqDiff, Nat.reduceAdd, Nat.reduceSub, Nat.reduceMul, Nat.reduceLeDiff, Nat.reduceLT, Int.reduceEq, Int.reduceNe, Int.reduceLT, Int.reduceLE, Int.reduceGT, Int.reduceGE, Int.reduceBEq, Int.reduceBNe, ↓reduceIte, h374, h375, h376, h377, h378, h379, h380, h381, h382, h384, h385, h386, h387, h388, h389]
                      refine lpK_of m1 [4, 5, 6, 7, 8] [0, 1, 2, 6, 4] (by omega) (by decide) ⟨(a2 + 1), (a3 + 1), (a4 ++ [x6]), a5, h, ?_⟩
                      rw [wk_mk]
                      simp (config := { maxSteps := 1000000 }) (disch := first | assumption | (simp; done) | omega | (simp; omega)) only [push_cast, reduceCtorEq, Nat.reduceEqDiff, Nat.reduceAdd, Nat.reduceSub, Nat.reduceMul, Nat.reduceLeDiff, Nat.reduceLT, Int.reduceEq, Int.reduceNe, Int.reduceLT, Int.reduceLE, Int.reduceGT, Int.reduceGE, Int.reduceBEq, Int.reduceBNe, ↓reduceIte, h374, h375, h376, h377, h378, h379, h380, h381, h382, h384, h385, h386, h387, h388, h389] <;> rfl
                    · try simp (disch := first | assumption | (simp; done) | omega | (simp; omega)) only [push_cast, reduceCtorEq, Nat.reduceEqDiff, Nat.reduceAdd, Nat.reduceSub, Nat.reduceMul, Nat.reduceLeDiff, Nat.reduceLT, Int.reduceEq, Int.reduceNe, Int.reduceLT, Int.reduceLE, Int.reduceGT, Int.reduceGE, Int.reduceBEq, Int.reduceBNe, ↓reduceIte] at h386
                      rcases F_if h with ⟨h390, h⟩ | ⟨h390, h⟩
                      · try simp (disch := first | assumption | (simp; done) | omega | (simp; omega)) only [push_cast, reduceCtorEq, Nat.reduceEqDiff, Nat.reduceAdd, Nat.reduceSub, Nat.reduceMul, Nat.reduceLeDiff, Nat.reduceLT, Int.reduceEq, Int.reduceNe, Int.reduceLT, Int.reduceLE, Int.reduceGT, Int.reduceGE, Int.reduceBEq, Int.reduceBNe, ↓reduceIte] at h390
                        obtain ⟨h391, h⟩ := F_gd h
                        try simp (disch := first | assumption | (simp; done) | omega | (simp; omega)) only [push_cast, reduceCtorEq, Nat.reduceEqDiff, Nat.reduceAdd, Nat.reduceSub, Nat.reduceMul, Nat.reduceLeDiff, Nat.reduceLT, Int.reduceEq, Int.reduceNe, Int.reduceLT, Int.reduceLE, Int.reduceGT, Int.reduceGE, Int.reduceBEq, Int.reduceBNe, ↓reduceIte] at h391
                        obtain ⟨h392, h⟩ := F_ck h
                        try simp (disch := first | assumption | (simp; done) | omega | (simp; omega)) only [push_cast, reduceCtorEq, Nat.reduceEqDiff, Nat.reduceAdd, Nat.reduceSub, Nat.reduceMul, Nat.reduceLeDiff, Nat.reduceLT, Int.reduceEq, Int.reduceNe, Int.reduceLT, Int.reduceLE, Int.reduceGT, Int.reduceGE, Int.reduceBEq, Int.reduceBNe, ↓reduceIte] at h392
                        simp (config := { maxSteps := 1000000 }) (disch := first | assumption | (simp; done) | omega | (simp; omega)) only [push_cast, reduceCtorEq, Nat.reduceEqDiff, Nat.reduceAdd, Nat.reduceSub, Nat.reduceMul, Nat.reduceLeDiff, Nat.reduceLT, Int.reduceEq, Int.reduceNe, Int.reduceLT, Int.reduceLE, Int.reduceGT, Int.reduceGE, Int.reduceBEq, Int.reduceBNe, ↓reduceIte, h374, h375, h376, h377, h378, h379, h380, h381, h382, h384, h385, h386, h390, h391, h392]
                        refine lpK_of m1 [4, 5, 6, 7, 8] [0, 1, 2, 3, 6] (by omega) (by decide) ⟨(a2 + 1), a3, a4, (a5 ++ [x6]), h, ?_⟩
                        rw [wk_mk]
                        simp (config := { maxSteps := 1000000 }) (disch := first | assumption | (simp; done) | omega | (simp; omega)) only [push_cast, reduceCtorEq, Nat.reduceEqDiff, Nat.reduceAdd, Nat.reduceSub, Nat.reduceMul, Nat.reduceLeDiff, Nat.reduceLT, Int.reduceEq, Int.reduceNe, Int.reduceLT, Int.reduceLE, Int.reduceGT, Int.reduceGE, Int.reduceBEq, Int.reduceBNe, ↓reduceIte, h374, h375, h376, h377, h378, h379, h380, h381, h382, h384, h385, h386, h390, h391, h392] <;> rfl
                      · try simp (disch := first | assumption | (simp; done) | omega | (simp; omega)) only [push_cast, reduceCtorEq, Nat.reduceEqDiff, Nat.reduceAdd, Nat.reduceSub, Nat.reduceMul, Nat.reduceLeDiff, Nat.reduceLT, Int.reduceEq, Int.reduceNe, Int.reduceLT, Int.reduceLE, Int.reduceGT, Int.reduceGE, Int.reduceBEq, Int.reduceBNe, ↓reduceIte] at h390
                        obtain ⟨h393, h⟩ := F_ck h
                        try simp (disch := first | assumption | (simp; done) | omega | (simp; omega)) only [push_cast, reduceCtorEq, Nat.reduceEqDiff, Nat.reduceAdd, Nat.reduceSub, Nat.reduceMul, Nat.reduceLeDiff, Nat.reduceLT, Int.reduceEq, Int.reduceNe, Int.reduceLT, Int.reduceLE, Int.reduceGT, Int.reduceGE, Int.reduceBEq, Int.reduceBNe, ↓reduceIte] at h393
                        simp (config := { maxSteps := 1000000 }) (disch := first | assumption | (simp; done) | omega | (simp; omega)) only [push_cast, reduceCtorEq, Nat.reduceEqDiff, Nat.reduceAdd, Nat.reduceSub, Nat.reduceMul, Nat.reduceLeDiff, Nat.reduceLT, Int.reduceEq, Int.reduceNe, Int.reduceLT, Int.reduceLE, Int.reduceGT, Int.reduceGE, Int.reduceBEq, Int.reduceBNe, ↓reduceIte, h374, h375, h376, h377, h378, h379, h380, h381, h382, h384, h385, h386, h390, h393]
                        refine lpK_of m1 [4, 5, 6, 7, 8] [0, 1, 2, 3, 4] (by omega) (by decide) ⟨(a2 + 1), a3, a4, a5, h, ?_⟩
                        rw [wk_mk]
                        simp (config := { maxSteps := 1000000 }) (disch := first | assumption | (simp; done) | omega | (simp; omega)) only [push_cast, reduceCtorEq, Nat.reduceEqDiff, Nat.reduceAdd, Nat.reduceSub, Nat.reduceMul, Nat.reduceLeDiff, Nat.reduceLT, Int.reduceEq, Int.reduceNe, Int.reduceLT, Int.reduceLE, Int.reduceGT, Int.reduceGE, Int.reduceBEq, Int.reduceBNe, ↓reduceIte, h374, h375, h376, h377, h378, h379, h380, h381, h382, h384, h385, h386, h390, h393] <;> rfl
                  · try simp (disch := first | assumption | (simp; done) | omega | (simp; omega)) only [push_cast, reduceCtorEq, Nat.reduceEqDiff, Nat.reduceAdd, Nat.reduceSub, Nat.reduceMul, Nat.reduceLeDiff, Nat.reduceLT, Int.reduceEq, Int.reduceNe, Int.reduceLT, Int.reduceLE, Int.reduceGT, Int.reduceGE, Int.reduceBEq, Int.reduceBNe, ↓reduceIte] at h381
                    obtain rfl := Option.some.inj h
                    simp (config := { maxSteps := 1000000 }) (disch := first | assumption | (simp; done) | omega | (simp; omega)) only [push_cast, reduceCtorEq, Nat.reduceEqDiff, Nat.reduceAdd, Nat.reduceSub, Nat.reduceMul, Nat.reduceLeDiff, Nat.reduceLT, Int.reduceEq, Int.reduceNe, Int.reduceLT, Int.reduceLE, Int.reduceGT, Int.reduceGE, Int.reduceBEq, Int.reduceBNe, ↓reduceIte, h374, h375, h376, h377, h378, h379, h380, h381]
                    refine e_ret (.inr rfl) ?_
                    simp (config := { maxSteps := 1000000 }) (disch := first | assumption | (simp; done) | omega | (simp; omega)) only [push_cast, reduceCtorEq, Nat.reduceEqDiff, Nat.reduceAdd, Nat.reduceSub, Nat.reduceMul, Nat.reduceLeDiff, Nat.reduceLT, Int.reduceEq, Int.reduceNe, Int.reduceLT, Int.reduceLE, Int.reduceGT, Int.reduceGE, Int.reduceBEq, Int.reduceBNe, ↓reduceIte, aret, aresults, aresult, h374, h375, h376, h377, h378, h379, h380, h381]
                    refine ⟨_, rfl, ?_⟩
                    first | (simp (config := { maxSteps := 1000000 }) (disch := first | assumption | (simp; done) | omega | (simp; omega)) only [push_cast, reduceCtorEq, Nat.reduceEqDiff, Nat.reduceAdd, Nat.reduceSub, Nat.reduceMul, Nat.reduceLeDiff, Nat.reduceLT, Int.reduceEq, Int.reduceNe, Int.reduceLT, Int.reduceLE, Int.reduceGT, Int.reduceGE, Int.reduceBEq, Int.reduceBNe, ↓reduceIte, h374, h375, h376, h377, h378, h379, h380, h381] <;> rfl) | rfl
          · try simp (disch := first | assumption | (simp; done) | omega | (simp; omega)) only [push_cast, reduceCtorEq, Nat.reduceEqDiff, Nat.reduceAdd, Nat.reduceSub, Nat.reduceMul, Nat.reduceLeDiff, Nat.reduceLT, Int.reduceEq, Int.reduceNe, Int.reduceLT, Int.reduceLE, Int.reduceGT, Int.reduceGE, Int.reduceBEq, Int.reduceBNe, ↓reduceIte] at h379
            rcases F_if h with ⟨h394, h⟩ | ⟨h394, h⟩
            · try simp (disch := first | assumption | (simp; done) | omega | (simp; omega)) only [push_cast, reduceCtorEq, Nat.reduceEqDiff, Nat.reduceAdd, Nat.reduceSub, Nat.reduceMul, Nat.reduceLeDiff, Nat.reduceLT, Int.reduceEq, Int.reduceNe, Int.reduceLT, Int.reduceLE, Int.reduceGT, Int.reduceGE, Int.reduceBEq, Int.reduceBNe, ↓reduceIte] at h394
              obtain rfl := Option.some.inj h
              simp (config := { maxSteps := 1000000 }) (disch := first | assumption | (simp; done) | omega | (simp; omega)) only [push_cast, reduceCtorEq, Nat.reduceEqDiff, Nat.reduceAdd, Nat.reduceSub, Nat.reduceMul, Nat.reduceLeDiff, Nat.reduceLT, Int.reduceEq, Int.reduceNe, Int.reduceLT, Int.reduceLE, Int.reduceGT, Int.reduceGE, Int.reduceBEq, Int.reduceBNe, ↓reduceIte, h374, h375, h376, h377, h378, h379, h394]
              refine e_ret (.inr rfl) ?_
              simp (config := { maxSteps := 1000000 }) (disch := first | assumption | (simp; done) | omega | (simp; omega)) only [push_cast, reduceCtorEq, Nat.reduceEqDiff, Nat.reduceAdd, Nat.reduceSub, Nat.reduceMul, Nat.reduceLeDiff, Nat.reduceLT, Int.reduceEq, Int.reduceNe, Int.reduceLT, Int.reduceLE, Int.reduceGT, Int.reduceGE, Int.reduceBEq, Int.reduceBNe, ↓reduceIte, aret, aresults, aresult, h374, h375, h376, h377, h378, h379, h394]
              refine ⟨_, rfl, ?_⟩
              first | (simp (config := { maxSteps := 1000000 }) (disch := first | assumption | (simp; done) | omega | (simp; omega)) only [push_cast, reduceCtorEq, Nat.reduceEqDiff, Nat.reduceAdd, Nat.reduceSub, Nat.reduceMul, Nat.reduceLeDiff, Nat.reduceLT, Int.reduceEq, Int.reduceNe, Int.reduceLT, Int.reduceLE, Int.reduceGT, Int.reduceGE, Int.reduceBEq, Int.reduceBNe, ↓reduceIte, h374, h375, h376, h377, h378, h379, h394] <;> rfl) | rfl
            · try simp (disch := first | assumption | (simp; done) | omega | (simp; omega)) only [push_cast, reduceCtorEq, Nat.reduceEqDiff, Nat.reduceAdd, Nat.reduceSub, Nat.reduceMul, Nat.reduceLeDiff, Nat.reduceLT, Int.reduceEq, Int.reduceNe, Int.reduceLT, Int.reduceLE, Int.reduceGT, Int.reduceGE, Int.reduceBEq, Int.reduceBNe, ↓reduceIte] at h394
              rcases F_if h with ⟨h395, h⟩ | ⟨h395, h⟩
              · try simp (disch := first | assumption | (simp; done) | omega | (simp; omega)) only [push_cast, reduceCtorEq, Nat.reduceEqDiff, Nat.reduceAdd, Nat.reduceSub, Nat.reduceMul, Nat.reduceLeDiff, Nat.reduceLT, Int.reduceEq, Int.reduceNe, Int.reduceLT, Int.reduceLE, Int.reduceGT, Int.reduceGE, Int.reduceBEq, Int.reduceBNe, ↓reduceIte] at h395
                rcases F_if h with ⟨h396, h⟩ | ⟨h396, h⟩
                · try simp (disch := first | assumption | (simp; done) | omega | (simp; omega)) only [push_cast, reduceCtorEq, Nat.reduceEqDiff, Nat.reduceAdd, Nat.reduceSub, Nat.reduceMul, Nat.reduceLeDiff, Nat.reduceLT, Int.reduceEq, Int.reduceNe, Int.reduceLT, Int.reduceLE, Int.reduceGT, Int.reduceGE, Int.reduceBEq, Int.reduceBNe, ↓reduceIte] at h396
                  obtain ⟨v7, h397, h⟩ := F_bd h
                  simp (config := { maxSteps := 1000000 }) (disch := first | assumption | (simp; done) | omega | (simp; omega)) only [push_cast, reduceCtorEq, Nat.reduceEqDiff, Nat.reduceAdd, Nat.reduceSub, Nat.reduceMul, Nat.reduceLeDiff, Nat.reduceLT, Int.reduceEq, Int.reduceNe, Int.reduceLT, Int.reduceLE, Int.reduceGT, Int.reduceGE, Int.reduceBEq, Int.reduceBNe, ↓reduceIte, h374, h375, h376, h377, h378, h379, h394, h395, h396]
                  refine call_new (by rfl) (c45 N _ _ _ h397) ?_ rfl ?_
                  · simp (config := { maxSteps := 1000000 }) (disch := first | assumption | (simp; done) | omega | (simp; omega)) only [push_cast, reduceCtorEq, Nat.reduceEqDiff, Nat.reduceAdd, Nat.reduceSub, Nat.reduceMul, Nat.reduceLeDiff, Nat.reduceLT, Int.reduceEq, Int.reduceNe, Int.reduceLT, Int.reduceLE, Int.reduceGT, Int.reduceGE, Int.reduceBEq, Int.reduceBNe, ↓reduceIte, h374, h375, h376, h377, h378, h379, h394, h395, h396] <;> rfl
                  obtain rfl := Option.some.inj h
                  simp (config := { maxSteps := 1000000 }) (disch := first | assumption | (simp; done) | omega | (simp; omega)) only [push_cast, reduceCtorEq, Nat.reduceEqDiff, Nat.reduceAdd, Nat.reduceSub, Nat.reduceMul, Nat.reduceLeDiff, Nat.reduceLT, Int.reduceEq, Int.reduceNe, Int.reduceLT, Int.reduceLE, Int.reduceGT, Int.reduceGE, Int.reduceBEq, Int.reduceBNe, ↓reduceIte, h374, h375, h376, h377, h378, h379, h394, h395, h396]
                  refine e_ret (.inr rfl) ?_
                  simp (config := { maxSteps := 1000000 }) (disch := first | assumption | (simp; done) | omega | (simp; omega)) only [push_cast, reduceCtorEq, Nat.reduceEqDiff, Nat.reduceAdd, Nat.reduceSub, Nat.reduceMul, Nat.reduceLeDiff, Nat.reduceLT, Int.reduceEq, Int.reduceNe, Int.reduceLT, Int.reduceLE, Int.reduceGT, Int.reduceGE, Int.reduceBEq, Int.reduceBNe, ↓reduceIte, aret, aresults, aresult, h374, h375, h376, h377, h378, h379, h394, h395, h396]
                  refine ⟨_, rfl, ?_⟩
                  first | (simp (config := { maxSteps := 1000000 }) (disch := first | assumption | (simp; done) | omega | (simp; omega)) only [push_cast, reduceCtorEq, Nat.reduceEqDiff, Nat.reduceAdd, Nat.reduceSub, Nat.reduceMul, Nat.reduceLeDiff, Nat.reduceLT, Int.reduceEq, Int.reduceNe, Int.reduceLT, Int.reduceLE, Int.reduceGT, Int.reduceGE, Int.reduceBEq, Int.reduceBNe, ↓reduceIte, h374, h375, h376, h377, h378, h379, h394, h395, h396] <;> rfl) | rfl
                · try simp (disch := first | assumption | (simp; done) | omega | (simp; omega)) only [push_cast, reduceCtorEq, Nat.reduceEqDiff, Nat.reduceAdd, Nat.reduceSub, Nat.reduceMul, Nat.reduceLeDiff, Nat.reduceLT, Int.reduceEq, Int.reduceNe, Int.reduceLT, Int.reduceLE, Int.reduceGT, Int.reduceGE, Int.reduceBEq, Int.reduceBNe, ↓reduceIte] at h396
                  obtain rfl := Option.some.inj h
                  simp (config := { maxSteps := 1000000 }) (disch := first | assumption | (simp; done) | omega | (simp; omega)) only [push_cast, reduceCtorEq, Nat.reduceEqDiff, Nat.reduceAdd, Nat.reduceSub, Nat.reduceMul, Nat.reduceLeDiff, Nat.reduceLT, Int.reduceEq, Int.reduceNe, Int.reduceLT, Int.reduceLE, Int.reduceGT, Int.reduceGE, Int.reduceBEq, Int.reduceBNe, ↓reduceIte, h374, h375, h376, h377, h378, h379, h394, h395, h396]
                  refine e_ret (.inr rfl) ?_
                  simp (config := { maxSteps := 1000000 }) (disch := first | assumption | (simp; done) | omega | (simp; omega)) only [push_cast, reduceCtorEq, Nat.reduceEqDiff, Nat.reduceAdd, Nat.reduceSub, Nat.reduceMul, Nat.reduceLeDiff, Nat.reduceLT, Int.reduceEq, Int.reduceNe, Int.reduceLT, Int.reduceLE, Int.reduceGT, Int.reduceGE, Int.reduceBEq, Int.reduceBNe, ↓reduceIte, aret, aresults, aresult, h374, h375, h376, h377, h378, h379, h394, h395, h396]
                  refine ⟨_, rfl, ?_⟩
                  first | (simp (config := { maxSteps := 1000000 }) (disch := first | assumption | (simp; done) | omega | (simp; omega)) only [push_cast, reduceCtorEq, Nat.reduceEqDiff, Nat.reduceAdd, Nat.reduceSub, Nat.reduceMul, Nat.reduceLeDiff, Nat.reduceLT, Int.reduceEq, Int.reduceNe, Int.reduceLT, Int.reduceLE, Int.reduceGT, Int.reduceGE, Int.reduceBEq, Int.reduceBNe, ↓reduceIte, h374, h375, h376, h377, h378, h379, h394, h395, h396] <;> rfl) | rfl
              · try simp (disch := first | assumption | (simp; done) | omega | (simp; omega)) only [push_cast, reduceCtorEq, Nat.reduceEqDiff, Nat.reduceAdd, Nat.reduceSub, Nat.reduceMul, Nat.reduceLeDiff, Nat.reduceLT, Int.reduceEq, Int.reduceNe, Int.reduceLT, Int.reduceLE, Int.reduceGT, Int.reduceGE, Int.reduceBEq, Int.reduceBNe, ↓reduceIte] at h395
                obtain ⟨h398, h⟩ := F_ck h
                try simp (disch := first | assumption | (simp; done) | omega | (simp; omega)) only [push_cast, reduceCtorEq, Nat.reduceEqDiff, Nat.reduceAdd, Nat.reduceSub, Nat.reduceMul, Nat.reduceLeDiff, Nat.reduceLT, Int.reduceEq, Int.reduceNe, Int.reduceLT, Int.reduceLE, Int.reduceGT, Int.reduceGE, Int.reduceBEq, Int.reduceBNe, ↓reduceIte] at h398
                simp (config := { maxSteps := 1000000 }) (disch := first | assumption | (simp; done) | omega | (simp; omega)) only [push_cast, reduceCtorEq, Nat.reduceEqDiff, Nat.reduceAdd, Nat.reduceSub, Nat.reduceMul, Nat.reduceLeDiff, Nat.reduceLT, Int.reduceEq, Int.reduceNe, Int.reduceLT, Int.reduceLE, Int.reduceGT, Int.reduceGE, Int.reduceBEq, Int.reduceBNe, ↓reduceIte, h374, h375, h376, h377, h378, h379, h394, h395, h398]
                refine loop_own0 7 3 rfl ?_
                simp (config := { maxSteps := 1000000 }) (disch := first | assumption | (simp; done) | omega | (simp; omega)) only [push_cast, reduceCtorEq, Nat.reduceEqDiff, Nat.reduceAdd, Nat.reduceSub, Nat.reduceMul, Nat.reduceLeDiff, Nat.reduceLT, Int.reduceEq, Int.reduceNe, Int.reduceLT, Int.reduceLE, Int.reduceGT, Int.reduceGE, Int.reduceBEq, Int.reduceBNe, ↓reduceIte, h374, h375, h376, h377, h378, h379, h394, h395, h398]
                refine loop_of (I26_0 N p0 _) N [4, 5, 6, 7, 8] [2, 3, 4, 5, 6] (by decide) ⟨0, (p1.Seq + 1), [p1], [], h, ?_⟩ ?_
                · rw [wk_mk]
                  simp (config := { maxSteps := 1000000 }) (disch := first | assumption | (simp; done) | omega | (simp; omega)) only [push_cast, reduceCtorEq, Nat.reduceEqDiff, Nat.reduceAdd, Nat.reduceSub, Nat.reduceMul, Nat.reduceLeDiff, Nat.reduceLT, Int.reduceEq, Int.reduceNe, Int.reduceLT, Int.reduceLE, Int.reduceGT, Int.reduceGE, Int.reduceBEq, Int.reduceBNe, ↓reduceIte, h374, h375, h376, h377, h378, h379, h394, h395, h398] <;> rfl
                · rintro n s ⟨a8, a9, a10, a11, h, rfl⟩
                  cases n with
                  | zero => exact absurd h (by simp [L26_0])
                  | succ m1 =>
                    rw [L26_0] at h
                    unfold f26b23
                    rcases F_if h with ⟨h399, h⟩ | ⟨h399, h⟩
                    · try simp (disch := first | assumption | (simp; done) | omega | (simp; omega)) only [push_cast, reduceCtorEq, Nat.reduceEqDiff, Nat.reduceAdd, Nat.reduceSub, Nat.reduceMul, Nat.reduceLeDiff, Nat.reduceLT, Int.reduceEq, Int.reduceNe, Int.reduceLT, Int.reduceLE, Int.reduceGT, Int.reduceGE, Int.reduceBEq, Int.reduceBNe, ↓reduceIte] at h399
                      obtain ⟨x12, h400, h401, h⟩ := F_get h
                      have h403 := get_lt h400 h401
                      have h402 := map_get Frame.row h401
                      try simp (disch := first | assumption | (simp; done) | omega | (simp; omega)) only [push_cast, reduceCtorEq, Nat.reduceEqDiff, Nat.reduceAdd, Nat.reduceSub, Nat.reduceMul, Nat.reduceLeDiff, Nat.reduceLT, Int.reduceEq, Int.reduceNe, Int.reduceLT, Int.reduceLE, Int.reduceGT, Int.reduceGE, Int.reduceBEq, Int.reduceBNe, ↓reduceIte] at h402
                      try simp (disch := first | assumption | (simp; done) | omega | (simp; omega)) only [push_cast, reduceCtorEq, Nat.reduceEqDiff, Nat.reduceAdd, Nat.reduceSub, Nat.reduceMul, Nat.reduceLeDiff, Nat.reduceLT, Int.reduceEq, Int.reduceNe, Int.reduceLT, Int.reduceLE, Int.reduceGT, Int.reduceGE, Int.reduceBEq, Int.reduceBNe, ↓reduceIte] at h403
                      rcases F_if h with ⟨h404, h⟩ | ⟨h404, h⟩
                      · try simp (disch := first | assumption | (simp; done) | omega | (simp; omega)) only [push_cast, reduceCtorEq, Nat.reduceEqDiff, Nat.reduceAdd, Nat.reduceSub, Nat.reduceMul, Nat.reduceLeDiff, Nat.reduceLT, Int.reduceEq, Int.reduceNe, Int.reduceLT, Int.reduceLE, Int.reduceGT, Int.reduceGE, Int.reduceBEq, Int.reduceBNe, ↓reduceIte] at h404
                        obtain ⟨h405, h⟩ := F_gd h
                        try simp (disch := first | assumption | (simp; done) | omega | (simp; omega)) only [push_cast, reduceCtorEq, Nat.reduceEqDiff, Nat.reduceAdd, Nat.reduceSub, Nat.reduceMul, Nat.reduceLeDiff, Nat.reduceLT, Int.reduceEq, Int.reduceNe, Int.reduceLT, Int.reduceLE, Int.reduceGT, Int.reduceGE, Int.reduceBEq, Int.reduceBNe, ↓reduceIte] at h405
                        obtain ⟨h406, h⟩ := F_ck h
                        try simp (disch := first | assumption | (simp; done) | omega | (simp; omega)) only [push_cast, reduceCtorEq, Nat.reduceEqDiff, Nat.reduceAdd, Nat.reduceSub, Nat.reduceMul, Nat.reduceLeDiff, Nat.reduceLT, Int.reduceEq, Int.reduceNe, Int.reduceLT, Int.reduceLE, Int.reduceGT, Int.reduceGE, Int.reduceBEq, Int.reduceBNe, ↓reduceIte] at h406
                        obtain ⟨h407, h⟩ := F_ck h
                        try simp (disch := first | assumption | (simp; done) | omega | (simp; omega)) only [push_cast, reduceCtorEq, Nat.reduceEqDiff, Nat.reduceAdd, Nat.reduceSub, Nat.reduceMul, Nat.reduceLeDiff, Nat.reduceLT, Int.reduceEq, Int.reduceNe, Int.reduceLT, Int.reduceLE, Int.reduceGT, Int.reduceGE, Int.reduceBEq, Int.reduceBNe, ↓reduceIte] at h407
                        simp (config := { maxSteps := 1000000 }) (disch := first | assumption | (simp; done) | omega | (simp; omega)) only [push_cast, reduceCtorEq, Nat.reduceEqDiff, Nat.reduceAdd, Nat.reduceSub, Nat.reduceMul, Nat.reduceLeDiff, Nat.reduceLT, Int.reduceEq, Int.reduceNe, Int.reduceLT, Int.reduceLE, Int.reduceGT, Int.reduceGE, Int.reduceBEq, Int.reduceBNe, ↓reduceIte, h374, h375, h376, h377, h378, h379, h394, h395, h398, h399, h400, h402, h403, h404, h405, h406, h407]
                        refine lpK_of m1 [4, 5, 6, 7, 8] [0, 1, 2, 6, 4] (by omega) (by decide) ⟨(a8 + 1), (a9 + 1), (a10 ++ [x12]), a11, h, ?_⟩
                        rw [wk_mk]
                        simp (config := { maxSteps := 1000000 }) (disch := first | assumption | (simp; done) | omega | (simp; omega)) only [push_cast, reduceCtorEq, Nat.reduceEqDiff, Nat.reduceAdd, Nat.reduceSub, Nat.reduceMul, Nat.reduceLeDiff, Nat.reduceLT, Int.reduceEq, Int.reduceNe, Int.reduceLT, Int.reduceLE, Int.reduceGT, Int.reduceGE, Int.reduceBEq, Int.reduceBNe, ↓reduceIte, h374, h375, h376, h377, h378, h379, h394, h395, h398, h399, h400, h402, h403, h404, h405, h406, h407] <;> rfl
                      · try simp (disch := first | assumption | (simp; done) | omega | (simp; omega)) only [push_cast, reduceCtorEq, Nat.reduceEqDiff, Nat.reduceAdd, Nat.reduceSub, Nat.reduceMul, Nat.reduceLeDiff, Nat.reduceLT, Int.reduceEq, Int.reduceNe, Int.reduceLT, Int.reduceLE, Int.reduceGT, Int.reduceGE, Int.reduceBEq, Int.reduceBNe, ↓reduceIte] at h404
                        rcases F_if h with ⟨h408, h⟩ | ⟨h408, h⟩
                        · try simp (disch := first | assumption | (simp; done) | omega | (simp; omega)) only [push_cast, reduceCtorEq, Nat.reduceEqDiff, Nat.reduceAdd, Nat.reduceSub, Nat.reduceMul, Nat.reduceLeDiff, Nat.reduceLT, Int.reduceEq, Int.reduceNe, Int.reduceLT, Int.reduceLE, Int.reduceGT, Int.reduceGE, Int.reduceBEq, Int.reduceBNe, ↓reduceIte] at h408
                          obtain ⟨h409, h⟩ := F_gd h
                          try simp (disch := first | assumption | (simp; done) | omega | (simp; omega)) only [push_cast, reduceCtorEq, Nat.reduceEqDiff, Nat.reduceAdd, Nat.reduceSub, Nat.reduceMul, Nat.reduceLeDiff, Nat.reduceLT, Int.reduceEq, Int.reduceNe, Int.reduceLT, Int.reduceLE, Int.reduceGT, Int.reduceGE, Int.reduceBEq, Int.reduceBNe, ↓reduceIte] at h409
                          obtain ⟨h410, h⟩ := F_ck h
                          try simp (disch := first | assumption | (simp; done) | omega | (simp; omega)) only [push_cast, reduceCtorEq, Nat.reduceEqDiff, Nat.reduceAdd, Nat.reduceSub, Nat.reduceMul, Nat.reduceLeDiff, Nat.reduceLT, Int.reduceEq, Int.reduceNe, Int.reduceLT, Int.reduceLE, Int.reduceGT, Int.reduceGE, Int.reduceBEq, Int.reduceBNe, ↓reduceIte] at h410
                          simp (config := { maxSteps := 1000000 }) (disch := first | assumption | (simp; done) | omega | (simp; omega)) only [push_cast, reduceCtorEq, Nat.reduceEqDiff, Nat.reduceAdd, Nat.reduceSub, Nat.reduceMul, Nat.reduceLeDiff, Nat.reduceLT, Int.reduceEq, Int.reduceNe, Int.reduceLT, Int.reduceLE, Int.reduceGT, Int.reduceGE, Int.reduceBEq, Int.reduceBNe, ↓reduceIte, h374, h375, h376, h377, h378, h379, h394, h395, h398, h399, h400, h402, h403, h404, h408, h409, h410]
                          refine lpK_of m1 [4, 5, 6, 7, 8] [0, 1, 2, 3, 6] (by omega) (by decide) ⟨(a8 + 1), a9, a10, (a11 ++ [x12]), h, ?_⟩
                          rw [wk_mk]
                          simp (config := { maxSteps := 1000000 }) (disch := first | assumption | (simp; done) | omega | (simp; omega)) only [push_cast, reduceCtorEq, Nat.reduceEqDiff, Nat.reduceAdd, Nat.reduceSub, Nat.reduceMul, Nat.reduceLeDiff, Nat.reduceLT, Int.reduceEq, Int.reduceNe, Int.reduceLT, Int.reduceLE, Int.reduceGT, Int.reduceGE, Int.reduceBEq, Int.reduceBNe, ↓reduceIte, h374, h375, h376, h377, h378, h379, h394, h395, h398, h399, h400, h402, h403, h404, h408, h409, h410] <;> rfl
                        · try simp (disch := first | assumption | (simp; done) | omega | (simp; omega)) only [push_cast, reduceCtorEq, Nat.reduceEqDiff, Nat.reduceAdd, Nat.reduceSub, Nat.reduceMul, Nat.reduceLeDiff, Nat.reduceLT, Int.reduceEq, Int.reduceNe, Int.reduceLT, Int.reduceLE, Int.reduceGT, Int.reduceGE, Int.reduceBEq, Int.reduceBNe, ↓reduceIte] at h408
                          obtain ⟨h411, h⟩ := F_ck h
                          try simp (disch := first | assumption | (simp; done) | omega | (simp; omega)) only [push_cast, reduceCtorEq, Nat.reduceEqDiff, Nat.reduceAdd, Nat.reduceSub, Nat.reduceMul, Nat.reduceLeDiff, Nat.reduceLT, Int.reduceEq, Int.reduceNe, Int.reduceLT, Int.reduceLE, Int.reduceGT, Int.reduceGE, Int.reduceBEq, Int.reduceBNe, ↓reduceIte] at h411
                          simp (config := { maxSteps := 1000000 }) (disch := first | assumption | (simp; done) | omega | (simp; omega)) only [push_cast, reduceCtorEq, Nat.reduceEqDiff, Nat.reduceAdd, Nat.reduceSub, Nat.reduceMul, Nat.reduceLeDiff, Nat.reduceLT, Int.reduceEq, Int.reduceNe, Int.reduceLT, Int.reduceLE, Int.reduceGT, Int.reduceGE, Int.reduceBEq, Int.reduceBNe, ↓reduceIte, h374, h375, h376, h377, h378, h379, h394, h395, h398, h399, h400, h402, h403, h404, h408, h411]
                          refine lpK_of m1 [4, 5, 6, 7, 8] [0, 1, 2, 3, 4] (by omega) (by decide) ⟨(a8 + 1), a9, a10, a11, h, ?_⟩
                          rw [wk_mk]
                          simp (config := { maxSteps := 1000000 }) (disch := first | assumption | (simp; done) | omega | (simp; omega)) only [push_cast, reduceCtorEq, Nat.reduceEqDiff, Nat.reduceAdd, Nat.reduceSub, Nat.reduceMul, Nat.reduceLeDiff, Nat.reduceLT, Int.reduceEq, Int.reduceNe, Int.reduceLT, Int.reduceLE, Int.reduceGT, Int.reduceGE, Int.reduceBEq, Int.reduceBNe, ↓reduceIte, h374, h375, h376, h377, h378, h379, h394, h395, h398, h399, h400, h402, h403, h404, h408, h411] <;> rfl
                    · try simp (disch := first | assumption | (simp; done) | omega | (simp; omega)) only [push_cast, reduceCtorEq, Nat.reduceEqDiff, Nat.reduceAdd, Nat.reduceSub, Nat.reduceMul, Nat.reduceLeDiff, Nat.reduceLT, Int.reduceEq, Int.reduceNe, Int.reduceLT, Int.reduceLE, Int.reduceGT, Int.reduceGE, Int.reduceBEq, Int.reduceBNe, ↓reduceIte] at h399
                      obtain rfl := Option.some.inj h
                      simp (config := { maxSteps := 1000000 }) (disch := first | assumption | (simp; done) | omega | (simp; omega)) only [push_cast, reduceCtorEq, Nat.reduceEqDiff, Nat.reduceAdd, Nat.reduceSub, Nat.reduceMul, Nat.reduceLeDiff, Nat.reduceLT, Int.reduceEq, Int.reduceNe, Int.reduceLT, Int.reduceLE, Int.reduceGT, Int.reduceGE, Int.reduceBEq, Int.reduceBNe, ↓reduceIte, h374, h375, h376, h377, h378, h379, h394, h395, h398, h399]
                      refine e_ret (.inr rfl) ?_
                      simp (config := { maxSteps := 1000000 }) (disch := first | assumption | (simp; done) | omega | (simp; omega)) only [push_cast, reduceCtorEq, Nat.reduceEqDiff, Nat.reduceAdd, Nat.reduceSub, Nat.reduceMul, Nat.reduceLeDiff, Nat.reduceLT, Int.reduceEq, Int.reduceNe, Int.reduceLT, Int.reduceLE, Int.reduceGT, Int.reduceGE, Int.reduceBEq, Int.reduceBNe, ↓reduceIte, aret, aresults, aresult, h374, h375, h376, h377, h378, h379, h394, h395, h398, h399]
                      refine ⟨_, rfl, ?_⟩
                      first | (simp (config := { maxSteps := 1000000 }) (disch := first | assumption | (simp; done) | omega | (simp; omega)) only [push_cast, reduceCtorEq, Nat.reduceEqDiff, Nat.reduceAdd, Nat.reduceSub, Nat.reduceMul, Nat.reduceLeDiff, Nat.reduceLT, Int.reduceEq, Int.reduceNe, Int.reduceLT, Int.reduceLE, Int.reduceGT, Int.reduceGE, Int.reduceBEq, Int.reduceBNe, ↓reduceIte, h374, h375, h376, h377, h378, h379, h394, h395, h398, h399] <;> rfl) | rfl
  · try simp (disch := first | assumption | (simp; done) | omega | (simp; omega)) only [push_cast, reduceCtorEq, Nat.reduceEqDiff, Nat.reduceAdd, Nat.reduceSub, Nat.reduceMul, Nat.reduceLeDiff, Nat.reduceLT, Int.reduceEq, Int.reduceNe, Int.reduceLT, Int.reduceLE, Int.reduceGT, Int.reduceGE, Int.reduceBEq, Int.reduceBNe, ↓reduceIte] at h374
    obtain rfl := Option.some.inj h
    simp (config := { maxSteps := 1000000 }) (disch := first | assumption | (simp; done) | omega | (simp; omega)) only [push_cast, reduceCtorEq, Nat.reduceEqDiff, Nat.reduceAdd, Nat.reduceSub, Nat.reduceMul, Nat.reduceLeDiff, Nat.reduceLT, Int.reduceEq, Int.reduceNe, Int.reduceLT, Int.reduceLE, Int.reduceGT, Int.reduceGE, Int.reduceBEq, Int.reduceBNe, ↓reduceIte, h374]
    refine e_ret (.inr rfl) ?_
    simp (config := { maxSteps := 1000000 }) (disch := first | assumption | (simp; done) | omega | (simp; omega)) only [push_cast, reduceCtorEq, Nat.reduceEqDiff, Nat.reduceAdd, Nat.reduceSub, Nat.reduceMul, Nat.reduceLeDiff, Nat.reduceLT, Int.reduceEq, Int.reduceNe, Int.reduceLT, Int.reduceLE, Int.reduceGT, Int.reduceGE, Int.reduceBEq, Int.reduceBNe, ↓reduceIte, aret, aresults, aresult, h374]
    refine ⟨_, rfl, ?_⟩
    first | (simp (config := { maxSteps := 1000000 }) (disch := first | assumption | (simp; done) | omega | (simp; omega)) only [push_cast, reduceCtorEq, Nat.reduceEqDiff, Nat.reduceAdd, Nat.reduceSub, Nat.reduceMul, Nat.reduceLeDiff, Nat.reduceLT, Int.reduceEq, Int.reduceNe, Int.reduceLT, Int.reduceLE, Int.reduceGT, Int.reduceGE, Int.reduceBEq, Int.reduceBNe, ↓reduceIte, h374] <;> rfl) | rfl

/-! ## 5 rivermark.rivermarklaw11.LinkReceivesAsSpecified -/
def f5g0 : List RO :=
  [⟨(.some 2), (.box (.tmp 0)), .none⟩,
   ⟨(.some 3), (.box (.tmp 1)), .none⟩,
   ⟨(.some 4), (.mv (.const (.bool .false))), .none⟩]
def f5g1 : List RO :=
  [⟨(.some 11), (.faddr 1 (.tmp 2)), .none⟩,
   ⟨(.some 12), (.load .none (.tmp 11)), .none⟩,
   ⟨(.some 13), (.len .false (.tmp 12)), .none⟩,
   ⟨(.some 14), (.bin .gtr (.tmp 13) (.const (.int .i64 70))), .none⟩,
   ⟨(.some 15), (.mv (.tmp 14)), .none⟩,
   ⟨(.some 16), (.faddr 2 (.tmp 3)), (.some (15, .false))⟩,
   ⟨(.some 17), (.load .none (.tmp 16)), (.some (15, .false))⟩,
   ⟨(.some 18), (.len .true (.tmp 17)), (.some (15, .false))⟩,
   ⟨(.some 19), (.bin .gtr (.tmp 18) (.const (.int .i64 100))), (.some (15, .false))⟩,
   ⟨(.some 20), (.pick (.tmp 15) (.const (.bool .true)) (.tmp 19)), .none⟩]
def f5g2 : List RO :=
  [⟨(.some 21), (.call (.func 9) []), .none⟩,
   ⟨(.some 4), (.mv (.tmp 21)), .none⟩]
def f5g3 : List RO :=
  [⟨(.some 5), (.mv (.const (.int .i64 0))), .none⟩]
def f5g4 : List RO :=
  [⟨(.some 22), (.mv (.tmp 5)), .none⟩,
   ⟨(.some 23), (.faddr 1 (.tmp 2)), .none⟩,
   ⟨(.some 24), (.load .none (.tmp 23)), .none⟩,
   ⟨(.some 25), (.len .false (.tmp 24)), .none⟩,
   ⟨(.some 26), (.bin .lss (.tmp 22) (.tmp 25)), .none⟩]
def f5g5 : List RO :=
  [⟨(.some 29), (.faddr 1 (.tmp 2)), .none⟩,
   ⟨(.some 30), (.load .none (.tmp 29)), .none⟩,
   ⟨(.some 31), (.mv (.tmp 5)), .none⟩,
   ⟨(.some 32), (.iaddr 3 (.tmp 30) (.tmp 31)), .none⟩,
   ⟨(.some 33), (.faddr 2 (.tmp 32)), .none⟩,
   ⟨(.some 34), (.load .none (.tmp 33)), .none⟩,
   ⟨(.some 35), (.len .true (.tmp 34)), .none⟩,
   ⟨(.some 36), (.bin .gtr (.tmp 35) (.const (.int .i64 100))), .none⟩]
def f5g6 : List RO :=
  [⟨(.some 37), (.call (.func 9) []), .none⟩,
   ⟨(.some 4), (.mv (.tmp 37)), .none⟩]
def f5g7 : List RO :=
  [⟨(.some 27), (.mv (.tmp 5)), .none⟩,
   ⟨(.some 28), (.bin .add (.tmp 27) (.const (.int .i64 1))), .none⟩,
   ⟨(.some 5), (.mv (.tmp 28)), .none⟩]
def f5b8 : RCode := (.seq (.seq (.reg .false f5g4) (.cond (.tmp 26) .skip (.exit 0))) (.seq (.block 1 (.seq (.reg .false f5g5) (.cond (.tmp 36) (.seq (.reg .false f5g6) .ret) .skip))) (.reg .false f5g7)))
def f5g9 : List RO :=
  [⟨(.some 39), (.load (.some 2) (.tmp 2)), .none⟩,
   ⟨(.some 40), (.load (.some 3) (.tmp 3)), .none⟩,
   ⟨(.some 41), (.call (.func 23) [(.tmp 39), (.tmp 40)]), .none⟩,
   ⟨(.some 38), (.mv (.tmp 41)), .none⟩,
   ⟨(.some 42), (.ext (.tmp 38) 0), .none⟩,
   ⟨(.some 43), (.ext (.tmp 38) 1), .none⟩,
   ⟨(.some 44), (.ext (.tmp 38) 2), .none⟩,
   ⟨(.some 6), (.new [(.D (.I .i64 0)), (.fl [])]), .none⟩,
   ⟨.none, (.store 2 (.tmp 6) (.tmp 42)), .none⟩,
   ⟨(.some 7), (.mv (.tmp 43)), .none⟩,
   ⟨(.some 8), (.mv (.tmp 44)), .none⟩]
def f5g10 : List RO :=
  [⟨(.some 45), (.load (.some 2) (.tmp 2)), .none⟩,
   ⟨(.some 46), (.call (.func 25) [(.tmp 45)]), .none⟩,
   ⟨(.some 9), (.new [(.D (.I .i64 0)), (.fl [])]), .none⟩,
   ⟨.none, (.store 2 (.tmp 9) (.tmp 46)), .none⟩]
def f5g11 : List RO :=
  [⟨(.some 47), (.load (.some 2) (.tmp 2)), .none⟩,
   ⟨(.some 48), (.load (.some 3) (.tmp 3)), .none⟩,
   ⟨(.some 49), (.call (.func 26) [(.tmp 47), (.tmp 48)]), .none⟩,
   ⟨(.some 10), (.new [(.D (.I .i64 0)), (.fl []), (.fl []), (.D (.I .i64 0))]), .none⟩,
   ⟨.none, (.store 4 (.tmp 10) (.tmp 49)), .none⟩]
def f5g12 : List RO :=
  [⟨(.some 50), (.call (.func 9) []), .none⟩,
   ⟨(.some 51), (.mv (.tmp 50)), .none⟩,
   ⟨(.some 52), (.load (.some 2) (.tmp 2)), (.some (51, .true))⟩,
   ⟨(.some 53), (.call (.func 22) [(.tmp 52)]), (.some (51, .true))⟩,
   ⟨(.some 54), (.load (.some 2) (.tmp 2)), (.some (51, .true))⟩,
   ⟨(.some 55), (.call (.func 27) [(.tmp 54)]), (.some (51, .true))⟩,
   ⟨(.some 56), (.beq .false (.tmp 53) (.tmp 55)), (.some (51, .true))⟩,
   ⟨(.some 57), (.pick (.tmp 51) (.tmp 56) (.const (.bool .false))), .none⟩,
   ⟨(.some 58), (.mv (.tmp 57)), .none⟩,
   ⟨(.some 59), (.load (.some 2) (.tmp 6)), (.some (58, .true))⟩,
   ⟨(.some 60), (.faddr 0 (.tmp 10)), (.some (58, .true))⟩,
   ⟨(.some 61), (.load (.some 2) (.tmp 60)), (.some (58, .true))⟩,
   ⟨(.some 62), (.call (.func 24) [(.tmp 59), (.tmp 61)]), (.some (58, .true))⟩,
   ⟨(.some 63), (.pick (.tmp 58) (.tmp 62) (.const (.bool .false))), .none⟩,
   ⟨(.some 64), (.mv (.tmp 63)), .none⟩,
   ⟨(.some 65), (.mv (.tmp 7)), (.some (64, .true))⟩,
   ⟨(.some 66), (.faddr 2 (.tmp 10)), (.some (64, .true))⟩,
   ⟨(.some 67), (.load .none (.tmp 66)), (.some (64, .true))⟩,
   ⟨(.some 68), (.call (.func 21) [(.tmp 65), (.tmp 67)]), (.some (64, .true))⟩,
   ⟨(.some 69), (.pick (.tmp 64) (.tmp 68) (.const (.bool .false))), .none⟩,
   ⟨(.some 70), (.mv (.tmp 69)), .none⟩,
   ⟨(.some 71), (.mv (.tmp 8)), (.some (70, .true))⟩,
   ⟨(.some 72), (.faddr 3 (.tmp 10)), (.some (70, .true))⟩,
   ⟨(.some 73), (.load .none (.tmp 72)), (.some (70, .true))⟩,
   ⟨(.some 74), (.bin .eql (.tmp 71) (.tmp 73)), (.some (70, .true))⟩,
   ⟨(.some 75), (.pick (.tmp 70) (.tmp 74) (.const (.bool .false))), .none⟩,
   ⟨(.some 76), (.mv (.tmp 75)), .none⟩,
   ⟨(.some 77), (.faddr 0 (.tmp 9)), (.some (76, .true))⟩,
   ⟨(.some 78), (.load .none (.tmp 77)), (.some (76, .true))⟩,
   ⟨(.some 79), (.faddr 0 (.tmp 2)), (.some (76, .true))⟩,
   ⟨(.some 80), (.load .none (.tmp 79)), (.some (76, .true))⟩,
   ⟨(.some 81), (.bin .eql (.tmp 78) (.tmp 80)), (.some (76, .true))⟩,
   ⟨(.some 82), (.pick (.tmp 76) (.tmp 81) (.const (.bool .false))), .none⟩,
   ⟨(.some 83), (.mv (.tmp 82)), .none⟩,
   ⟨(.some 84), (.faddr 1 (.tmp 9)), (.some (83, .true))⟩,
   ⟨(.some 85), (.load .none (.tmp 84)), (.some (83, .true))⟩,
   ⟨(.some 86), (.len .false (.tmp 85)), (.some (83, .true))⟩,
   ⟨(.some 87), (.bin .eql (.tmp 86) (.const (.int .i64 0))), (.some (83, .true))⟩,
   ⟨(.some 88), (.pick (.tmp 83) (.tmp 87) (.const (.bool .false))), .none⟩,
   ⟨(.some 4), (.mv (.tmp 88)), .none⟩]
def f5c : RCode := (.seq (.reg .false f5g0) (.seq (.seq (.reg .false f5g1) (.cond (.tmp 20) (.seq (.reg .false f5g2) .ret) .skip)) (.seq (.seq (.reg .false f5g3) (.block 0 (.loop f5b8))) (.seq (.reg .false f5g9) (.seq (.reg .false f5g10) (.seq (.reg .false f5g11) (.seq (.reg .true f5g12) .ret)))))))
def f5r : List RRes := [(.tmp 4)]
attribute [push_cast] f5g0 f5g1 f5g2 f5g3 f5g4 f5g5 f5g6 f5g7 f5g9 f5g10 f5g11 f5g12
def L5_0 (N : Nat) (p0 : Inbox) (p1 : Frame) : Nat → Int → Option Bool
  | 0, _ => none
  | m1+1, a3 => if? (decide (a3 < (p0.Ahead.length : Int))) (get? p0.Ahead (a3) fun x4 => if? (decide ((x4.Body.length : Int) > 100)) (bd? (F9 N ) fun v5 => some (v5)) (ck .i64 (a3 + 1) (L5_0 N p0 p1 m1 (a3 + 1)))) (bd? (F23 N p0 p1) fun v6 => bd? (F25 N p0) fun v7 => bd? (F26 N p0 p1) fun v8 => bd? (F9 N ) fun v9 => if? (v9) (bd? (F22 N p0) fun v10 => bd? (F27 N p0) fun v11 => if? ((v10 == v11)) (bd? (F24 N v6.1 v8.I) fun v12 => if? (v12) (bd? (F21 N v6.2.1 v8.L) fun v13 => if? (v13) (if? ((v6.2.2 == v8.E)) (if? ((v7.Next == p0.Next)) (some (((v7.Ahead.length : Int) == 0))) (some (false))) (some (false))) (some (false))) (some (false))) (some (false))) (some (false)))
def I5_0 (N : Nat) (p0 : Inbox) (p1 : Frame) (r : Bool) (n : Nat) (s : AState) : Prop := ∃ (a3 : Int), L5_0 N p0 p1 n a3 = some r ∧ s = ⟨envL [(2, .ptr (.O 0) 0), (3, .ptr (.O 1) 0), (5, .D (.I .i64 a3))], ownL [], ownL [some (.box [.D (.I .i64 p0.Next), .D (.L (p0.Ahead.map Frame.row))]), some (.box [.D (.B p1.Sum), .D (.I .i64 p1.Seq), .D (.S p1.Body)])], 2⟩
def F5 (N : Nat) (p0 : Inbox) (p1 : Frame) : Option Bool := if? (decide ((p0.Ahead.length : Int) > 70)) (bd? (F9 N ) fun v1 => some (v1)) (if? (decide ((p1.Body.length : Int) > 100)) (bd? (F9 N ) fun v2 => some (v2)) (L5_0 N p0 p1 N 0))
theorem c5 (N : Nat) (p0 : Inbox) (p1 : Frame) (r : Bool) (h : F5 N p0 p1 = some r) : ACall Try.prog 5 [.agg [.D (.I .i64 p0.Next), .D (.L (p0.Ahead.map Frame.row))], .agg [.D (.B p1.Sum), .D (.I .i64 p1.Seq), .D (.S p1.Body)]] [] (.D (.B r)) [] [] := by
  refine ACall.of_bodyW [] (fn := Try.f5) (rc := f5c) (rs := f5r) Try.func5 rfl rfl (by kernel_rfl) (by kernel_rfl) (by kernel_rfl) (by rw [Try.ntmps5]; simp) ?_
  unfold F5 at h
  unfold f5c f5r
  rw [entry_eq _ _]
  rcases F_if h with ⟨h412, h⟩ | ⟨h412, h⟩
  · try simp (disch := first | assumption | (simp; done) | omega | (simp; omega)) only [push_cast, reduceCtorEq, Nat.reduceEqDiff, Nat.reduceAdd, Nat.reduceSub, Nat.reduceMul, Nat.reduceLeDiff, Nat.reduceLT, Int.reduceEq, Int.reduceNe, Int.reduceLT, Int.reduceLE, Int.reduceGT, Int.reduceGE, Int.reduceBEq, Int.reduceBNe, ↓reduceIte] at h412
    obtain ⟨v1, h413, h⟩ := F_bd h
    simp (config := { maxSteps := 1000000 }) (disch := first | assumption | (simp; done) | omega | (simp; omega)) only [push_cast, reduceCtorEq, Nat.reduceEqDiff, Nat.reduceAdd, Nat.reduceSub, Nat.reduceMul, Nat.reduceLeDiff, Nat.reduceLT, Int.reduceEq, Int.reduceNe, Int.reduceLT, Int.reduceLE, Int.reduceGT, Int.reduceGE, Int.reduceBEq, Int.reduceBNe, ↓reduceIte, h412]
    refine call_flat (by rfl) (c9 N _ h413) ?_ rfl ?_
    · simp (config := { maxSteps := 1000000 }) (disch := first | assumption | (simp; done) | omega | (simp; omega)) only [push_cast, reduceCtorEq, Nat.reduceEqDiff, Nat.reduceAdd, Nat.reduceSub, Nat.reduceMul, Nat.reduceLeDiff, Nat.reduceLT, Int.reduceEq, Int.reduceNe, Int.reduceLT, Int.reduceLE, Int.reduceGT, Int.reduceGE, Int.reduceBEq, Int.reduceBNe, ↓reduceIte, h412] <;> rfl
    obtain rfl := Option.some.inj h
    simp (config := { maxSteps := 1000000 }) (disch := first | assumption | (simp; done) | omega | (simp; omega)) only [push_cast, reduceCtorEq, Nat.reduceEqDiff, Nat.reduceAdd, Nat.reduceSub, Nat.reduceMul, Nat.reduceLeDiff, Nat.reduceLT, Int.reduceEq, Int.reduceNe, Int.reduceLT, Int.reduceLE, Int.reduceGT, Int.reduceGE, Int.reduceBEq, Int.reduceBNe, ↓reduceIte, h412]
    refine e_ret (.inr rfl) ?_
    simp (config := { maxSteps := 1000000 }) (disch := first | assumption | (simp; done) | omega | (simp; omega)) only [push_cast, reduceCtorEq, Nat.reduceEqDiff, Nat.reduceAdd, Nat.reduceSub, Nat.reduceMul, Nat.reduceLeDiff, Nat.reduceLT, Int.reduceEq, Int.reduceNe, Int.reduceLT, Int.reduceLE, Int.reduceGT, Int.reduceGE, Int.reduceBEq, Int.reduceBNe, ↓reduceIte, aret, aresults, aresult, h412]
    refine ⟨_, rfl, ?_⟩
    first | (simp (config := { maxSteps := 1000000 }) (disch := first | assumption | (simp; done) | omega | (simp; omega)) only [push_cast, reduceCtorEq, Nat.reduceEqDiff, Nat.reduceAdd, Nat.reduceSub, Nat.reduceMul, Nat.reduceLeDiff, Nat.reduceLT, Int.reduceEq, Int.reduceNe, Int.reduceLT, Int.reduceLE, Int.reduceGT, Int.reduceGE, Int.reduceBEq, Int.reduceBNe, ↓reduceIte, h412] <;> rfl) | rfl
  · try simp (disch := first | assumption | (simp; done) | omega | (simp; omega)) only [push_cast, reduceCtorEq, Nat.reduceEqDiff, Nat.reduceAdd, Nat.reduceSub, Nat.reduceMul, Nat.reduceLeDiff, Nat.reduceLT, Int.reduceEq, Int.reduceNe, Int.reduceLT, Int.reduceLE, Int.reduceGT, Int.reduceGE, Int.reduceBEq, Int.reduceBNe, ↓reduceIte] at h412
    rcases F_if h with ⟨h414, h⟩ | ⟨h414, h⟩
    · try simp (disch := first | assumption | (simp; done) | omega | (simp; omega)) only [push_cast, reduceCtorEq, Nat.reduceEqDiff, Nat.reduceAdd, Nat.reduceSub, Nat.reduceMul, Nat.reduceLeDiff, Nat.reduceLT, Int.reduceEq, Int.reduceNe, Int.reduceLT, Int.reduceLE, Int.reduceGT, Int.reduceGE, Int.reduceBEq, Int.reduceBNe, ↓reduceIte] at h414
      obtain ⟨v2, h415, h⟩ := F_bd h
      simp (config := { maxSteps := 1000000 }) (disch := first | assumption | (simp; done) | omega | (simp; omega)) only [push_cast, reduceCtorEq, Nat.reduceEqDiff, Nat.reduceAdd, Nat.reduceSub, Nat.reduceMul, Nat.reduceLeDiff, Nat.reduceLT, Int.reduceEq, Int.reduceNe, Int.reduceLT, Int.reduceLE, Int.reduceGT, Int.reduceGE, Int.reduceBEq, Int.reduceBNe, ↓reduceIte, h412, h414]
      refine call_flat (by rfl) (c9 N _ h415) ?_ rfl ?_
      · simp (config := { maxSteps := 1000000 }) (disch := first | assumption | (simp; done) | omega | (simp; omega)) only [push_cast, reduceCtorEq, Nat.reduceEqDiff, Nat.reduceAdd, Nat.reduceSub, Nat.reduceMul, Nat.reduceLeDiff, Nat.reduceLT, Int.reduceEq, Int.reduceNe, Int.reduceLT, Int.reduceLE, Int.reduceGT, Int.reduceGE, Int.reduceBEq, Int.reduceBNe, ↓reduceIte, h412, h414] <;> rfl
      obtain rfl := Option.some.inj h
      simp (config := { maxSteps := 1000000 }) (disch := first | assumption | (simp; done) | omega | (simp; omega)) only [push_cast, reduceCtorEq, Nat.reduceEqDiff, Nat.reduceAdd, Nat.reduceSub, Nat.reduceMul, Nat.reduceLeDiff, Nat.reduceLT, Int.reduceEq, Int.reduceNe, Int.reduceLT, Int.reduceLE, Int.reduceGT, Int.reduceGE, Int.reduceBEq, Int.reduceBNe, ↓reduceIte, h412, h414]
      refine e_ret (.inr rfl) ?_
      simp (config := { maxSteps := 1000000 }) (disch := first | assumption | (simp; done) | omega | (simp; omega)) only [push_cast, reduceCtorEq, Nat.reduceEqDiff, Nat.reduceAdd, Nat.reduceSub, Nat.reduceMul, Nat.reduceLeDiff, Nat.reduceLT, Int.reduceEq, Int.reduceNe, Int.reduceLT, Int.reduceLE, Int.reduceGT, Int.reduceGE, Int.reduceBEq, Int.reduceBNe, ↓reduceIte, aret, aresults, aresult, h412, h414]
      refine ⟨_, rfl, ?_⟩
      first | (simp (config := { maxSteps := 1000000 }) (disch := first | assumption | (simp; done) | omega | (simp; omega)) only [push_cast, reduceCtorEq, Nat.reduceEqDiff, Nat.reduceAdd, Nat.reduceSub, Nat.reduceMul, Nat.reduceLeDiff, Nat.reduceLT, Int.reduceEq, Int.reduceNe, Int.reduceLT, Int.reduceLE, Int.reduceGT, Int.reduceGE, Int.reduceBEq, Int.reduceBNe, ↓reduceIte, h412, h414] <;> rfl) | rfl
    · try simp (disch := first | assumption | (simp; done) | omega | (simp; omega)) only [push_cast, reduceCtorEq, Nat.reduceEqDiff, Nat.reduceAdd, Nat.reduceSub, Nat.reduceMul, Nat.reduceLeDiff, Nat.reduceLT, Int.reduceEq, Int.reduceNe, Int.reduceLT, Int.reduceLE, Int.reduceGT, Int.reduceGE, Int.reduceBEq, Int.reduceBNe, ↓reduceIte] at h414
      simp (config := { maxSteps := 1000000 }) (disch := first | assumption | (simp; done) | omega | (simp; omega)) only [push_cast, reduceCtorEq, Nat.reduceEqDiff, Nat.reduceAdd, Nat.reduceSub, Nat.reduceMul, Nat.reduceLeDiff, Nat.reduceLT, Int.reduceEq, Int.reduceNe, Int.reduceLT, Int.reduceLE, Int.reduceGT, Int.reduceGE, Int.reduceBEq, Int.reduceBNe, ↓reduceIte, h412, h414]
      refine loop_of (I5_0 N p0 p1 _) N [2, 3, 5] [0, 1] (by decide) ⟨0, h, ?_⟩ ?_
      · rw [wk_mk]
        simp (config := { maxSteps := 1000000 }) (disch := first | assumption | (simp; done) | omega | (simp; omega)) only [push_cast, reduceCtorEq, Nat.reduceEqDiff, Nat.reduceAdd, Nat.reduceSub, Nat.reduceMul, Nat.reduceLeDiff, Nat.reduceLT, Int.reduceEq, Int.reduceNe, Int.reduceLT, Int.reduceLE, Int.reduceGT, Int.reduceGE, Int.reduceBEq, Int.reduceBNe, ↓reduceIte, h412, h414] <;> rfl
      · rintro n s ⟨a3, h, rfl⟩
        cases n with
        | zero => exact absurd h (by simp [L5_0])
        | succ m1 =>
          rw [L5_0] at h
          unfold f5b8
          rcases F_if h with ⟨h416, h⟩ | ⟨h416, h⟩
          · try simp (disch := first | assumption | (simp; done) | omega | (simp; omega)) only [push_cast, reduceCtorEq, Nat.reduceEqDiff, Nat.reduceAdd, Nat.reduceSub, Nat.reduceMul, Nat.reduceLeDiff, Nat.reduceLT, Int.reduceEq, Int.reduceNe, Int.reduceLT, Int.reduceLE, Int.reduceGT, Int.reduceGE, Int.reduceBEq, Int.reduceBNe, ↓reduceIte] at h416
            obtain ⟨x4, h417, h418, h⟩ := F_get h
            have h420 := get_lt h417 h418
            have h419 := map_get Frame.row h418
            try simp (disch := first | assumption | (simp; done) | omega | (simp; omega)) only [push_cast, reduceCtorEq, Nat.reduceEqDiff, Nat.reduceAdd, Nat.reduceSub, Nat.reduceMul, Nat.reduceLeDiff, Nat.reduceLT, Int.reduceEq, Int.reduceNe, Int.reduceLT, Int.reduceLE, Int.reduceGT, Int.reduceGE, Int.reduceBEq, Int.reduceBNe, ↓reduceIte] at h419
            try simp (disch := first | assumption | (simp; done) | omega | (simp; omega)) only [push_cast, reduceCtorEq, Nat.reduceEqDiff, Nat.reduceAdd, Nat.reduceSub, Nat.reduceMul, Nat.reduceLeDiff, Nat.reduceLT, Int.reduceEq, Int.reduceNe, Int.reduceLT, Int.reduceLE, Int.reduceGT, Int.reduceGE, Int.reduceBEq, Int.reduceBNe, ↓reduceIte] at h420
            rcases F_if h with ⟨h421, h⟩ | ⟨h421, h⟩
            · try simp (disch := first | assumption | (simp; done) | omega | (simp; omega)) only [push_cast, reduceCtorEq, Nat.reduceEqDiff, Nat.reduceAdd, Nat.reduceSub, Nat.reduceMul, Nat.reduceLeDiff, Nat.reduceLT, Int.reduceEq, Int.reduceNe, Int.reduceLT, Int.reduceLE, Int.reduceGT, Int.reduceGE, Int.reduceBEq, Int.reduceBNe, ↓reduceIte] at h421
              obtain ⟨v5, h422, h⟩ := F_bd h
              simp (config := { maxSteps := 1000000 }) (disch := first | assumption | (simp; done) | omega | (simp; omega)) only [push_cast, reduceCtorEq, Nat.reduceEqDiff, Nat.reduceAdd, Nat.reduceSub, Nat.reduceMul, Nat.reduceLeDiff, Nat.reduceLT, Int.reduceEq, Int.reduceNe, Int.reduceLT, Int.reduceLE, Int.reduceGT, Int.reduceGE, Int.reduceBEq, Int.reduceBNe, ↓reduceIte, h412, h414, h416, h417, h419, h420, h421]
              refine call_flat (by rfl) (c9 N _ h422) ?_ rfl ?_
              · simp (config := { maxSteps := 1000000 }) (disch := first | assumption | (simp; done) | omega | (simp; omega)) only [push_cast, reduceCtorEq, Nat.reduceEqDiff, Nat.reduceAdd, Nat.reduceSub, Nat.reduceMul, Nat.reduceLeDiff, Nat.reduceLT, Int.reduceEq, Int.reduceNe, Int.reduceLT, Int.reduceLE, Int.reduceGT, Int.reduceGE, Int.reduceBEq, Int.reduceBNe, ↓reduceIte, h412, h414, h416, h417, h419, h420, h421] <;> rfl
              obtain rfl := Option.some.inj h
              simp (config := { maxSteps := 1000000 }) (disch := first | assumption | (simp; done) | omega | (simp; omega)) only [push_cast, reduceCtorEq, Nat.reduceEqDiff, Nat.reduceAdd, Nat.reduceSub, Nat.reduceMul, Nat.reduceLeDiff, Nat.reduceLT, Int.reduceEq, Int.reduceNe, Int.reduceLT, Int.reduceLE, Int.reduceGT, Int.reduceGE, Int.reduceBEq, Int.reduceBNe, ↓reduceIte, h412, h414, h416, h417, h419, h420, h421]
              refine e_ret (.inr rfl) ?_
              simp (config := { maxSteps := 1000000 }) (disch := first | assumption | (simp; done) | omega | (simp; omega)) only [push_cast, reduceCtorEq, Nat.reduceEqDiff, Nat.reduceAdd, Nat.reduceSub, Nat.reduceMul, Nat.reduceLeDiff, Nat.reduceLT, Int.reduceEq, Int.reduceNe, Int.reduceLT, Int.reduceLE, Int.reduceGT, Int.reduceGE, Int.reduceBEq, Int.reduceBNe, ↓reduceIte, aret, aresults, aresult, h412, h414, h416, h417, h419, h420, h421]
              refine ⟨_, rfl, ?_⟩
              first | (simp (config := { maxSteps := 1000000 }) (disch := first | assumption | (simp; done) | omega | (simp; omega)) only [push_cast, reduceCtorEq, Nat.reduceEqDiff, Nat.reduceAdd, Nat.reduceSub, Nat.reduceMul, Nat.reduceLeDiff, Nat.reduceLT, Int.reduceEq, Int.reduceNe, Int.reduceLT, Int.reduceLE, Int.reduceGT, Int.reduceGE, Int.reduceBEq, Int.reduceBNe, ↓reduceIte, h412, h414, h416, h417, h419, h420, h421] <;> rfl) | rfl
            · try simp (disch := first | assumption | (simp; done) | omega | (simp; omega)) only [push_cast, reduceCtorEq, Nat.reduceEqDiff, Nat.reduceAdd, Nat.reduceSub, Nat.reduceMul, Nat.reduceLeDiff, Nat.reduceLT, Int.reduceEq, Int.reduceNe, Int.reduceLT, Int.reduceLE, Int.reduceGT, Int.reduceGE, Int.reduceBEq, Int.reduceBNe, ↓reduceIte] at h421
              obtain ⟨h423, h⟩ := F_ck h
              try simp (disch := first | assumption | (simp; done) | omega | (simp; omega)) only [push_cast, reduceCtorEq, Nat.reduceEqDiff, Nat.reduceAdd, Nat.reduceSub, Nat.reduceMul, Nat.reduceLeDiff, Nat.reduceLT, Int.reduceEq, Int.reduceNe, Int.reduceLT, Int.reduceLE, Int.reduceGT, Int.reduceGE, Int.reduceBEq, Int.reduceBNe, ↓reduceIte] at h423
              simp (config := { maxSteps := 1000000 }) (disch := first | assumption | (simp; done) | omega | (simp; omega)) only [push_cast, reduceCtorEq, Nat.reduceEqDiff, Nat.reduceAdd, Nat.reduceSub, Nat.reduceMul, Nat.reduceLeDiff, Nat.reduceLT, Int.reduceEq, Int.reduceNe, Int.reduceLT, Int.reduceLE, Int.reduceGT, Int.reduceGE, Int.reduceBEq, Int.reduceBNe, ↓reduceIte, h412, h414, h416, h417, h419, h420, h421, h423]
              refine lpK_of m1 [2, 3, 5] [0, 1] (by omega) (by decide) ⟨(a3 + 1), h, ?_⟩
              rw [wk_mk]
              simp (config := { maxSteps := 1000000 }) (disch := first | assumption | (simp; done) | omega | (simp; omega)) only [push_cast, reduceCtorEq, Nat.reduceEqDiff, Nat.reduceAdd, Nat.reduceSub, Nat.reduceMul, Nat.reduceLeDiff, Nat.reduceLT, Int.reduceEq, Int.reduceNe, Int.reduceLT, Int.reduceLE, Int.reduceGT, Int.reduceGE, Int.reduceBEq, Int.reduceBNe, ↓reduceIte, h412, h414, h416, h417, h419, h420, h421, h423] <;> rfl
          · try simp (disch := first | assumption | (simp; done) | omega | (simp; omega)) only [push_cast, reduceCtorEq, Nat.reduceEqDiff, Nat.reduceAdd, Nat.reduceSub, Nat.reduceMul, Nat.reduceLeDiff, Nat.reduceLT, Int.reduceEq, Int.reduceNe, Int.reduceLT, Int.reduceLE, Int.reduceGT, Int.reduceGE, Int.reduceBEq, Int.reduceBNe, ↓reduceIte] at h416
            obtain ⟨v6, h424, h⟩ := F_bd h
            simp (config := { maxSteps := 1000000 }) (disch := first | assumption | (simp; done) | omega | (simp; omega)) only [push_cast, reduceCtorEq, Nat.reduceEqDiff, Nat.reduceAdd, Nat.reduceSub, Nat.reduceMul, Nat.reduceLeDiff, Nat.reduceLT, Int.reduceEq, Int.reduceNe, Int.reduceLT, Int.reduceLE, Int.reduceGT, Int.reduceGE, Int.reduceBEq, Int.reduceBNe, ↓reduceIte, h412, h414, h416]
            refine call_new (by rfl) (c23 N _ _ _ h424) ?_ rfl ?_
            · simp (config := { maxSteps := 1000000 }) (disch := first | assumption | (simp; done) | omega | (simp; omega)) only [push_cast, reduceCtorEq, Nat.reduceEqDiff, Nat.reduceAdd, Nat.reduceSub, Nat.reduceMul, Nat.reduceLeDiff, Nat.reduceLT, Int.reduceEq, Int.reduceNe, Int.reduceLT, Int.reduceLE, Int.reduceGT, Int.reduceGE, Int.reduceBEq, Int.reduceBNe, ↓reduceIte, h412, h414, h416] <;> rfl
            obtain ⟨v7, h425, h⟩ := F_bd h
            simp (config := { maxSteps := 1000000 }) (disch := first | assumption | (simp; done) | omega | (simp; omega)) only [push_cast, reduceCtorEq, Nat.reduceEqDiff, Nat.reduceAdd, Nat.reduceSub, Nat.reduceMul, Nat.reduceLeDiff, Nat.reduceLT, Int.reduceEq, Int.reduceNe, Int.reduceLT, Int.reduceLE, Int.reduceGT, Int.reduceGE, Int.reduceBEq, Int.reduceBNe, ↓reduceIte, h412, h414, h416]
            refine call_new (by rfl) (c25 N _ _ h425) ?_ rfl ?_
            · simp (config := { maxSteps := 1000000 }) (disch := first | assumption | (simp; done) | omega | (simp; omega)) only [push_cast, reduceCtorEq, Nat.reduceEqDiff, Nat.reduceAdd, Nat.reduceSub, Nat.reduceMul, Nat.reduceLeDiff, Nat.reduceLT, Int.reduceEq, Int.reduceNe, Int.reduceLT, Int.reduceLE, Int.reduceGT, Int.reduceGE, Int.reduceBEq, Int.reduceBNe, ↓reduceIte, h412, h414, h416] <;> rfl
            obtain ⟨v8, h426, h⟩ := F_bd h
            simp (config := { maxSteps := 1000000 }) (disch := first | assumption | (simp; done) | omega | (simp; omega)) only [push_cast, reduceCtorEq, Nat.reduceEqDiff, Nat.reduceAdd, Nat.reduceSub, Nat.reduceMul, Nat.reduceLeDiff, Nat.reduceLT, Int.reduceEq, Int.reduceNe, Int.reduceLT, Int.reduceLE, Int.reduceGT, Int.reduceGE, Int.reduceBEq, Int.reduceBNe, ↓reduceIte, h412, h414, h416]
            refine call_new (by rfl) (c26 N _ _ _ h426) ?_ rfl ?_
            · simp (config := { maxSteps := 1000000 }) (disch := first | assumption | (simp; done) | omega | (simp; omega)) only [push_cast, reduceCtorEq, Nat.reduceEqDiff, Nat.reduceAdd, Nat.reduceSub, Nat.reduceMul, Nat.reduceLeDiff, Nat.reduceLT, Int.reduceEq, Int.reduceNe, Int.reduceLT, Int.reduceLE, Int.reduceGT, Int.reduceGE, Int.reduceBEq, Int.reduceBNe, ↓reduceIte, h412, h414, h416] <;> rfl
            obtain ⟨v9, h427, h⟩ := F_bd h
            simp (config := { maxSteps := 1000000 }) (disch := first | assumption | (simp; done) | omega | (simp; omega)) only [push_cast, reduceCtorEq, Nat.reduceEqDiff, Nat.reduceAdd, Nat.reduceSub, Nat.reduceMul, Nat.reduceLeDiff, Nat.reduceLT, Int.reduceEq, Int.reduceNe, Int.reduceLT, Int.reduceLE, Int.reduceGT, Int.reduceGE, Int.reduceBEq, Int.reduceBNe, ↓reduceIte, h412, h414, h416]
            refine call_flat (by rfl) (c9 N _ h427) ?_ rfl ?_
            · simp (config := { maxSteps := 1000000 }) (disch := first | assumption | (simp; done) | omega | (simp; omega)) only [push_cast, reduceCtorEq, Nat.reduceEqDiff, Nat.reduceAdd, Nat.reduceSub, Nat.reduceMul, Nat.reduceLeDiff, Nat.reduceLT, Int.reduceEq, Int.reduceNe, Int.reduceLT, Int.reduceLE, Int.reduceGT, Int.reduceGE, Int.reduceBEq, Int.reduceBNe, ↓reduceIte, h412, h414, h416] <;> rfl
            rcases F_if h with ⟨h428, h⟩ | ⟨h428, h⟩
            · try simp (disch := first | assumption | (simp; done) | omega | (simp; omega)) only [push_cast, reduceCtorEq, Nat.reduceEqDiff, Nat.reduceAdd, Nat.reduceSub, Nat.reduceMul, Nat.reduceLeDiff, Nat.reduceLT, Int.reduceEq, Int.reduceNe, Int.reduceLT, Int.reduceLE, Int.reduceGT, Int.reduceGE, Int.reduceBEq, Int.reduceBNe, ↓reduceIte] at h428
              obtain ⟨v10, h429, h⟩ := F_bd h
              simp (config := { maxSteps := 1000000 }) (disch := first | assumption | (simp; done) | omega | (simp; omega)) only [push_cast, reduceCtorEq, Nat.reduceEqDiff, Nat.reduceAdd, Nat.reduceSub, Nat.reduceMul, Nat.reduceLeDiff, Nat.reduceLT, Int.reduceEq, Int.reduceNe, Int.reduceLT, Int.reduceLE, Int.reduceGT, Int.reduceGE, Int.reduceBEq, Int.reduceBNe, ↓reduceIte, h412, h414, h416, h428]
              refine call_flat (by rfl) (c22 N _ _ h429) ?_ rfl ?_
              · simp (config := { maxSteps := 1000000 }) (disch := first | assumption | (simp; done) | omega | (simp; omega)) only [push_cast, reduceCtorEq, Nat.reduceEqDiff, Nat.reduceAdd, Nat.reduceSub, Nat.reduceMul, Nat.reduceLeDiff, Nat.reduceLT, Int.reduceEq, Int.reduceNe, Int.reduceLT, Int.reduceLE, Int.reduceGT, Int.reduceGE, Int.reduceBEq, Int.reduceBNe, ↓reduceIte, h412, h414, h416, h428] <;> rfl
              obtain ⟨v11, h430, h⟩ := F_bd h
              simp (config := { maxSteps := 1000000 }) (disch := first | assumption | (simp; done) | omega | (simp; omega)) only [push_cast, reduceCtorEq, Nat.reduceEqDiff, Nat.reduceAdd, Nat.reduceSub, Nat.reduceMul, Nat.reduceLeDiff, Nat.reduceLT, Int.reduceEq, Int.reduceNe, Int.reduceLT, Int.reduceLE, Int.reduceGT, Int.reduceGE, Int.reduceBEq, Int.reduceBNe, ↓reduceIte, h412, h414, h416, h428]
              refine call_flat (by rfl) (c27 N _ _ h430) ?_ rfl ?_
              · simp (config := { maxSteps := 1000000 }) (disch := first | assumption | (simp; done) | omega | (simp; omega)) only [push_cast, reduceCtorEq, Nat.reduceEqDiff, Nat.reduceAdd, Nat.reduceSub, Nat.reduceMul, Nat.reduceLeDiff, Nat.reduceLT, Int.reduceEq, Int.reduceNe, Int.reduceLT, Int.reduceLE, Int.reduceGT, Int.reduceGE, Int.reduceBEq, Int.reduceBNe, ↓reduceIte, h412, h414, h416, h428] <;> rfl
              rcases F_if h with ⟨h431, h⟩ | ⟨h431, h⟩
              · try simp (disch := first | assumption | (simp; done) | omega | (simp; omega)) only [push_cast, reduceCtorEq, Nat.reduceEqDiff, Nat.reduceAdd, Nat.reduceSub, Nat.reduceMul, Nat.reduceLeDiff, Nat.reduceLT, Int.reduceEq, Int.reduceNe, Int.reduceLT, Int.reduceLE, Int.reduceGT, Int.reduceGE, Int.reduceBEq, Int.reduceBNe, ↓reduceIte] at h431
                obtain ⟨v12, h432, h⟩ := F_bd h
                simp (config := { maxSteps := 1000000 }) (disch := first | assumption | (simp; done) | omega | (simp; omega)) only [push_cast, reduceCtorEq, Nat.reduceEqDiff, Nat.reduceAdd, Nat.reduceSub, Nat.reduceMul, Nat.reduceLeDiff, Nat.reduceLT, Int.reduceEq, Int.reduceNe, Int.reduceLT, Int.reduceLE, Int.reduceGT, Int.reduceGE, Int.reduceBEq, Int.reduceBNe, ↓reduceIte, h412, h414, h416, h428, h431]
                refine call_flat (by rfl) (c24 N _ _ _ h432) ?_ rfl ?_
                · simp (config := { maxSteps := 1000000 }) (disch := first | assumption | (simp; done) | omega | (simp; omega)) only [push_cast, reduceCtorEq, Nat.reduceEqDiff, Nat.reduceAdd, Nat.reduceSub, Nat.reduceMul, Nat.reduceLeDiff, Nat.reduceLT, Int.reduceEq, Int.reduceNe, Int.reduceLT, Int.reduceLE, Int.reduceGT, Int.reduceGE, Int.reduceBEq, Int.reduceBNe, ↓reduceIte, h412, h414, h416, h428, h431] <;> rfl
                rcases F_if h with ⟨h433, h⟩ | ⟨h433, h⟩
                · try simp (disch := first | assumption | (simp; done) | omega | (simp; omega)) only [push_cast, reduceCtorEq, Nat.reduceEqDiff, Nat.reduceAdd, Nat.reduceSub, Nat.reduceMul, Nat.reduceLeDiff, Nat.reduceLT, Int.reduceEq, Int.reduceNe, Int.reduceLT, Int.reduceLE, Int.reduceGT, Int.reduceGE, Int.reduceBEq, Int.reduceBNe, ↓reduceIte] at h433
                  obtain ⟨v13, h434, h⟩ := F_bd h
                  simp (config := { maxSteps := 1000000 }) (disch := first | assumption | (simp; done) | omega | (simp; omega)) only [push_cast, reduceCtorEq, Nat.reduceEqDiff, Nat.reduceAdd, Nat.reduceSub, Nat.reduceMul, Nat.reduceLeDiff, Nat.reduceLT, Int.reduceEq, Int.reduceNe, Int.reduceLT, Int.reduceLE, Int.reduceGT, Int.reduceGE, Int.reduceBEq, Int.reduceBNe, ↓reduceIte, h412, h414, h416, h428, h431, h433]
                  refine call_flat (by rfl) (c21 N _ _ _ h434) ?_ rfl ?_
                  · simp (config := { maxSteps := 1000000 }) (disch := first | assumption | (simp; done) | omega | (simp; omega)) only [push_cast, reduceCtorEq, Nat.reduceEqDiff, Nat.reduceAdd, Nat.reduceSub, Nat.reduceMul, Nat.reduceLeDiff, Nat.reduceLT, Int.reduceEq, Int.reduceNe, Int.reduceLT, Int.reduceLE, Int.reduceGT, Int.reduceGE, Int.reduceBEq, Int.reduceBNe, ↓reduceIte, h412, h414, h416, h428, h431, h433] <;> rfl
                  rcases F_if h with ⟨h435, h⟩ | ⟨h435, h⟩
                  · try simp (disch := first | assumption | (simp; done) | omega | (simp; omega)) only [push_cast, reduceCtorEq, Nat.reduceEqDiff, Nat.reduceAdd, Nat.reduceSub, Nat.reduceMul, Nat.reduceLeDiff, Nat.reduceLT, Int.reduceEq, Int.reduceNe, Int.reduceLT, Int.reduceLE, Int.reduceGT, Int.reduceGE, Int.reduceBEq, Int.reduceBNe, ↓reduceIte] at h435
                    rcases F_if h with ⟨h436, h⟩ | ⟨h436, h⟩
                    · try simp (disch := first | assumption | (simp; done) | omega | (simp; omega)) only [push_cast, reduceCtorEq, Nat.reduceEqDiff, Nat.reduceAdd, Nat.reduceSub, Nat.reduceMul, Nat.reduceLeDiff, Nat.reduceLT, Int.reduceEq, Int.reduceNe, Int.reduceLT, Int.reduceLE, Int.reduceGT, Int.reduceGE, Int.reduceBEq, Int.reduceBNe, ↓reduceIte] at h436
                      rcases F_if h with ⟨h437, h⟩ | ⟨h437, h⟩
                      · try simp (disch := first | assumption | (simp; done) | omega | (simp; omega)) only [push_cast, reduceCtorEq, Nat.reduceEqDiff, Nat.reduceAdd, Nat.reduceSub, Nat.reduceMul, Nat.reduceLeDiff, Nat.reduceLT, Int.reduceEq, Int.reduceNe, Int.reduceLT, Int.reduceLE, Int.reduceGT, Int.reduceGE, Int.reduceBEq, Int.reduceBNe, ↓reduceIte] at h437
                        obtain rfl := Option.some.inj h
                        simp (config := { maxSteps := 1000000 }) (disch := first | assumption | (simp; done) | omega | (simp; omega)) only [push_cast, reduceCtorEq, Nat.reduceEqDiff, Nat.reduceAdd, Nat.reduceSub, Nat.reduceMul, Nat.reduceLeDiff, Nat.reduceLT, Int.reduceEq, Int.reduceNe, Int.reduceLT, Int.reduceLE, Int.reduceGT, Int.reduceGE, Int.reduceBEq, Int.reduceBNe, ↓reduceIte, h412, h414, h416, h428, h431, h433, h435, h436, h437]
                        refine e_ret (.inr rfl) ?_
                        simp (config := { maxSteps := 1000000 }) (disch := first | assumption | (simp; done) | omega | (simp; omega)) only [push_cast, reduceCtorEq, Nat.reduceEqDiff, Nat.reduceAdd, Nat.reduceSub, Nat.reduceMul, Nat.reduceLeDiff, Nat.reduceLT, Int.reduceEq, Int.reduceNe, Int.reduceLT, Int.reduceLE, Int.reduceGT, Int.reduceGE, Int.reduceBEq, Int.reduceBNe, ↓reduceIte, aret, aresults, aresult, h412, h414, h416, h428, h431, h433, h435, h436, h437]
                        refine ⟨_, rfl, ?_⟩
                        first | (simp (config := { maxSteps := 1000000 }) (disch := first | assumption | (simp; done) | omega | (simp; omega)) only [push_cast, reduceCtorEq, Nat.reduceEqDiff, Nat.reduceAdd, Nat.reduceSub, Nat.reduceMul, Nat.reduceLeDiff, Nat.reduceLT, Int.reduceEq, Int.reduceNe, Int.reduceLT, Int.reduceLE, Int.reduceGT, Int.reduceGE, Int.reduceBEq, Int.reduceBNe, ↓reduceIte, h412, h414, h416, h428, h431, h433, h435, h436, h437] <;> rfl) | rfl
                      · try simp (disch := first | assumption | (simp; done) | omega | (simp; omega)) only [push_cast, reduceCtorEq, Nat.reduceEqDiff, Nat.reduceAdd, Nat.reduceSub, Nat.reduceMul, Nat.reduceLeDiff, Nat.reduceLT, Int.reduceEq, Int.reduceNe, Int.reduceLT, Int.reduceLE, Int.reduceGT, Int.reduceGE, Int.reduceBEq, Int.reduceBNe, ↓reduceIte] at h437
                        obtain rfl := Option.some.inj h
                        simp (config := { maxSteps := 1000000 }) (disch := first | assumption | (simp; done) | omega | (simp; omega)) only [push_cast, reduceCtorEq, Nat.reduceEqDiff, Nat.reduceAdd, Nat.reduceSub, Nat.reduceMul, Nat.reduceLeDiff, Nat.reduceLT, Int.reduceEq, Int.reduceNe, Int.reduceLT, Int.reduceLE, Int.reduceGT, Int.reduceGE, Int.reduceBEq, Int.reduceBNe, ↓reduceIte, h412, h414, h416, h428, h431, h433, h435, h436, h437]
                        refine e_ret (.inr rfl) ?_
                        simp (config := { maxSteps := 1000000 }) (disch := first | assumption | (simp; done) | omega | (simp; omega)) only [push_cast, reduceCtorEq, Nat.reduceEqDiff, Nat.reduceAdd, Nat.reduceSub, Nat.reduceMul, Nat.reduceLeDiff, Nat.reduceLT, Int.reduceEq, Int.reduceNe, Int.reduceLT, Int.reduceLE, Int.reduceGT, Int.reduceGE, Int.reduceBEq, Int.reduceBNe, ↓reduceIte, aret, aresults, aresult, h412, h414, h416, h428, h431, h433, h435, h436, h437]
                        refine ⟨_, rfl, ?_⟩
                        first | (simp (config := { maxSteps := 1000000 }) (disch := first | assumption | (simp; done) | omega | (simp; omega)) only [push_cast, reduceCtorEq, Nat.reduceEqDiff, Nat.reduceAdd, Nat.reduceSub, Nat.reduceMul, Nat.reduceLeDiff, Nat.reduceLT, Int.reduceEq, Int.reduceNe, Int.reduceLT, Int.reduceLE, Int.reduceGT, Int.reduceGE, Int.reduceBEq, Int.reduceBNe, ↓reduceIte, h412, h414, h416, h428, h431, h433, h435, h436, h437] <;> rfl) | rfl
                    · try simp (disch := first | assumption | (simp; done) | omega | (simp; omega)) only [push_cast, reduceCtorEq, Nat.reduceEqDiff, Nat.reduceAdd, Nat.reduceSub, Nat.reduceMul, Nat.reduceLeDiff, Nat.reduceLT, Int.reduceEq, Int.reduceNe, Int.reduceLT, Int.reduceLE, Int.reduceGT, Int.reduceGE, Int.reduceBEq, Int.reduceBNe, ↓reduceIte] at h436
                      obtain rfl := Option.some.inj h
                      simp (config := { maxSteps := 1000000 }) (disch := first | assumption | (simp; done) | omega | (simp; omega)) only [push_cast, reduceCtorEq, Nat.reduceEqDiff, Nat.reduceAdd, Nat.reduceSub, Nat.reduceMul, Nat.reduceLeDiff, Nat.reduceLT, Int.reduceEq, Int.reduceNe, Int.reduceLT, Int.reduceLE, Int.reduceGT, Int.reduceGE, Int.reduceBEq, Int.reduceBNe, ↓reduceIte, h412, h414, h416, h428, h431, h433, h435, h436]
                      refine e_ret (.inr rfl) ?_
                      simp (config := { maxSteps := 1000000 }) (disch := first | assumption | (simp; done) | omega | (simp; omega)) only [push_cast, reduceCtorEq, Nat.reduceEqDiff, Nat.reduceAdd, Nat.reduceSub, Nat.reduceMul, Nat.reduceLeDiff, Nat.reduceLT, Int.reduceEq, Int.reduceNe, Int.reduceLT, Int.reduceLE, Int.reduceGT, Int.reduceGE, Int.reduceBEq, Int.reduceBNe, ↓reduceIte, aret, aresults, aresult, h412, h414, h416, h428, h431, h433, h435, h436]
                      refine ⟨_, rfl, ?_⟩
                      first | (simp (config := { maxSteps := 1000000 }) (disch := first | assumption | (simp; done) | omega | (simp; omega)) only [push_cast, reduceCtorEq, Nat.reduceEqDiff, Nat.reduceAdd, Nat.reduceSub, Nat.reduceMul, Nat.reduceLeDiff, Nat.reduceLT, Int.reduceEq, Int.reduceNe, Int.reduceLT, Int.reduceLE, Int.reduceGT, Int.reduceGE, Int.reduceBEq, Int.reduceBNe, ↓reduceIte, h412, h414, h416, h428, h431, h433, h435, h436] <;> rfl) | rfl
                  · try simp (disch := first | assumption | (simp; done) | omega | (simp; omega)) only [push_cast, reduceCtorEq, Nat.reduceEqDiff, Nat.reduceAdd, Nat.reduceSub, Nat.reduceMul, Nat.reduceLeDiff, Nat.reduceLT, Int.reduceEq, Int.reduceNe, Int.reduceLT, Int.reduceLE, Int.reduceGT, Int.reduceGE, Int.reduceBEq, Int.reduceBNe, ↓reduceIte] at h435
                    obtain rfl := Option.some.inj h
                    simp (config := { maxSteps := 1000000 }) (disch := first | assumption | (simp; done) | omega | (simp; omega)) only [push_cast, reduceCtorEq, Nat.reduceEqDiff, Nat.reduceAdd, Nat.reduceSub, Nat.reduceMul, Nat.reduceLeDiff, Nat.reduceLT, Int.reduceEq, Int.reduceNe, Int.reduceLT, Int.reduceLE, Int.reduceGT, Int.reduceGE, Int.reduceBEq, Int.reduceBNe, ↓reduceIte, h412, h414, h416, h428, h431, h433, h435]
                    refine e_ret (.inr rfl) ?_
                    simp (config := { maxSteps := 1000000 }) (disch := first | assumption | (simp; done) | omega | (simp; omega)) only [push_cast, reduceCtorEq, Nat.reduceEqDiff, Nat.reduceAdd, Nat.reduceSub, Nat.reduceMul, Nat.reduceLeDiff, Nat.reduceLT, Int.reduceEq, Int.reduceNe, Int.reduceLT, Int.reduceLE, Int.reduceGT, Int.reduceGE, Int.reduceBEq, Int.reduceBNe, ↓reduceIte, aret, aresults, aresult, h412, h414, h416, h428, h431, h433, h435]
                    refine ⟨_, rfl, ?_⟩
                    first | (simp (config := { maxSteps := 1000000 }) (disch := first | assumption | (simp; done) | omega | (simp; omega)) only [push_cast, reduceCtorEq, Nat.reduceEqDiff, Nat.reduceAdd, Nat.reduceSub, Nat.reduceMul, Nat.reduceLeDiff, Nat.reduceLT, Int.reduceEq, Int.reduceNe, Int.reduceLT, Int.reduceLE, Int.reduceGT, Int.reduceGE, Int.reduceBEq, Int.reduceBNe, ↓reduceIte, h412, h414, h416, h428, h431, h433, h435] <;> rfl) | rfl
                · try simp (disch := first | assumption | (simp; done) | omega | (simp; omega)) only [push_cast, reduceCtorEq, Nat.reduceEqDiff, Nat.reduceAdd, Nat.reduceSub, Nat.reduceMul, Nat.reduceLeDiff, Nat.reduceLT, Int.reduceEq, Int.reduceNe, Int.reduceLT, Int.reduceLE, Int.reduceGT, Int.reduceGE, Int.reduceBEq, Int.reduceBNe, ↓reduceIte] at h433
                  obtain rfl := Option.some.inj h
                  simp (config := { maxSteps := 1000000 }) (disch := first | assumption | (simp; done) | omega | (simp; omega)) only [push_cast, reduceCtorEq, Nat.reduceEqDiff, Nat.reduceAdd, Nat.reduceSub, Nat.reduceMul, Nat.reduceLeDiff, Nat.reduceLT, Int.reduceEq, Int.reduceNe, Int.reduceLT, Int.reduceLE, Int.reduceGT, Int.reduceGE, Int.reduceBEq, Int.reduceBNe, ↓reduceIte, h412, h414, h416, h428, h431, h433]
                  refine e_ret (.inr rfl) ?_
                  simp (config := { maxSteps := 1000000 }) (disch := first | assumption | (simp; done) | omega | (simp; omega)) only [push_cast, reduceCtorEq, Nat.reduceEqDiff, Nat.reduceAdd, Nat.reduceSub, Nat.reduceMul, Nat.reduceLeDiff, Nat.reduceLT, Int.reduceEq, Int.reduceNe, Int.reduceLT, Int.reduceLE, Int.reduceGT, Int.reduceGE, Int.reduceBEq, Int.reduceBNe, ↓reduceIte, aret, aresults, aresult, h412, h414, h416, h428, h431, h433]
                  refine ⟨_, rfl, ?_⟩
                  first | (simp (config := { maxSteps := 1000000 }) (disch := first | assumption | (simp; done) | omega | (simp; omega)) only [push_cast, reduceCtorEq, Nat.reduceEqDiff, Nat.reduceAdd, Nat.reduceSub, Nat.reduceMul, Nat.reduceLeDiff, Nat.reduceLT, Int.reduceEq, Int.reduceNe, Int.reduceLT, Int.reduceLE, Int.reduceGT, Int.reduceGE, Int.reduceBEq, Int.reduceBNe, ↓reduceIte, h412, h414, h416, h428, h431, h433] <;> rfl) | rfl
              · try simp (disch := first | assumption | (simp; done) | omega | (simp; omega)) only [push_cast, reduceCtorEq, Nat.reduceEqDiff, Nat.reduceAdd, Nat.reduceSub, Nat.reduceMul, Nat.reduceLeDiff, Nat.reduceLT, Int.reduceEq, Int.reduceNe, Int.reduceLT, Int.reduceLE, Int.reduceGT, Int.reduceGE, Int.reduceBEq, Int.reduceBNe, ↓reduceIte] at h431
                obtain rfl := Option.some.inj h
                simp (config := { maxSteps := 1000000 }) (disch := first | assumption | (simp; done) | omega | (simp; omega)) only [push_cast, reduceCtorEq, Nat.reduceEqDiff, Nat.reduceAdd, Nat.reduceSub, Nat.reduceMul, Nat.reduceLeDiff, Nat.reduceLT, Int.reduceEq, Int.reduceNe, Int.reduceLT, Int.reduceLE, Int.reduceGT, Int.reduceGE, Int.reduceBEq, Int.reduceBNe, ↓reduceIte, h412, h414, h416, h428, h431]
                refine e_ret (.inr rfl) ?_
                simp (config := { maxSteps := 1000000 }) (disch := first | assumption | (simp; done) | omega | (simp; omega)) only [push_cast, reduceCtorEq, Nat.reduceEqDiff, Nat.reduceAdd, Nat.reduceSub, Nat.reduceMul, Nat.reduceLeDiff, Nat.reduceLT, Int.reduceEq, Int.reduceNe, Int.reduceLT, Int.reduceLE, Int.reduceGT, Int.reduceGE, Int.reduceBEq, Int.reduceBNe, ↓reduceIte, aret, aresults, aresult, h412, h414, h416, h428, h431]
                refine ⟨_, rfl, ?_⟩
                first | (simp (config := { maxSteps := 1000000 }) (disch := first | assumption | (simp; done) | omega | (simp; omega)) only [push_cast, reduceCtorEq, Nat.reduceEqDiff, Nat.reduceAdd, Nat.reduceSub, Nat.reduceMul, Nat.reduceLeDiff, Nat.reduceLT, Int.reduceEq, Int.reduceNe, Int.reduceLT, Int.reduceLE, Int.reduceGT, Int.reduceGE, Int.reduceBEq, Int.reduceBNe, ↓reduceIte, h412, h414, h416, h428, h431] <;> rfl) | rfl
            · try simp (disch := first | assumption | (simp; done) | omega | (simp; omega)) only [push_cast, reduceCtorEq, Nat.reduceEqDiff, Nat.reduceAdd, Nat.reduceSub, Nat.reduceMul, Nat.reduceLeDiff, Nat.reduceLT, Int.reduceEq, Int.reduceNe, Int.reduceLT, Int.reduceLE, Int.reduceGT, Int.reduceGE, Int.reduceBEq, Int.reduceBNe, ↓reduceIte] at h428
              obtain rfl := Option.some.inj h
              simp (config := { maxSteps := 1000000 }) (disch := first | assumption | (simp; done) | omega | (simp; omega)) only [push_cast, reduceCtorEq, Nat.reduceEqDiff, Nat.reduceAdd, Nat.reduceSub, Nat.reduceMul, Nat.reduceLeDiff, Nat.reduceLT, Int.reduceEq, Int.reduceNe, Int.reduceLT, Int.reduceLE, Int.reduceGT, Int.reduceGE, Int.reduceBEq, Int.reduceBNe, ↓reduceIte, h412, h414, h416, h428]
              refine e_ret (.inr rfl) ?_
              simp (config := { maxSteps := 1000000 }) (disch := first | assumption | (simp; done) | omega | (simp; omega)) only [push_cast, reduceCtorEq, Nat.reduceEqDiff, Nat.reduceAdd, Nat.reduceSub, Nat.reduceMul, Nat.reduceLeDiff, Nat.reduceLT, Int.reduceEq, Int.reduceNe, Int.reduceLT, Int.reduceLE, Int.reduceGT, Int.reduceGE, Int.reduceBEq, Int.reduceBNe, ↓reduceIte, aret, aresults, aresult, h412, h414, h416, h428]
              refine ⟨_, rfl, ?_⟩
              first | (simp (config := { maxSteps := 1000000 }) (disch := first | assumption | (simp; done) | omega | (simp; omega)) only [push_cast, reduceCtorEq, Nat.reduceEqDiff, Nat.reduceAdd, Nat.reduceSub, Nat.reduceMul, Nat.reduceLeDiff, Nat.reduceLT, Int.reduceEq, Int.reduceNe, Int.reduceLT, Int.reduceLE, Int.reduceGT, Int.reduceGE, Int.reduceBEq, Int.reduceBNe, ↓reduceIte, h412, h414, h416, h428] <;> rfl) | rfl
end Go.Proofs.Try
