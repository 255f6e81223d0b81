/- Printed by a program: what the functions compute, and that they do (part 3). -/
import Derived.Test.YtakffbnhhfkipaaGD2
set_option linter.unusedSimpArgs false
set_option linter.unusedVariables false
set_option maxRecDepth 8000
namespace Go.Proofs.Try
open Go.Eng Go.RowKit
/-! ## 29 rivermark.rivermarklaw11.ordered -/
def f29g0 : List RO :=
  [⟨(.some 1), (.box (.tmp 0)), .none⟩,
   ⟨(.some 2), (.mv (.const (.bool .false))), .none⟩]
def f29g1 : List RO :=
  [⟨(.some 3), (.mv (.const (.int .i64 0))), .none⟩]
def f29g2 : List RO :=
  [⟨(.some 4), (.mv (.const (.int .i64 0))), .none⟩]
def f29g3 : List RO :=
  [⟨(.some 6), (.mv (.tmp 4)), .none⟩,
   ⟨(.some 7), (.faddr 8 (.tmp 1)), .none⟩,
   ⟨(.some 8), (.load .none (.tmp 7)), .none⟩,
   ⟨(.some 9), (.len .false (.tmp 8)), .none⟩,
   ⟨(.some 10), (.bin .lss (.tmp 6) (.tmp 9)), .none⟩]
def f29g4 : List RO :=
  [⟨(.some 13), (.faddr 8 (.tmp 1)), .none⟩,
   ⟨(.some 14), (.load .none (.tmp 13)), .none⟩,
   ⟨(.some 15), (.mv (.tmp 4)), .none⟩,
   ⟨(.some 16), (.iaddr 3 (.tmp 14) (.tmp 15)), .none⟩,
   ⟨(.some 17), (.load (.some 3) (.tmp 16)), .none⟩,
   ⟨(.some 5), (.new [(.D (.B .false)), (.D (.I .i64 0)), (.D (.S []))]), .none⟩,
   ⟨.none, (.store 3 (.tmp 5) (.tmp 17)), .none⟩]
def f29g5 : List RO :=
  [⟨(.some 18), (.faddr 0 (.tmp 5)), .none⟩,
   ⟨(.some 19), (.load .none (.tmp 18)), .none⟩]
def f29g6 : List RO :=
  [⟨(.some 20), (.faddr 1 (.tmp 5)), .none⟩,
   ⟨(.some 21), (.load .none (.tmp 20)), .none⟩,
   ⟨(.some 22), (.mv (.tmp 3)), .none⟩,
   ⟨(.some 23), (.bin .leq (.tmp 21) (.tmp 22)), .none⟩,
   ⟨(.some 24), (.mv (.tmp 23)), .none⟩,
   ⟨(.some 25), (.faddr 2 (.tmp 5)), (.some (24, .false))⟩,
   ⟨(.some 26), (.load .none (.tmp 25)), (.some (24, .false))⟩,
   ⟨(.some 27), (.faddr 1 (.tmp 5)), (.some (24, .false))⟩,
   ⟨(.some 28), (.load .none (.tmp 27)), (.some (24, .false))⟩,
   ⟨(.some 29), (.call (.func 47) [(.tmp 28)]), (.some (24, .false))⟩,
   ⟨(.some 30), (.bin .neq (.tmp 26) (.tmp 29)), (.some (24, .false))⟩,
   ⟨(.some 31), (.pick (.tmp 24) (.const (.bool .true)) (.tmp 30)), .none⟩]
def f29g7 : List RO :=
  [⟨(.some 2), (.mv (.const (.bool .false))), .none⟩]
def f29g8 : List RO :=
  [⟨(.some 32), (.faddr 1 (.tmp 5)), .none⟩,
   ⟨(.some 33), (.load .none (.tmp 32)), .none⟩,
   ⟨(.some 3), (.mv (.tmp 33)), .none⟩]
def f29g9 : List RO :=
  [⟨(.some 34), (.faddr 1 (.tmp 5)), .none⟩,
   ⟨(.some 35), (.load .none (.tmp 34)), .none⟩,
   ⟨(.some 36), (.mv (.tmp 3)), .none⟩,
   ⟨(.some 37), (.bin .neq (.tmp 35) (.tmp 36)), .none⟩,
   ⟨(.some 38), (.mv (.tmp 37)), .none⟩,
   ⟨(.some 39), (.faddr 2 (.tmp 5)), (.some (38, .false))⟩,
   ⟨(.some 40), (.load .none (.tmp 39)), (.some (38, .false))⟩,
   ⟨(.some 41), (.faddr 1 (.tmp 5)), (.some (38, .false))⟩,
   ⟨(.some 42), (.load .none (.tmp 41)), (.some (38, .false))⟩,
   ⟨(.some 43), (.call (.func 46) [(.tmp 42)]), (.some (38, .false))⟩,
   ⟨(.some 44), (.bin .neq (.tmp 40) (.tmp 43)), (.some (38, .false))⟩,
   ⟨(.some 45), (.pick (.tmp 38) (.const (.bool .true)) (.tmp 44)), .none⟩]
def f29g10 : List RO :=
  [⟨(.some 2), (.mv (.const (.bool .false))), .none⟩]
def f29g11 : List RO :=
  [⟨(.some 46), (.mv (.tmp 3)), .none⟩,
   ⟨(.some 47), (.bin .add (.tmp 46) (.const (.int .i64 1))), .none⟩,
   ⟨(.some 3), (.mv (.tmp 47)), .none⟩]
def f29g12 : List RO :=
  [⟨(.some 11), (.mv (.tmp 4)), .none⟩,
   ⟨(.some 12), (.bin .add (.tmp 11) (.const (.int .i64 1))), .none⟩,
   ⟨(.some 4), (.mv (.tmp 12)), .none⟩]
def f29b13 : RCode := (.seq (.seq (.reg .false f29g3) (.cond (.tmp 10) .skip (.exit 0))) (.seq (.block 1 (.seq (.reg .false f29g4) (.seq (.seq (.reg .false f29g5) (.cond (.tmp 19) (.seq (.seq (.reg .true f29g6) (.cond (.tmp 31) (.seq (.reg .false f29g7) .ret) .skip)) (.seq (.reg .false f29g8) (.exit 1))) .skip)) (.seq (.seq (.reg .true f29g9) (.cond (.tmp 45) (.seq (.reg .false f29g10) .ret) .skip)) (.reg .false f29g11))))) (.reg .false f29g12)))
def f29g14 : List RO :=
  [⟨(.some 48), (.mv (.tmp 3)), .none⟩,
   ⟨(.some 49), (.faddr 4 (.tmp 1)), .none⟩,
   ⟨(.some 50), (.faddr 0 (.tmp 49)), .none⟩,
   ⟨(.some 51), (.load .none (.tmp 50)), .none⟩,
   ⟨(.some 52), (.bin .eql (.tmp 48) (.tmp 51)), .none⟩,
   ⟨(.some 2), (.mv (.tmp 52)), .none⟩]
def f29c : RCode := (.seq (.reg .false f29g0) (.seq (.reg .false f29g1) (.seq (.seq (.reg .false f29g2) (.block 0 (.loop f29b13))) (.seq (.reg .false f29g14) .ret))))
def f29r : List RRes := [(.tmp 2)]
attribute [push_cast] f29g0 f29g1 f29g2 f29g3 f29g4 f29g5 f29g6 f29g7 f29g8 f29g9 f29g10 f29g11 f29g12 f29g14
def L29_0 (N : Nat) (p0 : WLine) : Nat → Int → Int → Option Bool
  | 0, _, _ => none
  | m1+1, a1, a2 => if? (decide (a2 < (p0.Delivered.length : Int))) (get? p0.Delivered (a2) fun x3 => if? (x3.Sum) (if? (decide (x3.Seq ≤ a1)) (some (false)) (bd? (F47 N x3.Seq) fun v4 => if? ((x3.Body == v4)) (ck .i64 (a2 + 1) (L29_0 N p0 m1 x3.Seq (a2 + 1))) (some (false)))) (if? ((x3.Seq != a1)) (some (false)) (bd? (F46 N x3.Seq) fun v5 => if? ((x3.Body == v5)) (ck .i64 (a1 + 1) (ck .i64 (a2 + 1) (L29_0 N p0 m1 (a1 + 1) (a2 + 1)))) (some (false))))) (some ((a1 == p0.I.Next)))
def I29_0 (N : Nat) (p0 : WLine) (r : Bool) (n : Nat) (s : AState) : Prop := ∃ (a1 : Int) (a2 : Int), L29_0 N p0 n a1 a2 = some r ∧ s = ⟨envL [(1, .ptr (.O 0) 0), (3, .D (.I .i64 a1)), (4, .D (.I .i64 a2))], ownL [], ownL [some (.box [.D (.I .i64 p0.O.Base), .D (.I .i64 p0.O.Acked), .D (.S p0.O.Summary), .D (.L (p0.O.Queue.map rS)), .D (.I .i64 p0.I.Next), .D (.L (p0.I.Ahead.map Frame.row)), .D (.L (p0.Sent.map Frame.row)), .D (.L (p0.Told.map (rI .i64))), .D (.L (p0.Delivered.map Frame.row)), .D (.B p0.Bad)])], 1⟩
def F29 (N : Nat) (p0 : WLine) : Option Bool := L29_0 N p0 N 0 0
theorem c29 (N : Nat) (p0 : WLine) (r : Bool) (h : F29 N p0 = some r) : ACall Try.prog 29 [.agg [.D (.I .i64 p0.O.Base), .D (.I .i64 p0.O.Acked), .D (.S p0.O.Summary), .D (.L (p0.O.Queue.map rS)), .D (.I .i64 p0.I.Next), .D (.L (p0.I.Ahead.map Frame.row)), .D (.L (p0.Sent.map Frame.row)), .D (.L (p0.Told.map (rI .i64))), .D (.L (p0.Delivered.map Frame.row)), .D (.B p0.Bad)]] [] (.D (.B r)) [] [] := by
  refine ACall.of_bodyW [] (fn := Try.f29) (rc := f29c) (rs := f29r) Try.func29 rfl rfl (by kernel_rfl) (by kernel_rfl) (by kernel_rfl) (by rw [Try.ntmps29]; simp) ?_
  unfold F29 at h
  unfold f29c f29r
  rw [entry_eq _ _]
  simp (config := { maxSteps := 1000000 }) (disch := first | assumption | (simp; done) | omega | (simp; omega)) only [push_cast, reduceCtorEq, Nat.reduceEqDiff, Nat.reduceAdd, Nat.reduceSub, Nat.reduceMul, Nat.reduceLeDiff, Nat.reduceLT, Int.reduceEq, Int.reduceNe, Int.reduceLT, Int.reduceLE, Int.reduceGT, Int.reduceGE, Int.reduceBEq, Int.reduceBNe, ↓reduceIte]
  refine loop_of (I29_0 N p0 _) N [1, 3, 4] [0] (by decide) ⟨0, 0, h, ?_⟩ ?_
  · rw [wk_mk]
    simp (config := { maxSteps := 1000000 }) (disch := first | assumption | (simp; done) | omega | (simp; omega)) only [push_cast, reduceCtorEq, Nat.reduceEqDiff, Nat.reduceAdd, Nat.reduceSub, Nat.reduceMul, Nat.reduceLeDiff, Nat.reduceLT, Int.reduceEq, Int.reduceNe, Int.reduceLT, Int.reduceLE, Int.reduceGT, Int.reduceGE, Int.reduceBEq, Int.reduceBNe, ↓reduceIte] <;> rfl
  · rintro n s ⟨a1, a2, h, rfl⟩
    cases n with
    | zero => exact absurd h (by simp [L29_0])
    | succ m1 =>
      rw [L29_0] at h
      unfold f29b13
      rcases F_if h with ⟨h360, h⟩ | ⟨h360, h⟩
      · try simp (disch := first | assumption | (simp; done) | omega | (simp; omega)) only [push_cast, reduceCtorEq, Nat.reduceEqDiff, Nat.reduceAdd, Nat.reduceSub, Nat.reduceMul, Nat.reduceLeDiff, Nat.reduceLT, Int.reduceEq, Int.reduceNe, Int.reduceLT, Int.reduceLE, Int.reduceGT, Int.reduceGE, Int.reduceBEq, Int.reduceBNe, ↓reduceIte] at h360
        obtain ⟨x3, h361, h362, h⟩ := F_get h
        have h364 := get_lt h361 h362
        have h363 := map_get Frame.row h362
        try simp (disch := first | assumption | (simp; done) | omega | (simp; omega)) only [push_cast, reduceCtorEq, Nat.reduceEqDiff, Nat.reduceAdd, Nat.reduceSub, Nat.reduceMul, Nat.reduceLeDiff, Nat.reduceLT, Int.reduceEq, Int.reduceNe, Int.reduceLT, Int.reduceLE, Int.reduceGT, Int.reduceGE, Int.reduceBEq, Int.reduceBNe, ↓reduceIte] at h363
        try simp (disch := first | assumption | (simp; done) | omega | (simp; omega)) only [push_cast, reduceCtorEq, Nat.reduceEqDiff, Nat.reduceAdd, Nat.reduceSub, Nat.reduceMul, Nat.reduceLeDiff, Nat.reduceLT, Int.reduceEq, Int.reduceNe, Int.reduceLT, Int.reduceLE, Int.reduceGT, Int.reduceGE, Int.reduceBEq, Int.reduceBNe, ↓reduceIte] at h364
        rcases F_if h with ⟨h365, h⟩ | ⟨h365, h⟩
        · try simp (disch := first | assumption | (simp; done) | omega | (simp; omega)) only [push_cast, reduceCtorEq, Nat.reduceEqDiff, Nat.reduceAdd, Nat.reduceSub, Nat.reduceMul, Nat.reduceLeDiff, Nat.reduceLT, Int.reduceEq, Int.reduceNe, Int.reduceLT, Int.reduceLE, Int.reduceGT, Int.reduceGE, Int.reduceBEq, Int.reduceBNe, ↓reduceIte] at h365
          rcases F_if h with ⟨h366, h⟩ | ⟨h366, h⟩
          · try simp (disch := first | assumption | (simp; done) | omega | (simp; omega)) only [push_cast, reduceCtorEq, Nat.reduceEqDiff, Nat.reduceAdd, Nat.reduceSub, Nat.reduceMul, Nat.reduceLeDiff, Nat.reduceLT, Int.reduceEq, Int.reduceNe, Int.reduceLT, Int.reduceLE, Int.reduceGT, Int.reduceGE, Int.reduceBEq, Int.reduceBNe, ↓reduceIte] at h366
            obtain rfl := Option.some.inj h
            simp (config := { maxSteps := 1000000 }) (disch := first | assumption | (simp; done) | omega | (simp; omega)) only [push_cast, reduceCtorEq, Nat.reduceEqDiff, Nat.reduceAdd, Nat.reduceSub, Nat.reduceMul, Nat.reduceLeDiff, Nat.reduceLT, Int.reduceEq, Int.reduceNe, Int.reduceLT, Int.reduceLE, Int.reduceGT, Int.reduceGE, Int.reduceBEq, Int.reduceBNe, ↓reduceIte, h360, h361, h363, h364, h365, h366]
            refine e_ret (.inr rfl) ?_
            simp (config := { maxSteps := 1000000 }) (disch := first | assumption | (simp; done) | omega | (simp; omega)) only [push_cast, reduceCtorEq, Nat.reduceEqDiff, Nat.reduceAdd, Nat.reduceSub, Nat.reduceMul, Nat.reduceLeDiff, Nat.reduceLT, Int.reduceEq, Int.reduceNe, Int.reduceLT, Int.reduceLE, Int.reduceGT, Int.reduceGE, Int.reduceBEq, Int.reduceBNe, ↓reduceIte, aret, aresults, aresult, h360, h361, h363, h364, h365, h366]
            refine ⟨_, rfl, ?_⟩
            first | (simp (config := { maxSteps := 1000000 }) (disch := first | assumption | (simp; done) | omega | (simp; omega)) only [push_cast, reduceCtorEq, Nat.reduceEqDiff, Nat.reduceAdd, Nat.reduceSub, Nat.reduceMul, Nat.reduceLeDiff, Nat.reduceLT, Int.reduceEq, Int.reduceNe, Int.reduceLT, Int.reduceLE, Int.reduceGT, Int.reduceGE, Int.reduceBEq, Int.reduceBNe, ↓reduceIte, h360, h361, h363, h364, h365, h366] <;> rfl) | rfl
          · try simp (disch := first | assumption | (simp; done) | omega | (simp; omega)) only [push_cast, reduceCtorEq, Nat.reduceEqDiff, Nat.reduceAdd, Nat.reduceSub, Nat.reduceMul, Nat.reduceLeDiff, Nat.reduceLT, Int.reduceEq, Int.reduceNe, Int.reduceLT, Int.reduceLE, Int.reduceGT, Int.reduceGE, Int.reduceBEq, Int.reduceBNe, ↓reduceIte] at h366
            obtain ⟨v4, h367, h⟩ := F_bd h
            simp (config := { maxSteps := 1000000 }) (disch := first | assumption | (simp; done) | omega | (simp; omega)) only [push_cast, reduceCtorEq, Nat.reduceEqDiff, Nat.reduceAdd, Nat.reduceSub, Nat.reduceMul, Nat.reduceLeDiff, Nat.reduceLT, Int.reduceEq, Int.reduceNe, Int.reduceLT, Int.reduceLE, Int.reduceGT, Int.reduceGE, Int.reduceBEq, Int.reduceBNe, ↓reduceIte, h360, h361, h363, h364, h365, h366]
            refine call_flat (by rfl) (c47 N _ _ h367) ?_ rfl ?_
            · simp (config := { maxSteps := 1000000 }) (disch := first | assumption | (simp; done) | omega | (simp; omega)) only [push_cast, reduceCtorEq, Nat.reduceEqDiff, Nat.reduceAdd, Nat.reduceSub, Nat.reduceMul, Nat.reduceLeDiff, Nat.reduceLT, Int.reduceEq, Int.reduceNe, Int.reduceLT, Int.reduceLE, Int.reduceGT, Int.reduceGE, Int.reduceBEq, Int.reduceBNe, ↓reduceIte, h360, h361, h363, h364, h365, h366] <;> rfl
            rcases F_if h with ⟨h368, h⟩ | ⟨h368, h⟩
            · try simp (disch := first | assumption | (simp; done) | omega | (simp; omega)) only [push_cast, reduceCtorEq, Nat.reduceEqDiff, Nat.reduceAdd, Nat.reduceSub, Nat.reduceMul, Nat.reduceLeDiff, Nat.reduceLT, Int.reduceEq, Int.reduceNe, Int.reduceLT, Int.reduceLE, Int.reduceGT, Int.reduceGE, Int.reduceBEq, Int.reduceBNe, ↓reduceIte] at h368
              obtain ⟨h369, h⟩ := F_ck h
              try simp (disch := first | assumption | (simp; done) | omega | (simp; omega)) only [push_cast, reduceCtorEq, Nat.reduceEqDiff, Nat.reduceAdd, Nat.reduceSub, Nat.reduceMul, Nat.reduceLeDiff, Nat.reduceLT, Int.reduceEq, Int.reduceNe, Int.reduceLT, Int.reduceLE, Int.reduceGT, Int.reduceGE, Int.reduceBEq, Int.reduceBNe, ↓reduceIte] at h369
              simp (config := { maxSteps := 1000000 }) (disch := first | assumption | (simp; done) | omega | (simp; omega)) only [push_cast, reduceCtorEq, Nat.reduceEqDiff, Nat.reduceAdd, Nat.reduceSub, Nat.reduceMul, Nat.reduceLeDiff, Nat.reduceLT, Int.reduceEq, Int.reduceNe, Int.reduceLT, Int.reduceLE, Int.reduceGT, Int.reduceGE, Int.reduceBEq, Int.reduceBNe, ↓reduceIte, h360, h361, h363, h364, h365, h366, h368, h369]
              refine lpK_of m1 [1, 3, 4] [0] (by omega) (by decide) ⟨x3.Seq, (a2 + 1), h, ?_⟩
              rw [wk_mk]
              simp (config := { maxSteps := 1000000 }) (disch := first | assumption | (simp; done) | omega | (simp; omega)) only [push_cast, reduceCtorEq, Nat.reduceEqDiff, Nat.reduceAdd, Nat.reduceSub, Nat.reduceMul, Nat.reduceLeDiff, Nat.reduceLT, Int.reduceEq, Int.reduceNe, Int.reduceLT, Int.reduceLE, Int.reduceGT, Int.reduceGE, Int.reduceBEq, Int.reduceBNe, ↓reduceIte, h360, h361, h363, h364, h365, h366, h368, h369] <;> rfl
            · try simp (disch := first | assumption | (simp; done) | omega | (simp; omega)) only [push_cast, reduceCtorEq, Nat.reduceEqDiff, Nat.reduceAdd, Nat.reduceSub, Nat.reduceMul, Nat.reduceLeDiff, Nat.reduceLT, Int.reduceEq, Int.reduceNe, Int.reduceLT, Int.reduceLE, Int.reduceGT, Int.reduceGE, Int.reduceBEq, Int.reduceBNe, ↓reduceIte] at h368
              obtain rfl := Option.some.inj h
              simp (config := { maxSteps := 1000000 }) (disch := first | assumption | (simp; done) | omega | (simp; omega)) only [push_cast, reduceCtorEq, Nat.reduceEqDiff, Nat.reduceAdd, Nat.reduceSub, Nat.reduceMul, Nat.reduceLeDiff, Nat.reduceLT, Int.reduceEq, Int.reduceNe, Int.reduceLT, Int.reduceLE, Int.reduceGT, Int.reduceGE, Int.reduceBEq, Int.reduceBNe, ↓reduceIte, h360, h361, h363, h364, h365, h366, h368]
              refine e_ret (.inr rfl) ?_
              simp (config := { maxSteps := 1000000 }) (disch := first | assumption | (simp; done) | omega | (simp; omega)) only [push_cast, reduceCtorEq, Nat.reduceEqDiff, Nat.reduceAdd, Nat.reduceSub, Nat.reduceMul, Nat.reduceLeDiff, Nat.reduceLT, Int.reduceEq, Int.reduceNe, Int.reduceLT, Int.reduceLE, Int.reduceGT, Int.reduceGE, Int.reduceBEq, Int.reduceBNe, ↓reduceIte, aret, aresults, aresult, h360, h361, h363, h364, h365, h366, h368]
              refine ⟨_, rfl, ?_⟩
              first | (simp (config := { maxSteps := 1000000 }) (disch := first | assumption | (simp; done) | omega | (simp; omega)) only [push_cast, reduceCtorEq, Nat.reduceEqDiff, Nat.reduceAdd, Nat.reduceSub, Nat.reduceMul, Nat.reduceLeDiff, Nat.reduceLT, Int.reduceEq, Int.reduceNe, Int.reduceLT, Int.reduceLE, Int.reduceGT, Int.reduceGE, Int.reduceBEq, Int.reduceBNe, ↓reduceIte, h360, h361, h363, h364, h365, h366, h368] <;> rfl) | rfl
        · try simp (disch := first | assumption | (simp; done) | omega | (simp; omega)) only [push_cast, reduceCtorEq, Nat.reduceEqDiff, Nat.reduceAdd, Nat.reduceSub, Nat.reduceMul, Nat.reduceLeDiff, Nat.reduceLT, Int.reduceEq, Int.reduceNe, Int.reduceLT, Int.reduceLE, Int.reduceGT, Int.reduceGE, Int.reduceBEq, Int.reduceBNe, ↓reduceIte] at h365
          rcases F_if h with ⟨h370, h⟩ | ⟨h370, h⟩
          · try simp (disch := first | assumption | (simp; done) | omega | (simp; omega)) only [push_cast, reduceCtorEq, Nat.reduceEqDiff, Nat.reduceAdd, Nat.reduceSub, Nat.reduceMul, Nat.reduceLeDiff, Nat.reduceLT, Int.reduceEq, Int.reduceNe, Int.reduceLT, Int.reduceLE, Int.reduceGT, Int.reduceGE, Int.reduceBEq, Int.reduceBNe, ↓reduceIte] at h370
            obtain rfl := Option.some.inj h
            simp (config := { maxSteps := 1000000 }) (disch := first | assumption | (simp; done) | omega | (simp; omega)) only [push_cast, reduceCtorEq, Nat.reduceEqDiff, Nat.reduceAdd, Nat.reduceSub, Nat.reduceMul, Nat.reduceLeDiff, Nat.reduceLT, Int.reduceEq, Int.reduceNe, Int.reduceLT, Int.reduceLE, Int.reduceGT, Int.reduceGE, Int.reduceBEq, Int.reduceBNe, ↓reduceIte, h360, h361, h363, h364, h365, h370]
            refine e_ret (.inr rfl) ?_
            simp (config := { maxSteps := 1000000 }) (disch := first | assumption | (simp; done) | omega | (simp; omega)) only [push_cast, reduceCtorEq, Nat.reduceEqDiff, Nat.reduceAdd, Nat.reduceSub, Nat.reduceMul, Nat.reduceLeDiff, Nat.reduceLT, Int.reduceEq, Int.reduceNe, Int.reduceLT, Int.reduceLE, Int.reduceGT, Int.reduceGE, Int.reduceBEq, Int.reduceBNe, ↓reduceIte, aret, aresults, aresult, h360, h361, h363, h364, h365, h370]
            refine ⟨_, rfl, ?_⟩
            first | (simp (config := { maxSteps := 1000000 }) (disch := first | assumption | (simp; done) | omega | (simp; omega)) only [push_cast, reduceCtorEq, Nat.reduceEqDiff, Nat.reduceAdd, Nat.reduceSub, Nat.reduceMul, Nat.reduceLeDiff, Nat.reduceLT, Int.reduceEq, Int.reduceNe, Int.reduceLT, Int.reduceLE, Int.reduceGT, Int.reduceGE, Int.reduceBEq, Int.reduceBNe, ↓reduceIte, h360, h361, h363, h364, h365, h370] <;> rfl) | rfl
          · try simp (disch := first | assumption | (simp; done) | omega | (simp; omega)) only [push_cast, reduceCtorEq, Nat.reduceEqDiff, Nat.reduceAdd, Nat.reduceSub, Nat.reduceMul, Nat.reduceLeDiff, Nat.reduceLT, Int.reduceEq, Int.reduceNe, Int.reduceLT, Int.reduceLE, Int.reduceGT, Int.reduceGE, Int.reduceBEq, Int.reduceBNe, ↓reduceIte] at h370
            obtain ⟨v5, h371, h⟩ := F_bd h
            simp (config := { maxSteps := 1000000 }) (disch := first | assumption | (simp; done) | omega | (simp; omega)) only [push_cast, reduceCtorEq, Nat.reduceEqDiff, Nat.reduceAdd, Nat.reduceSub, Nat.reduceMul, Nat.reduceLeDiff, Nat.reduceLT, Int.reduceEq, Int.reduceNe, Int.reduceLT, Int.reduceLE, Int.reduceGT, Int.reduceGE, Int.reduceBEq, Int.reduceBNe, ↓reduceIte, h360, h361, h363, h364, h365, h370]
            refine call_flat (by rfl) (c46 N _ _ h371) ?_ rfl ?_
            · simp (config := { maxSteps := 1000000 }) (disch := first | assumption | (simp; done) | omega | (simp; omega)) only [push_cast, reduceCtorEq, Nat.reduceEqDiff, Nat.reduceAdd, Nat.reduceSub, Nat.reduceMul, Nat.reduceLeDiff, Nat.reduceLT, Int.reduceEq, Int.reduceNe, Int.reduceLT, Int.reduceLE, Int.reduceGT, Int.reduceGE, Int.reduceBEq, Int.reduceBNe, ↓reduceIte, h360, h361, h363, h364, h365, h370] <;> rfl
            rcases F_if h with ⟨h372, h⟩ | ⟨h372, h⟩
            · try simp (disch := first | assumption | (simp; done) | omega | (simp; omega)) only [push_cast, reduceCtorEq, Nat.reduceEqDiff, Nat.reduceAdd, Nat.reduceSub, Nat.reduceMul, Nat.reduceLeDiff, Nat.reduceLT, Int.reduceEq, Int.reduceNe, Int.reduceLT, Int.reduceLE, Int.reduceGT, Int.reduceGE, Int.reduceBEq, Int.reduceBNe, ↓reduceIte] at h372
              obtain ⟨h373, h⟩ := F_ck h
              try simp (disch := first | assumption | (simp; done) | omega | (simp; omega)) only [push_cast, reduceCtorEq, Nat.reduceEqDiff, Nat.reduceAdd, Nat.reduceSub, Nat.reduceMul, Nat.reduceLeDiff, Nat.reduceLT, Int.reduceEq, Int.reduceNe, Int.reduceLT, Int.reduceLE, Int.reduceGT, Int.reduceGE, Int.reduceBEq, Int.reduceBNe, ↓reduceIte] at h373
              obtain ⟨h374, h⟩ := F_ck h
              try simp (disch := first | assumption | (simp; done) | omega | (simp; omega)) only [push_cast, reduceCtorEq, Nat.reduceEqDiff, Nat.reduceAdd, Nat.reduceSub, Nat.reduceMul, Nat.reduceLeDiff, Nat.reduceLT, Int.reduceEq, Int.reduceNe, Int.reduceLT, Int.reduceLE, Int.reduceGT, Int.reduceGE, Int.reduceBEq, Int.reduceBNe, ↓reduceIte] at h374
              simp (config := { maxSteps := 1000000 }) (disch := first | assumption | (simp; done) | omega | (simp; omega)) only [push_cast, reduceCtorEq, Nat.reduceEqDiff, Nat.reduceAdd, Nat.reduceSub, Nat.reduceMul, Nat.reduceLeDiff, Nat.reduceLT, Int.reduceEq, Int.reduceNe, Int.reduceLT, Int.reduceLE, Int.reduceGT, Int.reduceGE, Int.reduceBEq, Int.reduceBNe, ↓reduceIte, h360, h361, h363, h364, h365, h370, h372, h373, h374]
              refine lpK_of m1 [1, 3, 4] [0] (by omega) (by decide) ⟨(a1 + 1), (a2 + 1), h, ?_⟩
              rw [wk_mk]
              simp (config := { maxSteps := 1000000 }) (disch := first | assumption | (simp; done) | omega | (simp; omega)) only [push_cast, reduceCtorEq, Nat.reduceEqDiff, Nat.reduceAdd, Nat.reduceSub, Nat.reduceMul, Nat.reduceLeDiff, Nat.reduceLT, Int.reduceEq, Int.reduceNe, Int.reduceLT, Int.reduceLE, Int.reduceGT, Int.reduceGE, Int.reduceBEq, Int.reduceBNe, ↓reduceIte, h360, h361, h363, h364, h365, h370, h372, h373, h374] <;> rfl
            · try simp (disch := first | assumption | (simp; done) | omega | (simp; omega)) only [push_cast, reduceCtorEq, Nat.reduceEqDiff, Nat.reduceAdd, Nat.reduceSub, Nat.reduceMul, Nat.reduceLeDiff, Nat.reduceLT, Int.reduceEq, Int.reduceNe, Int.reduceLT, Int.reduceLE, Int.reduceGT, Int.reduceGE, Int.reduceBEq, Int.reduceBNe, ↓reduceIte] at h372
              obtain rfl := Option.some.inj h
              simp (config := { maxSteps := 1000000 }) (disch := first | assumption | (simp; done) | omega | (simp; omega)) only [push_cast, reduceCtorEq, Nat.reduceEqDiff, Nat.reduceAdd, Nat.reduceSub, Nat.reduceMul, Nat.reduceLeDiff, Nat.reduceLT, Int.reduceEq, Int.reduceNe, Int.reduceLT, Int.reduceLE, Int.reduceGT, Int.reduceGE, Int.reduceBEq, Int.reduceBNe, ↓reduceIte, h360, h361, h363, h364, h365, h370, h372]
              refine e_ret (.inr rfl) ?_
              simp (config := { maxSteps := 1000000 }) (disch := first | assumption | (simp; done) | omega | (simp; omega)) only [push_cast, reduceCtorEq, Nat.reduceEqDiff, Nat.reduceAdd, Nat.reduceSub, Nat.reduceMul, Nat.reduceLeDiff, Nat.reduceLT, Int.reduceEq, Int.reduceNe, Int.reduceLT, Int.reduceLE, Int.reduceGT, Int.reduceGE, Int.reduceBEq, Int.reduceBNe, ↓reduceIte, aret, aresults, aresult, h360, h361, h363, h364, h365, h370, h372]
              refine ⟨_, rfl, ?_⟩
              first | (simp (config := { maxSteps := 1000000 }) (disch := first | assumption | (simp; done) | omega | (simp; omega)) only [push_cast, reduceCtorEq, Nat.reduceEqDiff, Nat.reduceAdd, Nat.reduceSub, Nat.reduceMul, Nat.reduceLeDiff, Nat.reduceLT, Int.reduceEq, Int.reduceNe, Int.reduceLT, Int.reduceLE, Int.reduceGT, Int.reduceGE, Int.reduceBEq, Int.reduceBNe, ↓reduceIte, h360, h361, h363, h364, h365, h370, h372] <;> rfl) | rfl
      · try simp (disch := first | assumption | (simp; done) | omega | (simp; omega)) only [push_cast, reduceCtorEq, Nat.reduceEqDiff, Nat.reduceAdd, Nat.reduceSub, Nat.reduceMul, Nat.reduceLeDiff, Nat.reduceLT, Int.reduceEq, Int.reduceNe, Int.reduceLT, Int.reduceLE, Int.reduceGT, Int.reduceGE, Int.reduceBEq, Int.reduceBNe, ↓reduceIte] at h360
        obtain rfl := Option.some.inj h
        simp (config := { maxSteps := 1000000 }) (disch := first | assumption | (simp; done) | omega | (simp; omega)) only [push_cast, reduceCtorEq, Nat.reduceEqDiff, Nat.reduceAdd, Nat.reduceSub, Nat.reduceMul, Nat.reduceLeDiff, Nat.reduceLT, Int.reduceEq, Int.reduceNe, Int.reduceLT, Int.reduceLE, Int.reduceGT, Int.reduceGE, Int.reduceBEq, Int.reduceBNe, ↓reduceIte, h360]
        refine e_ret (.inr rfl) ?_
        simp (config := { maxSteps := 1000000 }) (disch := first | assumption | (simp; done) | omega | (simp; omega)) only [push_cast, reduceCtorEq, Nat.reduceEqDiff, Nat.reduceAdd, Nat.reduceSub, Nat.reduceMul, Nat.reduceLeDiff, Nat.reduceLT, Int.reduceEq, Int.reduceNe, Int.reduceLT, Int.reduceLE, Int.reduceGT, Int.reduceGE, Int.reduceBEq, Int.reduceBNe, ↓reduceIte, aret, aresults, aresult, h360]
        refine ⟨_, rfl, ?_⟩
        first | (simp (config := { maxSteps := 1000000 }) (disch := first | assumption | (simp; done) | omega | (simp; omega)) only [push_cast, reduceCtorEq, Nat.reduceEqDiff, Nat.reduceAdd, Nat.reduceSub, Nat.reduceMul, Nat.reduceLeDiff, Nat.reduceLT, Int.reduceEq, Int.reduceNe, Int.reduceLT, Int.reduceLE, Int.reduceGT, Int.reduceGE, Int.reduceBEq, Int.reduceBNe, ↓reduceIte, h360] <;> rfl) | rfl

/-! ## 6 rivermark.rivermarklaw11.LinkDeliversInOrder -/
def f6g0 : List RO :=
  [⟨(.some 2), (.mv (.const (.bool .false))), .none⟩]
def f6g1 : List RO :=
  [⟨(.some 5), (.mv (.tmp 0)), .none⟩,
   ⟨(.some 6), (.len .false (.tmp 5)), .none⟩,
   ⟨(.some 7), (.bin .gtr (.tmp 6) (.const (.int .i64 100))), .none⟩]
def f6g2 : List RO :=
  [⟨(.some 8), (.call (.func 9) []), .none⟩,
   ⟨(.some 2), (.mv (.tmp 8)), .none⟩]
def f6g3 : List RO :=
  [⟨(.some 3), (.new [(.D (.I .i64 0)), (.D (.I .i64 0)), (.D (.S [])), (.fl []), (.D (.I .i64 0)), (.fl []), (.fl []), (.fl []), (.fl []), (.D (.B .false))]), .none⟩]
def f6g4 : List RO :=
  [⟨(.some 4), (.mv (.const (.int .i64 0))), .none⟩]
def f6g5 : List RO :=
  [⟨(.some 9), (.mv (.tmp 4)), .none⟩,
   ⟨(.some 10), (.mv (.tmp 0)), .none⟩,
   ⟨(.some 11), (.len .false (.tmp 10)), .none⟩,
   ⟨(.some 12), (.bin .lss (.tmp 9) (.tmp 11)), .none⟩]
def f6g6 : List RO :=
  [⟨(.some 15), (.load (.some 10) (.tmp 3)), .none⟩,
   ⟨(.some 16), (.mv (.tmp 0)), .none⟩,
   ⟨(.some 17), (.mv (.tmp 4)), .none⟩,
   ⟨(.some 18), (.iaddr 2 (.tmp 16) (.tmp 17)), .none⟩,
   ⟨(.some 19), (.load (.some 2) (.tmp 18)), .none⟩,
   ⟨(.some 20), (.call (.func 28) [(.tmp 15), (.tmp 19)]), .none⟩,
   ⟨.none, (.store 10 (.tmp 3) (.tmp 20)), .none⟩]
def f6g7 : List RO :=
  [⟨(.some 21), (.faddr 9 (.tmp 3)), .none⟩,
   ⟨(.some 22), (.load .none (.tmp 21)), .none⟩,
   ⟨(.some 23), (.mv (.tmp 22)), .none⟩,
   ⟨(.some 24), (.load (.some 10) (.tmp 3)), (.some (23, .false))⟩,
   ⟨(.some 25), (.call (.func 29) [(.tmp 24)]), (.some (23, .false))⟩,
   ⟨(.some 26), (.un .not (.tmp 25)), (.some (23, .false))⟩,
   ⟨(.some 27), (.pick (.tmp 23) (.const (.bool .true)) (.tmp 26)), .none⟩]
def f6g8 : List RO :=
  [⟨(.some 2), (.mv (.const (.bool .false))), .none⟩]
def f6g9 : List RO :=
  [⟨(.some 13), (.mv (.tmp 4)), .none⟩,
   ⟨(.some 14), (.bin .add (.tmp 13) (.const (.int .i64 1))), .none⟩,
   ⟨(.some 4), (.mv (.tmp 14)), .none⟩]
def f6b10 : RCode := (.seq (.seq (.reg .false f6g5) (.cond (.tmp 12) .skip (.exit 0))) (.seq (.block 1 (.seq (.reg .true f6g6) (.seq (.reg .false f6g7) (.cond (.tmp 27) (.seq (.reg .false f6g8) .ret) .skip)))) (.reg .false f6g9)))
def f6g11 : List RO :=
  [⟨(.some 28), (.call (.func 9) []), .none⟩,
   ⟨(.some 2), (.mv (.tmp 28)), .none⟩]
def f6c : RCode := (.seq (.reg .false f6g0) (.seq (.seq (.reg .false f6g1) (.cond (.tmp 7) (.seq (.reg .false f6g2) .ret) .skip)) (.seq (.reg .false f6g3) (.seq (.seq (.reg .false f6g4) (.block 0 (.loop f6b10))) (.seq (.reg .false f6g11) .ret)))))
def f6r : List RRes := [(.tmp 2)]
attribute [push_cast] f6g0 f6g1 f6g2 f6g3 f6g4 f6g5 f6g6 f6g7 f6g8 f6g9 f6g11
def L6_0 (N : Nat) (p0 : (List WAct)) : Nat → Int → Int → Int → Str → (List Str) → Int → (List Frame) → (List Frame) → (List Int) → (List Frame) → Bool → Option Bool
  | 0, _, _, _, _, _, _, _, _, _, _, _ => none
  | m1+1, a2, a3, a4, a5, a6, a7, a8, a9, a10, a11, a12 => if? (decide (a2 < (p0.length : Int))) (get? p0 (a2) fun x13 => bd? (F28 N (WLine.mk (Outbox.mk a3 a4 a5 a6) (Inbox.mk a7 a8) a9 a10 a11 a12) x13) fun v14 => if? (v14.Bad) (some (false)) (bd? (F29 N v14) fun v15 => if? (v15) (ck .i64 (a2 + 1) (L6_0 N p0 m1 (a2 + 1) v14.O.Base v14.O.Acked v14.O.Summary v14.O.Queue v14.I.Next v14.I.Ahead v14.Sent v14.Told v14.Delivered v14.Bad)) (some (false)))) (bd? (F9 N ) fun v16 => some (v16))
def I6_0 (N : Nat) (p0 : (List WAct)) (r : Bool) (n : Nat) (s : AState) : Prop := ∃ (a2 : Int) (a3 : Int) (a4 : Int) (a5 : Str) (a6 : (List Str)) (a7 : Int) (a8 : (List Frame)) (a9 : (List Frame)) (a10 : (List Int)) (a11 : (List Frame)) (a12 : Bool), L6_0 N p0 n a2 a3 a4 a5 a6 a7 a8 a9 a10 a11 a12 = some r ∧ s = ⟨envL [(0, .D (.L (p0.map WAct.row))), (3, .ptr (.O 0) 0), (4, .D (.I .i64 a2))], ownL [], ownL [some (.box [.D (.I .i64 a3), .D (.I .i64 a4), .D (.S a5), .D (.L (a6.map rS)), .D (.I .i64 a7), .D (.L (a8.map Frame.row)), .D (.L (a9.map Frame.row)), .D (.L (a10.map (rI .i64))), .D (.L (a11.map Frame.row)), .D (.B a12)])], 1⟩
def F6 (N : Nat) (p0 : (List WAct)) : Option Bool := if? (decide ((p0.length : Int) > 100)) (bd? (F9 N ) fun v1 => some (v1)) (L6_0 N p0 N 0 0 0 ([] : Str) [] 0 [] [] [] [] false)
theorem c6 (N : Nat) (p0 : (List WAct)) (r : Bool) (h : F6 N p0 = some r) : ACall Try.prog 6 [.D (.L (p0.map WAct.row))] [] (.D (.B r)) [] [] := by
  refine ACall.of_bodyW [] (fn := Try.f6) (rc := f6c) (rs := f6r) Try.func6 rfl rfl (by kernel_rfl) (by kernel_rfl) (by kernel_rfl) (by rw [Try.ntmps6]; simp) ?_
  unfold F6 at h
  unfold f6c f6r
  rw [entry_eq _ _]
  rcases F_if h with ⟨h375, h⟩ | ⟨h375, h⟩
  · try simp (disch := first | assumption | (simp; done) | omega | (simp; omega)) only [push_cast, reduceCtorEq, Nat.reduceEqDiff, Nat.reduceAdd, Nat.reduceSub, Nat.reduceMul, Nat.reduceLeDiff, Nat.reduceLT, Int.reduceEq, Int.reduceNe, Int.reduceLT, Int.reduceLE, Int.reduceGT, Int.reduceGE, Int.reduceBEq, Int.reduceBNe, ↓reduceIte] at h375
    obtain ⟨v1, h376, h⟩ := F_bd h
    simp (config := { maxSteps := 1000000 }) (disch := first | assumption | (simp; done) | omega | (simp; omega)) only [push_cast, reduceCtorEq, Nat.reduceEqDiff, Nat.reduceAdd, Nat.reduceSub, Nat.reduceMul, Nat.reduceLeDiff, Nat.reduceLT, Int.reduceEq, Int.reduceNe, Int.reduceLT, Int.reduceLE, Int.reduceGT, Int.reduceGE, Int.reduceBEq, Int.reduceBNe, ↓reduceIte, h375]
    refine call_flat (by rfl) (c9 N _ h376) ?_ rfl ?_
    · simp (config := { maxSteps := 1000000 }) (disch := first | assumption | (simp; done) | omega | (simp; omega)) only [push_cast, reduceCtorEq, Nat.reduceEqDiff, Nat.reduceAdd, Nat.reduceSub, Nat.reduceMul, Nat.reduceLeDiff, Nat.reduceLT, Int.reduceEq, Int.reduceNe, Int.reduceLT, Int.reduceLE, Int.reduceGT, Int.reduceGE, Int.reduceBEq, Int.reduceBNe, ↓reduceIte, h375] <;> rfl
    obtain rfl := Option.some.inj h
    simp (config := { maxSteps := 1000000 }) (disch := first | assumption | (simp; done) | omega | (simp; omega)) only [push_cast, reduceCtorEq, Nat.reduceEqDiff, Nat.reduceAdd, Nat.reduceSub, Nat.reduceMul, Nat.reduceLeDiff, Nat.reduceLT, Int.reduceEq, Int.reduceNe, Int.reduceLT, Int.reduceLE, Int.reduceGT, Int.reduceGE, Int.reduceBEq, Int.reduceBNe, ↓reduceIte, h375]
    refine e_ret (.inr rfl) ?_
    simp (config := { maxSteps := 1000000 }) (disch := first | assumption | (simp; done) | omega | (simp; omega)) only [push_cast, reduceCtorEq, Nat.reduceEqDiff, Nat.reduceAdd, Nat.reduceSub, Nat.reduceMul, Nat.reduceLeDiff, Nat.reduceLT, Int.reduceEq, Int.reduceNe, Int.reduceLT, Int.reduceLE, Int.reduceGT, Int.reduceGE, Int.reduceBEq, Int.reduceBNe, ↓reduceIte, aret, aresults, aresult, h375]
    refine ⟨_, rfl, ?_⟩
    first | (simp (config := { maxSteps := 1000000 }) (disch := first | assumption | (simp; done) | omega | (simp; omega)) only [push_cast, reduceCtorEq, Nat.reduceEqDiff, Nat.reduceAdd, Nat.reduceSub, Nat.reduceMul, Nat.reduceLeDiff, Nat.reduceLT, Int.reduceEq, Int.reduceNe, Int.reduceLT, Int.reduceLE, Int.reduceGT, Int.reduceGE, Int.reduceBEq, Int.reduceBNe, ↓reduceIte, h375] <;> rfl) | rfl
  · try simp (disch := first | assumption | (simp; done) | omega | (simp; omega)) only [push_cast, reduceCtorEq, Nat.reduceEqDiff, Nat.reduceAdd, Nat.reduceSub, Nat.reduceMul, Nat.reduceLeDiff, Nat.reduceLT, Int.reduceEq, Int.reduceNe, Int.reduceLT, Int.reduceLE, Int.reduceGT, Int.reduceGE, Int.reduceBEq, Int.reduceBNe, ↓reduceIte] at h375
    simp (config := { maxSteps := 1000000 }) (disch := first | assumption | (simp; done) | omega | (simp; omega)) only [push_cast, reduceCtorEq, Nat.reduceEqDiff, Nat.reduceAdd, Nat.reduceSub, Nat.reduceMul, Nat.reduceLeDiff, Nat.reduceLT, Int.reduceEq, Int.reduceNe, Int.reduceLT, Int.reduceLE, Int.reduceGT, Int.reduceGE, Int.reduceBEq, Int.reduceBNe, ↓reduceIte, h375]
    refine loop_of (I6_0 N p0 _) N [0, 3, 4] [0] (by decide) ⟨0, 0, 0, ([] : Str), [], 0, [], [], [], [], false, h, ?_⟩ ?_
    · rw [wk_mk]
      simp (config := { maxSteps := 1000000 }) (disch := first | assumption | (simp; done) | omega | (simp; omega)) only [push_cast, reduceCtorEq, Nat.reduceEqDiff, Nat.reduceAdd, Nat.reduceSub, Nat.reduceMul, Nat.reduceLeDiff, Nat.reduceLT, Int.reduceEq, Int.reduceNe, Int.reduceLT, Int.reduceLE, Int.reduceGT, Int.reduceGE, Int.reduceBEq, Int.reduceBNe, ↓reduceIte, h375] <;> rfl
    · rintro n s ⟨a2, a3, a4, a5, a6, a7, a8, a9, a10, a11, a12, h, rfl⟩
      cases n with
      | zero => exact absurd h (by simp [L6_0])
      | succ m1 =>
        rw [L6_0] at h
        unfold f6b10
        rcases F_if h with ⟨h377, h⟩ | ⟨h377, h⟩
        · try simp (disch := first | assumption | (simp; done) | omega | (simp; omega)) only [push_cast, reduceCtorEq, Nat.reduceEqDiff, Nat.reduceAdd, Nat.reduceSub, Nat.reduceMul, Nat.reduceLeDiff, Nat.reduceLT, Int.reduceEq, Int.reduceNe, Int.reduceLT, Int.reduceLE, Int.reduceGT, Int.reduceGE, Int.reduceBEq, Int.reduceBNe, ↓reduceIte] at h377
          obtain ⟨x13, h378, h379, h⟩ := F_get h
          have h381 := get_lt h378 h379
          have h380 := map_get WAct.row h379
          try simp (disch := first | assumption | (simp; done) | omega | (simp; omega)) only [push_cast, reduceCtorEq, Nat.reduceEqDiff, Nat.reduceAdd, Nat.reduceSub, Nat.reduceMul, Nat.reduceLeDiff, Nat.reduceLT, Int.reduceEq, Int.reduceNe, Int.reduceLT, Int.reduceLE, Int.reduceGT, Int.reduceGE, Int.reduceBEq, Int.reduceBNe, ↓reduceIte] at h380
          try simp (disch := first | assumption | (simp; done) | omega | (simp; omega)) only [push_cast, reduceCtorEq, Nat.reduceEqDiff, Nat.reduceAdd, Nat.reduceSub, Nat.reduceMul, Nat.reduceLeDiff, Nat.reduceLT, Int.reduceEq, Int.reduceNe, Int.reduceLT, Int.reduceLE, Int.reduceGT, Int.reduceGE, Int.reduceBEq, Int.reduceBNe, ↓reduceIte] at h381
          obtain ⟨v14, h382, h⟩ := F_bd h
          simp (config := { maxSteps := 1000000 }) (disch := first | assumption | (simp; done) | omega | (simp; omega)) only [push_cast, reduceCtorEq, Nat.reduceEqDiff, Nat.reduceAdd, Nat.reduceSub, Nat.reduceMul, Nat.reduceLeDiff, Nat.reduceLT, Int.reduceEq, Int.reduceNe, Int.reduceLT, Int.reduceLE, Int.reduceGT, Int.reduceGE, Int.reduceBEq, Int.reduceBNe, ↓reduceIte, h375, h377, h378, h380, h381]
          refine call_new (by rfl) (c28 N _ _ _ h382) ?_ rfl ?_
          · simp (config := { maxSteps := 1000000 }) (disch := first | assumption | (simp; done) | omega | (simp; omega)) only [push_cast, reduceCtorEq, Nat.reduceEqDiff, Nat.reduceAdd, Nat.reduceSub, Nat.reduceMul, Nat.reduceLeDiff, Nat.reduceLT, Int.reduceEq, Int.reduceNe, Int.reduceLT, Int.reduceLE, Int.reduceGT, Int.reduceGE, Int.reduceBEq, Int.reduceBNe, ↓reduceIte, h375, h377, h378, h380, h381] <;> rfl
          rcases F_if h with ⟨h383, h⟩ | ⟨h383, h⟩
          · try simp (disch := first | assumption | (simp; done) | omega | (simp; omega)) only [push_cast, reduceCtorEq, Nat.reduceEqDiff, Nat.reduceAdd, Nat.reduceSub, Nat.reduceMul, Nat.reduceLeDiff, Nat.reduceLT, Int.reduceEq, Int.reduceNe, Int.reduceLT, Int.reduceLE, Int.reduceGT, Int.reduceGE, Int.reduceBEq, Int.reduceBNe, ↓reduceIte] at h383
            obtain rfl := Option.some.inj h
            simp (config := { maxSteps := 1000000 }) (disch := first | assumption | (simp; done) | omega | (simp; omega)) only [push_cast, reduceCtorEq, Nat.reduceEqDiff, Nat.reduceAdd, Nat.reduceSub, Nat.reduceMul, Nat.reduceLeDiff, Nat.reduceLT, Int.reduceEq, Int.reduceNe, Int.reduceLT, Int.reduceLE, Int.reduceGT, Int.reduceGE, Int.reduceBEq, Int.reduceBNe, ↓reduceIte, h375, h377, h378, h380, h381, h383]
            refine e_ret (.inr rfl) ?_
            simp (config := { maxSteps := 1000000 }) (disch := first | assumption | (simp; done) | omega | (simp; omega)) only [push_cast, reduceCtorEq, Nat.reduceEqDiff, Nat.reduceAdd, Nat.reduceSub, Nat.reduceMul, Nat.reduceLeDiff, Nat.reduceLT, Int.reduceEq, Int.reduceNe, Int.reduceLT, Int.reduceLE, Int.reduceGT, Int.reduceGE, Int.reduceBEq, Int.reduceBNe, ↓reduceIte, aret, aresults, aresult, h375, h377, h378, h380, h381, h383]
            refine ⟨_, rfl, ?_⟩
            first | (simp (config := { maxSteps := 1000000 }) (disch := first | assumption | (simp; done) | omega | (simp; omega)) only [push_cast, reduceCtorEq, Nat.reduceEqDiff, Nat.reduceAdd, Nat.reduceSub, Nat.reduceMul, Nat.reduceLeDiff, Nat.reduceLT, Int.reduceEq, Int.reduceNe, Int.reduceLT, Int.reduceLE, Int.reduceGT, Int.reduceGE, Int.reduceBEq, Int.reduceBNe, ↓reduceIte, h375, h377, h378, h380, h381, h383] <;> rfl) | rfl
          · try simp (disch := first | assumption | (simp; done) | omega | (simp; omega)) only [push_cast, reduceCtorEq, Nat.reduceEqDiff, Nat.reduceAdd, Nat.reduceSub, Nat.reduceMul, Nat.reduceLeDiff, Nat.reduceLT, Int.reduceEq, Int.reduceNe, Int.reduceLT, Int.reduceLE, Int.reduceGT, Int.reduceGE, Int.reduceBEq, Int.reduceBNe, ↓reduceIte] at h383
            obtain ⟨v15, h384, h⟩ := F_bd h
            simp (config := { maxSteps := 1000000 }) (disch := first | assumption | (simp; done) | omega | (simp; omega)) only [push_cast, reduceCtorEq, Nat.reduceEqDiff, Nat.reduceAdd, Nat.reduceSub, Nat.reduceMul, Nat.reduceLeDiff, Nat.reduceLT, Int.reduceEq, Int.reduceNe, Int.reduceLT, Int.reduceLE, Int.reduceGT, Int.reduceGE, Int.reduceBEq, Int.reduceBNe, ↓reduceIte, h375, h377, h378, h380, h381, h383]
            refine call_flat (by rfl) (c29 N _ _ h384) ?_ rfl ?_
            · simp (config := { maxSteps := 1000000 }) (disch := first | assumption | (simp; done) | omega | (simp; omega)) only [push_cast, reduceCtorEq, Nat.reduceEqDiff, Nat.reduceAdd, Nat.reduceSub, Nat.reduceMul, Nat.reduceLeDiff, Nat.reduceLT, Int.reduceEq, Int.reduceNe, Int.reduceLT, Int.reduceLE, Int.reduceGT, Int.reduceGE, Int.reduceBEq, Int.reduceBNe, ↓reduceIte, h375, h377, h378, h380, h381, h383] <;> rfl
            rcases F_if h with ⟨h385, h⟩ | ⟨h385, h⟩
            · try simp (disch := first | assumption | (simp; done) | omega | (simp; omega)) only [push_cast, reduceCtorEq, Nat.reduceEqDiff, Nat.reduceAdd, Nat.reduceSub, Nat.reduceMul, Nat.reduceLeDiff, Nat.reduceLT, Int.reduceEq, Int.reduceNe, Int.reduceLT, Int.reduceLE, Int.reduceGT, Int.reduceGE, Int.reduceBEq, Int.reduceBNe, ↓reduceIte] at h385
              obtain ⟨h386, h⟩ := F_ck h
              try simp (disch := first | assumption | (simp; done) | omega | (simp; omega)) only [push_cast, reduceCtorEq, Nat.reduceEqDiff, Nat.reduceAdd, Nat.reduceSub, Nat.reduceMul, Nat.reduceLeDiff, Nat.reduceLT, Int.reduceEq, Int.reduceNe, Int.reduceLT, Int.reduceLE, Int.reduceGT, Int.reduceGE, Int.reduceBEq, Int.reduceBNe, ↓reduceIte] at h386
              simp (config := { maxSteps := 1000000 }) (disch := first | assumption | (simp; done) | omega | (simp; omega)) only [push_cast, reduceCtorEq, Nat.reduceEqDiff, Nat.reduceAdd, Nat.reduceSub, Nat.reduceMul, Nat.reduceLeDiff, Nat.reduceLT, Int.reduceEq, Int.reduceNe, Int.reduceLT, Int.reduceLE, Int.reduceGT, Int.reduceGE, Int.reduceBEq, Int.reduceBNe, ↓reduceIte, h375, h377, h378, h380, h381, h383, h385, h386]
              refine lpK_of m1 [0, 3, 4] [0] (by omega) (by decide) ⟨(a2 + 1), v14.O.Base, v14.O.Acked, v14.O.Summary, v14.O.Queue, v14.I.Next, v14.I.Ahead, v14.Sent, v14.Told, v14.Delivered, v14.Bad, h, ?_⟩
              rw [wk_mk]
              simp (config := { maxSteps := 1000000 }) (disch := first | assumption | (simp; done) | omega | (simp; omega)) only [push_cast, reduceCtorEq, Nat.reduceEqDiff, Nat.reduceAdd, Nat.reduceSub, Nat.reduceMul, Nat.reduceLeDiff, Nat.reduceLT, Int.reduceEq, Int.reduceNe, Int.reduceLT, Int.reduceLE, Int.reduceGT, Int.reduceGE, Int.reduceBEq, Int.reduceBNe, ↓reduceIte, h375, h377, h378, h380, h381, h383, h385, h386] <;> rfl
            · try simp (disch := first | assumption | (simp; done) | omega | (simp; omega)) only [push_cast, reduceCtorEq, Nat.reduceEqDiff, Nat.reduceAdd, Nat.reduceSub, Nat.reduceMul, Nat.reduceLeDiff, Nat.reduceLT, Int.reduceEq, Int.reduceNe, Int.reduceLT, Int.reduceLE, Int.reduceGT, Int.reduceGE, Int.reduceBEq, Int.reduceBNe, ↓reduceIte] at h385
              obtain rfl := Option.some.inj h
              simp (config := { maxSteps := 1000000 }) (disch := first | assumption | (simp; done) | omega | (simp; omega)) only [push_cast, reduceCtorEq, Nat.reduceEqDiff, Nat.reduceAdd, Nat.reduceSub, Nat.reduceMul, Nat.reduceLeDiff, Nat.reduceLT, Int.reduceEq, Int.reduceNe, Int.reduceLT, Int.reduceLE, Int.reduceGT, Int.reduceGE, Int.reduceBEq, Int.reduceBNe, ↓reduceIte, h375, h377, h378, h380, h381, h383, h385]
              refine e_ret (.inr rfl) ?_
              simp (config := { maxSteps := 1000000 }) (disch := first | assumption | (simp; done) | omega | (simp; omega)) only [push_cast, reduceCtorEq, Nat.reduceEqDiff, Nat.reduceAdd, Nat.reduceSub, Nat.reduceMul, Nat.reduceLeDiff, Nat.reduceLT, Int.reduceEq, Int.reduceNe, Int.reduceLT, Int.reduceLE, Int.reduceGT, Int.reduceGE, Int.reduceBEq, Int.reduceBNe, ↓reduceIte, aret, aresults, aresult, h375, h377, h378, h380, h381, h383, h385]
              refine ⟨_, rfl, ?_⟩
              first | (simp (config := { maxSteps := 1000000 }) (disch := first | assumption | (simp; done) | omega | (simp; omega)) only [push_cast, reduceCtorEq, Nat.reduceEqDiff, Nat.reduceAdd, Nat.reduceSub, Nat.reduceMul, Nat.reduceLeDiff, Nat.reduceLT, Int.reduceEq, Int.reduceNe, Int.reduceLT, Int.reduceLE, Int.reduceGT, Int.reduceGE, Int.reduceBEq, Int.reduceBNe, ↓reduceIte, h375, h377, h378, h380, h381, h383, h385] <;> rfl) | rfl
        · try simp (disch := first | assumption | (simp; done) | omega | (simp; omega)) only [push_cast, reduceCtorEq, Nat.reduceEqDiff, Nat.reduceAdd, Nat.reduceSub, Nat.reduceMul, Nat.reduceLeDiff, Nat.reduceLT, Int.reduceEq, Int.reduceNe, Int.reduceLT, Int.reduceLE, Int.reduceGT, Int.reduceGE, Int.reduceBEq, Int.reduceBNe, ↓reduceIte] at h377
          obtain ⟨v16, h387, h⟩ := F_bd h
          simp (config := { maxSteps := 1000000 }) (disch := first | assumption | (simp; done) | omega | (simp; omega)) only [push_cast, reduceCtorEq, Nat.reduceEqDiff, Nat.reduceAdd, Nat.reduceSub, Nat.reduceMul, Nat.reduceLeDiff, Nat.reduceLT, Int.reduceEq, Int.reduceNe, Int.reduceLT, Int.reduceLE, Int.reduceGT, Int.reduceGE, Int.reduceBEq, Int.reduceBNe, ↓reduceIte, h375, h377]
          refine call_flat (by rfl) (c9 N _ h387) ?_ rfl ?_
          · simp (config := { maxSteps := 1000000 }) (disch := first | assumption | (simp; done) | omega | (simp; omega)) only [push_cast, reduceCtorEq, Nat.reduceEqDiff, Nat.reduceAdd, Nat.reduceSub, Nat.reduceMul, Nat.reduceLeDiff, Nat.reduceLT, Int.reduceEq, Int.reduceNe, Int.reduceLT, Int.reduceLE, Int.reduceGT, Int.reduceGE, Int.reduceBEq, Int.reduceBNe, ↓reduceIte, h375, h377] <;> rfl
          obtain rfl := Option.some.inj h
          simp (config := { maxSteps := 1000000 }) (disch := first | assumption | (simp; done) | omega | (simp; omega)) only [push_cast, reduceCtorEq, Nat.reduceEqDiff, Nat.reduceAdd, Nat.reduceSub, Nat.reduceMul, Nat.reduceLeDiff, Nat.reduceLT, Int.reduceEq, Int.reduceNe, Int.reduceLT, Int.reduceLE, Int.reduceGT, Int.reduceGE, Int.reduceBEq, Int.reduceBNe, ↓reduceIte, h375, h377]
          refine e_ret (.inr rfl) ?_
          simp (config := { maxSteps := 1000000 }) (disch := first | assumption | (simp; done) | omega | (simp; omega)) only [push_cast, reduceCtorEq, Nat.reduceEqDiff, Nat.reduceAdd, Nat.reduceSub, Nat.reduceMul, Nat.reduceLeDiff, Nat.reduceLT, Int.reduceEq, Int.reduceNe, Int.reduceLT, Int.reduceLE, Int.reduceGT, Int.reduceGE, Int.reduceBEq, Int.reduceBNe, ↓reduceIte, aret, aresults, aresult, h375, h377]
          refine ⟨_, rfl, ?_⟩
          first | (simp (config := { maxSteps := 1000000 }) (disch := first | assumption | (simp; done) | omega | (simp; omega)) only [push_cast, reduceCtorEq, Nat.reduceEqDiff, Nat.reduceAdd, Nat.reduceSub, Nat.reduceMul, Nat.reduceLeDiff, Nat.reduceLT, Int.reduceEq, Int.reduceNe, Int.reduceLT, Int.reduceLE, Int.reduceGT, Int.reduceGE, Int.reduceBEq, Int.reduceBNe, ↓reduceIte, h375, h377] <;> rfl) | rfl

/-! ## 28 rivermark.rivermarklaw11.act -/
def F28_1 (N : Nat) (p0 : WLine) (p1 : WAct) : Option WLine := ck .i64 (p0.O.Base + (p0.O.Queue.length : Int)) (if? (((Int.tmod p1.Kind 6) == 0)) (bd? (F46 N (p0.O.Base + (p0.O.Queue.length : Int))) fun v1 => bd? (F10 N p0.O v1) fun v2 => if? (p0.Bad) (some ((WLine.mk v2.1 p0.I p0.Sent p0.Told p0.Delivered true))) (some ((WLine.mk v2.1 p0.I p0.Sent p0.Told p0.Delivered (v2.2 != 0))))) (if? (((Int.tmod p1.Kind 6) == 1)) (ck .i64 (p1.N) (ck .i64 ((p0.O.Queue.length : Int) + 1) (gd? (((p0.O.Queue.length : Int) + 1) ≠ 0) (ck .i64 (p0.O.Base + (Int.tmod (p1.N) ((p0.O.Queue.length : Int) + 1))) (bd? (F47 N (p0.O.Base + (Int.tmod (p1.N) ((p0.O.Queue.length : Int) + 1)))) fun v3 => bd? (F11 N p0.O (p0.O.Base + (Int.tmod (p1.N) ((p0.O.Queue.length : Int) + 1))) v3) fun v4 => if? (p0.Bad) (some ((WLine.mk v4.1 p0.I p0.Sent p0.Told p0.Delivered true))) (some ((WLine.mk v4.1 p0.I p0.Sent p0.Told p0.Delivered (v4.2 != 0))))))))) (if? (((Int.tmod p1.Kind 6) == 2)) (ck .i64 (p1.N) (ck .i64 (1 + (Int.tmod (p1.N) 20)) (bd? (F12 N p0.O (1 + (Int.tmod (p1.N) 20))) fun v5 => gd? (p0.Sent.length * 32 ≤ 140737488355328) (gd? ((p0.Sent.length + v5.1.length) * 32 ≤ 140737488355328) (if? (p0.Bad) (some ((WLine.mk p0.O p0.I (p0.Sent ++ v5.1) p0.Told p0.Delivered true))) (some ((WLine.mk p0.O p0.I (p0.Sent ++ v5.1) p0.Told p0.Delivered (v5.2 != 0))))))))) (if? (((Int.tmod p1.Kind 6) == 3)) (if? (decide ((p0.Sent.length : Int) > 0)) (ck .i64 (p1.N) (gd? ((p0.Sent.length : Int) ≠ 0) (get? p0.Sent ((Int.tmod (p1.N) (p0.Sent.length : Int))) fun x6 => bd? (F23 N p0.I x6) fun v7 => gd? (p0.Delivered.length * 32 ≤ 140737488355328) (gd? ((p0.Delivered.length + v7.2.1.length) * 32 ≤ 140737488355328) (gd? (p0.Told.length * 8 ≤ 140737488355328) (gd? ((p0.Told.length + [v7.1.Next].length) * 8 ≤ 140737488355328) (if? (p0.Bad) (some ((WLine.mk p0.O v7.1 p0.Sent (p0.Told ++ [v7.1.Next]) (p0.Delivered ++ v7.2.1) true))) (some ((WLine.mk p0.O v7.1 p0.Sent (p0.Told ++ [v7.1.Next]) (p0.Delivered ++ v7.2.1) (v7.2.2 != 0))))))))))) (some (p0))) (if? (((Int.tmod p1.Kind 6) == 4)) (if? (decide ((p0.Told.length : Int) > 0)) (ck .i64 (p1.N) (gd? ((p0.Told.length : Int) ≠ 0) (get? p0.Told ((Int.tmod (p1.N) (p0.Told.length : Int))) fun x8 => bd? (F13 N p0.O x8) fun v9 => if? (p0.Bad) (some ((WLine.mk v9.1 p0.I p0.Sent p0.Told p0.Delivered true))) (some ((WLine.mk v9.1 p0.I p0.Sent p0.Told p0.Delivered (v9.2 != 0))))))) (some (p0))) (if? (((Int.tmod p1.Kind 6) == 5)) (bd? (F25 N p0.I) fun v10 => some ((WLine.mk p0.O v10 p0.Sent p0.Told p0.Delivered p0.Bad))) (some (p0))))))))
theorem c28_1 (N : Nat) (p0 : WLine) (p1 : WAct) (r : WLine) (h : F28_1 N p0 p1 = some r) : ACall Try.prog 28 [.agg [.D (.I .i64 p0.O.Base), .D (.I .i64 p0.O.Acked), .D (.S p0.O.Summary), .D (.L (p0.O.Queue.map rS)), .D (.I .i64 p0.I.Next), .D (.L (p0.I.Ahead.map Frame.row)), .D (.L (p0.Sent.map Frame.row)), .D (.L (p0.Told.map (rI .i64))), .sl (.B 0) 3 0 p0.Delivered.length, .D (.B p0.Bad)], .agg [.D (.I .u8 p1.Kind), .D (.I .u8 p1.N)]] [some (.row true 3 (p0.Delivered.map Frame.row))] (.agg [.D (.I .i64 r.O.Base), .D (.I .i64 r.O.Acked), .D (.S r.O.Summary), .D (.L (r.O.Queue.map rS)), .D (.I .i64 r.I.Next), .D (.L (r.I.Ahead.map Frame.row)), .D (.L (r.Sent.map Frame.row)), .D (.L (r.Told.map (rI .i64))), .sl (.O 0) 3 0 r.Delivered.length, .D (.B r.Bad)]) [none] [.row true 3 (r.Delivered.map Frame.row)] := by
  refine ACall.of_bodyM [99, 139, 148] [0] (fn := Try.f28) (rc := f28c) (rs := f28r) Try.func28 rfl rfl (by kernel_rfl) (by kernel_rfl) (by kernel_rfl) (by rw [Try.ntmps28]; simp) (by decide) ?_
  unfold F28_1 at h
  unfold f28c f28r
  rw [entryM_eq _ _ _ _ _ (by simp (config := { maxSteps := 1000000 }) (disch := first | assumption | (simp; done) | omega | (simp; omega)) only [push_cast, reduceCtorEq, Nat.reduceEqDiff, Nat.reduceAdd, Nat.reduceSub, Nat.reduceMul, Nat.reduceLeDiff, Nat.reduceLT, Int.reduceEq, Int.reduceNe, Int.reduceLT, Int.reduceLE, Int.reduceGT, Int.reduceGE, Int.reduceBEq, Int.reduceBNe, ↓reduceIte] <;> rfl) (by simp (config := { maxSteps := 1000000 }) (disch := first | assumption | (simp; done) | omega | (simp; omega)) only [push_cast, reduceCtorEq, Nat.reduceEqDiff, Nat.reduceAdd, Nat.reduceSub, Nat.reduceMul, Nat.reduceLeDiff, Nat.reduceLT, Int.reduceEq, Int.reduceNe, Int.reduceLT, Int.reduceLE, Int.reduceGT, Int.reduceGE, Int.reduceBEq, Int.reduceBNe, ↓reduceIte] <;> rfl)]
  obtain ⟨h388, h⟩ := F_ck h
  try simp (disch := first | assumption | (simp; done) | omega | (simp; omega)) only [push_cast, reduceCtorEq, Nat.reduceEqDiff, Nat.reduceAdd, Nat.reduceSub, Nat.reduceMul, Nat.reduceLeDiff, Nat.reduceLT, Int.reduceEq, Int.reduceNe, Int.reduceLT, Int.reduceLE, Int.reduceGT, Int.reduceGE, Int.reduceBEq, Int.reduceBNe, ↓reduceIte] at h388
  rcases F_if h with ⟨h389, h⟩ | ⟨h389, h⟩
  · try simp (disch := first | assumption | (simp; done) | omega | (simp; omega)) only [push_cast, reduceCtorEq, Nat.reduceEqDiff, Nat.reduceAdd, Nat.reduceSub, Nat.reduceMul, Nat.reduceLeDiff, Nat.reduceLT, Int.reduceEq, Int.reduceNe, Int.reduceLT, Int.reduceLE, Int.reduceGT, Int.reduceGE, Int.reduceBEq, Int.reduceBNe, ↓reduceIte] at h389
    obtain ⟨v1, h390, h⟩ := F_bd h
    simp (config := { maxSteps := 1000000 }) (disch := first | assumption | (simp; done) | omega | (simp; omega)) only [push_cast, reduceCtorEq, Nat.reduceEqDiff, Nat.reduceAdd, Nat.reduceSub, Nat.reduceMul, Nat.reduceLeDiff, Nat.reduceLT, Int.reduceEq, Int.reduceNe, Int.reduceLT, Int.reduceLE, Int.reduceGT, Int.reduceGE, Int.reduceBEq, Int.reduceBNe, ↓reduceIte, h388, h389]
    refine call_flat (by rfl) (c46 N _ _ h390) ?_ rfl ?_
    · simp (config := { maxSteps := 1000000 }) (disch := first | assumption | (simp; done) | omega | (simp; omega)) only [push_cast, reduceCtorEq, Nat.reduceEqDiff, Nat.reduceAdd, Nat.reduceSub, Nat.reduceMul, Nat.reduceLeDiff, Nat.reduceLT, Int.reduceEq, Int.reduceNe, Int.reduceLT, Int.reduceLE, Int.reduceGT, Int.reduceGE, Int.reduceBEq, Int.reduceBNe, ↓reduceIte, h388, h389] <;> rfl
    obtain ⟨v2, h391, h⟩ := F_bd h
    simp (config := { maxSteps := 1000000 }) (disch := first | assumption | (simp; done) | omega | (simp; omega)) only [push_cast, reduceCtorEq, Nat.reduceEqDiff, Nat.reduceAdd, Nat.reduceSub, Nat.reduceMul, Nat.reduceLeDiff, Nat.reduceLT, Int.reduceEq, Int.reduceNe, Int.reduceLT, Int.reduceLE, Int.reduceGT, Int.reduceGE, Int.reduceBEq, Int.reduceBNe, ↓reduceIte, h388, h389]
    refine call_new (by rfl) (c10 N _ _ _ h391) ?_ rfl ?_
    · simp (config := { maxSteps := 1000000 }) (disch := first | assumption | (simp; done) | omega | (simp; omega)) only [push_cast, reduceCtorEq, Nat.reduceEqDiff, Nat.reduceAdd, Nat.reduceSub, Nat.reduceMul, Nat.reduceLeDiff, Nat.reduceLT, Int.reduceEq, Int.reduceNe, Int.reduceLT, Int.reduceLE, Int.reduceGT, Int.reduceGE, Int.reduceBEq, Int.reduceBNe, ↓reduceIte, h388, h389] <;> rfl
    rcases F_if h with ⟨h392, h⟩ | ⟨h392, h⟩
    · try simp (disch := first | assumption | (simp; done) | omega | (simp; omega)) only [push_cast, reduceCtorEq, Nat.reduceEqDiff, Nat.reduceAdd, Nat.reduceSub, Nat.reduceMul, Nat.reduceLeDiff, Nat.reduceLT, Int.reduceEq, Int.reduceNe, Int.reduceLT, Int.reduceLE, Int.reduceGT, Int.reduceGE, Int.reduceBEq, Int.reduceBNe, ↓reduceIte] at h392
      obtain rfl := Option.some.inj h
      simp (config := { maxSteps := 1000000 }) (disch := first | assumption | (simp; done) | omega | (simp; omega)) only [push_cast, reduceCtorEq, Nat.reduceEqDiff, Nat.reduceAdd, Nat.reduceSub, Nat.reduceMul, Nat.reduceLeDiff, Nat.reduceLT, Int.reduceEq, Int.reduceNe, Int.reduceLT, Int.reduceLE, Int.reduceGT, Int.reduceGE, Int.reduceBEq, Int.reduceBNe, ↓reduceIte, h388, h389, h392]
      refine AEndW.of [0] (.inr rfl) (by decide) rfl ?_ ?_ ?_
      · simp (config := { maxSteps := 1000000 }) (disch := first | assumption | (simp; done) | omega | (simp; omega)) only [push_cast, reduceCtorEq, Nat.reduceEqDiff, Nat.reduceAdd, Nat.reduceSub, Nat.reduceMul, Nat.reduceLeDiff, Nat.reduceLT, Int.reduceEq, Int.reduceNe, Int.reduceLT, Int.reduceLE, Int.reduceGT, Int.reduceGE, Int.reduceBEq, Int.reduceBNe, ↓reduceIte, h388, h389, h392] <;> rfl
      · simp (config := { maxSteps := 1000000 }) (disch := first | assumption | (simp; done) | omega | (simp; omega)) only [push_cast, reduceCtorEq, Nat.reduceEqDiff, Nat.reduceAdd, Nat.reduceSub, Nat.reduceMul, Nat.reduceLeDiff, Nat.reduceLT, Int.reduceEq, Int.reduceNe, Int.reduceLT, Int.reduceLE, Int.reduceGT, Int.reduceGE, Int.reduceBEq, Int.reduceBNe, ↓reduceIte, h388, h389, h392] <;> rfl
      · simp (config := { maxSteps := 1000000 }) (disch := first | assumption | (simp; done) | omega | (simp; omega)) only [push_cast, reduceCtorEq, Nat.reduceEqDiff, Nat.reduceAdd, Nat.reduceSub, Nat.reduceMul, Nat.reduceLeDiff, Nat.reduceLT, Int.reduceEq, Int.reduceNe, Int.reduceLT, Int.reduceLE, Int.reduceGT, Int.reduceGE, Int.reduceBEq, Int.reduceBNe, ↓reduceIte, h388, h389, h392] <;> rfl
    · try simp (disch := first | assumption | (simp; done) | omega | (simp; omega)) only [push_cast, reduceCtorEq, Nat.reduceEqDiff, Nat.reduceAdd, Nat.reduceSub, Nat.reduceMul, Nat.reduceLeDiff, Nat.reduceLT, Int.reduceEq, Int.reduceNe, Int.reduceLT, Int.reduceLE, Int.reduceGT, Int.reduceGE, Int.reduceBEq, Int.reduceBNe, ↓reduceIte] at h392
      obtain rfl := Option.some.inj h
      simp (config := { maxSteps := 1000000 }) (disch := first | assumption | (simp; done) | omega | (simp; omega)) only [push_cast, reduceCtorEq, Nat.reduceEqDiff, Nat.reduceAdd, Nat.reduceSub, Nat.reduceMul, Nat.reduceLeDiff, Nat.reduceLT, Int.reduceEq, Int.reduceNe, Int.reduceLT, Int.reduceLE, Int.reduceGT, Int.reduceGE, Int.reduceBEq, Int.reduceBNe, ↓reduceIte, h388, h389, h392]
      refine AEndW.of [0] (.inr rfl) (by decide) rfl ?_ ?_ ?_
      · simp (config := { maxSteps := 1000000 }) (disch := first | assumption | (simp; done) | omega | (simp; omega)) only [push_cast, reduceCtorEq, Nat.reduceEqDiff, Nat.reduceAdd, Nat.reduceSub, Nat.reduceMul, Nat.reduceLeDiff, Nat.reduceLT, Int.reduceEq, Int.reduceNe, Int.reduceLT, Int.reduceLE, Int.reduceGT, Int.reduceGE, Int.reduceBEq, Int.reduceBNe, ↓reduceIte, h388, h389, h392] <;> rfl
      · simp (config := { maxSteps := 1000000 }) (disch := first | assumption | (simp; done) | omega | (simp; omega)) only [push_cast, reduceCtorEq, Nat.reduceEqDiff, Nat.reduceAdd, Nat.reduceSub, Nat.reduceMul, Nat.reduceLeDiff, Nat.reduceLT, Int.reduceEq, Int.reduceNe, Int.reduceLT, Int.reduceLE, Int.reduceGT, Int.reduceGE, Int.reduceBEq, Int.reduceBNe, ↓reduceIte, h388, h389, h392] <;> rfl
      · simp (config := { maxSteps := 1000000 }) (disch := first | assumption | (simp; done) | omega | (simp; omega)) only [push_cast, reduceCtorEq, Nat.reduceEqDiff, Nat.reduceAdd, Nat.reduceSub, Nat.reduceMul, Nat.reduceLeDiff, Nat.reduceLT, Int.reduceEq, Int.reduceNe, Int.reduceLT, Int.reduceLE, Int.reduceGT, Int.reduceGE, Int.reduceBEq, Int.reduceBNe, ↓reduceIte, h388, h389, h392] <;> rfl
  · try simp (disch := first | assumption | (simp; done) | omega | (simp; omega)) only [push_cast, reduceCtorEq, Nat.reduceEqDiff, Nat.reduceAdd, Nat.reduceSub, Nat.reduceMul, Nat.reduceLeDiff, Nat.reduceLT, Int.reduceEq, Int.reduceNe, Int.reduceLT, Int.reduceLE, Int.reduceGT, Int.reduceGE, Int.reduceBEq, Int.reduceBNe, ↓reduceIte] at h389
    rcases F_if h with ⟨h393, h⟩ | ⟨h393, h⟩
    · try simp (disch := first | assumption | (simp; done) | omega | (simp; omega)) only [push_cast, reduceCtorEq, Nat.reduceEqDiff, Nat.reduceAdd, Nat.reduceSub, Nat.reduceMul, Nat.reduceLeDiff, Nat.reduceLT, Int.reduceEq, Int.reduceNe, Int.reduceLT, Int.reduceLE, Int.reduceGT, Int.reduceGE, Int.reduceBEq, Int.reduceBNe, ↓reduceIte] at h393
      obtain ⟨h394, h⟩ := F_ck h
      try simp (disch := first | assumption | (simp; done) | omega | (simp; omega)) only [push_cast, reduceCtorEq, Nat.reduceEqDiff, Nat.reduceAdd, Nat.reduceSub, Nat.reduceMul, Nat.reduceLeDiff, Nat.reduceLT, Int.reduceEq, Int.reduceNe, Int.reduceLT, Int.reduceLE, Int.reduceGT, Int.reduceGE, Int.reduceBEq, Int.reduceBNe, ↓reduceIte] at h394
      obtain ⟨h395, h⟩ := F_ck h
      try simp (disch := first | assumption | (simp; done) | omega | (simp; omega)) only [push_cast, reduceCtorEq, Nat.reduceEqDiff, Nat.reduceAdd, Nat.reduceSub, Nat.reduceMul, Nat.reduceLeDiff, Nat.reduceLT, Int.reduceEq, Int.reduceNe, Int.reduceLT, Int.reduceLE, Int.reduceGT, Int.reduceGE, Int.reduceBEq, Int.reduceBNe, ↓reduceIte] at h395
      obtain ⟨h396, h⟩ := F_gd h
      try simp (disch := first | assumption | (simp; done) | omega | (simp; omega)) only [push_cast, reduceCtorEq, Nat.reduceEqDiff, Nat.reduceAdd, Nat.reduceSub, Nat.reduceMul, Nat.reduceLeDiff, Nat.reduceLT, Int.reduceEq, Int.reduceNe, Int.reduceLT, Int.reduceLE, Int.reduceGT, Int.reduceGE, Int.reduceBEq, Int.reduceBNe, ↓reduceIte] at h396
      obtain ⟨h397, h⟩ := F_ck h
      try simp (disch := first | assumption | (simp; done) | omega | (simp; omega)) only [push_cast, reduceCtorEq, Nat.reduceEqDiff, Nat.reduceAdd, Nat.reduceSub, Nat.reduceMul, Nat.reduceLeDiff, Nat.reduceLT, Int.reduceEq, Int.reduceNe, Int.reduceLT, Int.reduceLE, Int.reduceGT, Int.reduceGE, Int.reduceBEq, Int.reduceBNe, ↓reduceIte] at h397
      obtain ⟨v3, h398, h⟩ := F_bd h
      simp (config := { maxSteps := 1000000 }) (disch := first | assumption | (simp; done) | omega | (simp; omega)) only [push_cast, reduceCtorEq, Nat.reduceEqDiff, Nat.reduceAdd, Nat.reduceSub, Nat.reduceMul, Nat.reduceLeDiff, Nat.reduceLT, Int.reduceEq, Int.reduceNe, Int.reduceLT, Int.reduceLE, Int.reduceGT, Int.reduceGE, Int.reduceBEq, Int.reduceBNe, ↓reduceIte, h388, h389, h393, h394, h395, h396, h397]
      refine call_flat (by rfl) (c47 N _ _ h398) ?_ rfl ?_
      · simp (config := { maxSteps := 1000000 }) (disch := first | assumption | (simp; done) | omega | (simp; omega)) only [push_cast, reduceCtorEq, Nat.reduceEqDiff, Nat.reduceAdd, Nat.reduceSub, Nat.reduceMul, Nat.reduceLeDiff, Nat.reduceLT, Int.reduceEq, Int.reduceNe, Int.reduceLT, Int.reduceLE, Int.reduceGT, Int.reduceGE, Int.reduceBEq, Int.reduceBNe, ↓reduceIte, h388, h389, h393, h394, h395, h396, h397] <;> rfl
      obtain ⟨v4, h399, h⟩ := F_bd h
      simp (config := { maxSteps := 1000000 }) (disch := first | assumption | (simp; done) | omega | (simp; omega)) only [push_cast, reduceCtorEq, Nat.reduceEqDiff, Nat.reduceAdd, Nat.reduceSub, Nat.reduceMul, Nat.reduceLeDiff, Nat.reduceLT, Int.reduceEq, Int.reduceNe, Int.reduceLT, Int.reduceLE, Int.reduceGT, Int.reduceGE, Int.reduceBEq, Int.reduceBNe, ↓reduceIte, h388, h389, h393, h394, h395, h396, h397]
      refine call_new (by rfl) (c11 N _ _ _ _ h399) ?_ rfl ?_
      · simp (config := { maxSteps := 1000000 }) (disch := first | assumption | (simp; done) | omega | (simp; omega)) only [push_cast, reduceCtorEq, Nat.reduceEqDiff, Nat.reduceAdd, Nat.reduceSub, Nat.reduceMul, Nat.reduceLeDiff, Nat.reduceLT, Int.reduceEq, Int.reduceNe, Int.reduceLT, Int.reduceLE, Int.reduceGT, Int.reduceGE, Int.reduceBEq, Int.reduceBNe, ↓reduceIte, h388, h389, h393, h394, h395, h396, h397] <;> rfl
      rcases F_if h with ⟨h400, h⟩ | ⟨h400, h⟩
      · try simp (disch := first | assumption | (simp; done) | omega | (simp; omega)) only [push_cast, reduceCtorEq, Nat.reduceEqDiff, Nat.reduceAdd, Nat.reduceSub, Nat.reduceMul, Nat.reduceLeDiff, Nat.reduceLT, Int.reduceEq, Int.reduceNe, Int.reduceLT, Int.reduceLE, Int.reduceGT, Int.reduceGE, Int.reduceBEq, Int.reduceBNe, ↓reduceIte] at h400
        obtain rfl := Option.some.inj h
        simp (config := { maxSteps := 1000000 }) (disch := first | assumption | (simp; done) | omega | (simp; omega)) only [push_cast, reduceCtorEq, Nat.reduceEqDiff, Nat.reduceAdd, Nat.reduceSub, Nat.reduceMul, Nat.reduceLeDiff, Nat.reduceLT, Int.reduceEq, Int.reduceNe, Int.reduceLT, Int.reduceLE, Int.reduceGT, Int.reduceGE, Int.reduceBEq, Int.reduceBNe, ↓reduceIte, h388, h389, h393, h394, h395, h396, h397, h400]
        refine AEndW.of [0] (.inr rfl) (by decide) rfl ?_ ?_ ?_
        · simp (config := { maxSteps := 1000000 }) (disch := first | assumption | (simp; done) | omega | (simp; omega)) only [push_cast, reduceCtorEq, Nat.reduceEqDiff, Nat.reduceAdd, Nat.reduceSub, Nat.reduceMul, Nat.reduceLeDiff, Nat.reduceLT, Int.reduceEq, Int.reduceNe, Int.reduceLT, Int.reduceLE, Int.reduceGT, Int.reduceGE, Int.reduceBEq, Int.reduceBNe, ↓reduceIte, h388, h389, h393, h394, h395, h396, h397, h400] <;> rfl
        · simp (config := { maxSteps := 1000000 }) (disch := first | assumption | (simp; done) | omega | (simp; omega)) only [push_cast, reduceCtorEq, Nat.reduceEqDiff, Nat.reduceAdd, Nat.reduceSub, Nat.reduceMul, Nat.reduceLeDiff, Nat.reduceLT, Int.reduceEq, Int.reduceNe, Int.reduceLT, Int.reduceLE, Int.reduceGT, Int.reduceGE, Int.reduceBEq, Int.reduceBNe, ↓reduceIte, h388, h389, h393, h394, h395, h396, h397, h400] <;> rfl
        · simp (config := { maxSteps := 1000000 }) (disch := first | assumption | (simp; done) | omega | (simp; omega)) only [push_cast, reduceCtorEq, Nat.reduceEqDiff, Nat.reduceAdd, Nat.reduceSub, Nat.reduceMul, Nat.reduceLeDiff, Nat.reduceLT, Int.reduceEq, Int.reduceNe, Int.reduceLT, Int.reduceLE, Int.reduceGT, Int.reduceGE, Int.reduceBEq, Int.reduceBNe, ↓reduceIte, h388, h389, h393, h394, h395, h396, h397, h400] <;> rfl
      · try simp (disch := first | assumption | (simp; done) | omega | (simp; omega)) only [push_cast, reduceCtorEq, Nat.reduceEqDiff, Nat.reduceAdd, Nat.reduceSub, Nat.reduceMul, Nat.reduceLeDiff, Nat.reduceLT, Int.reduceEq, Int.reduceNe, Int.reduceLT, Int.reduceLE, Int.reduceGT, Int.reduceGE, Int.reduceBEq, Int.reduceBNe, ↓reduceIte] at h400
        obtain rfl := Option.some.inj h
        simp (config := { maxSteps := 1000000 }) (disch := first | assumption | (simp; done) | omega | (simp; omega)) only [push_cast, reduceCtorEq, Nat.reduceEqDiff, Nat.reduceAdd, Nat.reduceSub, Nat.reduceMul, Nat.reduceLeDiff, Nat.reduceLT, Int.reduceEq, Int.reduceNe, Int.reduceLT, Int.reduceLE, Int.reduceGT, Int.reduceGE, Int.reduceBEq, Int.reduceBNe, ↓reduceIte, h388, h389, h393, h394, h395, h396, h397, h400]
        refine AEndW.of [0] (.inr rfl) (by decide) rfl ?_ ?_ ?_
        · simp (config := { maxSteps := 1000000 }) (disch := first | assumption | (simp; done) | omega | (simp; omega)) only [push_cast, reduceCtorEq, Nat.reduceEqDiff, Nat.reduceAdd, Nat.reduceSub, Nat.reduceMul, Nat.reduceLeDiff, Nat.reduceLT, Int.reduceEq, Int.reduceNe, Int.reduceLT, Int.reduceLE, Int.reduceGT, Int.reduceGE, Int.reduceBEq, Int.reduceBNe, ↓reduceIte, h388, h389, h393, h394, h395, h396, h397, h400] <;> rfl
        · simp (config := { maxSteps := 1000000 }) (disch := first | assumption | (simp; done) | omega | (simp; omega)) only [push_cast, reduceCtorEq, Nat.reduceEqDiff, Nat.reduceAdd, Nat.reduceSub, Nat.reduceMul, Nat.reduceLeDiff, Nat.reduceLT, Int.reduceEq, Int.reduceNe, Int.reduceLT, Int.reduceLE, Int.reduceGT, Int.reduceGE, Int.reduceBEq, Int.reduceBNe, ↓reduceIte, h388, h389, h393, h394, h395, h396, h397, h400] <;> rfl
        · simp (config := { maxSteps := 1000000 }) (disch := first | assumption | (simp; done) | omega | (simp; omega)) only [push_cast, reduceCtorEq, Nat.reduceEqDiff, Nat.reduceAdd, Nat.reduceSub, Nat.reduceMul, Nat.reduceLeDiff, Nat.reduceLT, Int.reduceEq, Int.reduceNe, Int.reduceLT, Int.reduceLE, Int.reduceGT, Int.reduceGE, Int.reduceBEq, Int.reduceBNe, ↓reduceIte, h388, h389, h393, h394, h395, h396, h397, h400] <;> rfl
    · try simp (disch := first | assumption | (simp; done) | omega | (simp; omega)) only [push_cast, reduceCtorEq, Nat.reduceEqDiff, Nat.reduceAdd, Nat.reduceSub, Nat.reduceMul, Nat.reduceLeDiff, Nat.reduceLT, Int.reduceEq, Int.reduceNe, Int.reduceLT, Int.reduceLE, Int.reduceGT, Int.reduceGE, Int.reduceBEq, Int.reduceBNe, ↓reduceIte] at h393
      rcases F_if h with ⟨h401, h⟩ | ⟨h401, h⟩
      · try simp (disch := first | assumption | (simp; done) | omega | (simp; omega)) only [push_cast, reduceCtorEq, Nat.reduceEqDiff, Nat.reduceAdd, Nat.reduceSub, Nat.reduceMul, Nat.reduceLeDiff, Nat.reduceLT, Int.reduceEq, Int.reduceNe, Int.reduceLT, Int.reduceLE, Int.reduceGT, Int.reduceGE, Int.reduceBEq, Int.reduceBNe, ↓reduceIte] at h401
        obtain ⟨h402, h⟩ := F_ck h
        try simp (disch := first | assumption | (simp; done) | omega | (simp; omega)) only [push_cast, reduceCtorEq, Nat.reduceEqDiff, Nat.reduceAdd, Nat.reduceSub, Nat.reduceMul, Nat.reduceLeDiff, Nat.reduceLT, Int.reduceEq, Int.reduceNe, Int.reduceLT, Int.reduceLE, Int.reduceGT, Int.reduceGE, Int.reduceBEq, Int.reduceBNe, ↓reduceIte] at h402
        obtain ⟨h403, h⟩ := F_ck h
        try simp (disch := first | assumption | (simp; done) | omega | (simp; omega)) only [push_cast, reduceCtorEq, Nat.reduceEqDiff, Nat.reduceAdd, Nat.reduceSub, Nat.reduceMul, Nat.reduceLeDiff, Nat.reduceLT, Int.reduceEq, Int.reduceNe, Int.reduceLT, Int.reduceLE, Int.reduceGT, Int.reduceGE, Int.reduceBEq, Int.reduceBNe, ↓reduceIte] at h403
        obtain ⟨v5, h404, h⟩ := F_bd h
        simp (config := { maxSteps := 1000000 }) (disch := first | assumption | (simp; done) | omega | (simp; omega)) only [push_cast, reduceCtorEq, Nat.reduceEqDiff, Nat.reduceAdd, Nat.reduceSub, Nat.reduceMul, Nat.reduceLeDiff, Nat.reduceLT, Int.reduceEq, Int.reduceNe, Int.reduceLT, Int.reduceLE, Int.reduceGT, Int.reduceGE, Int.reduceBEq, Int.reduceBNe, ↓reduceIte, h388, h389, h393, h401, h402, h403]
        refine call_new (by rfl) (c12 N _ _ _ h404) ?_ rfl ?_
        · simp (config := { maxSteps := 1000000 }) (disch := first | assumption | (simp; done) | omega | (simp; omega)) only [push_cast, reduceCtorEq, Nat.reduceEqDiff, Nat.reduceAdd, Nat.reduceSub, Nat.reduceMul, Nat.reduceLeDiff, Nat.reduceLT, Int.reduceEq, Int.reduceNe, Int.reduceLT, Int.reduceLE, Int.reduceGT, Int.reduceGE, Int.reduceBEq, Int.reduceBNe, ↓reduceIte, h388, h389, h393, h401, h402, h403] <;> rfl
        obtain ⟨h405, h⟩ := F_gd h
        try simp (disch := first | assumption | (simp; done) | omega | (simp; omega)) only [push_cast, reduceCtorEq, Nat.reduceEqDiff, Nat.reduceAdd, Nat.reduceSub, Nat.reduceMul, Nat.reduceLeDiff, Nat.reduceLT, Int.reduceEq, Int.reduceNe, Int.reduceLT, Int.reduceLE, Int.reduceGT, Int.reduceGE, Int.reduceBEq, Int.reduceBNe, ↓reduceIte] at h405
        obtain ⟨h406, h⟩ := F_gd h
        try simp (disch := first | assumption | (simp; done) | omega | (simp; omega)) only [push_cast, reduceCtorEq, Nat.reduceEqDiff, Nat.reduceAdd, Nat.reduceSub, Nat.reduceMul, Nat.reduceLeDiff, Nat.reduceLT, Int.reduceEq, Int.reduceNe, Int.reduceLT, Int.reduceLE, Int.reduceGT, Int.reduceGE, Int.reduceBEq, Int.reduceBNe, ↓reduceIte] at h406
        rcases F_if h with ⟨h407, h⟩ | ⟨h407, h⟩
        · try simp (disch := first | assumption | (simp; done) | omega | (simp; omega)) only [push_cast, reduceCtorEq, Nat.reduceEqDiff, Nat.reduceAdd, Nat.reduceSub, Nat.reduceMul, Nat.reduceLeDiff, Nat.reduceLT, Int.reduceEq, Int.reduceNe, Int.reduceLT, Int.reduceLE, Int.reduceGT, Int.reduceGE, Int.reduceBEq, Int.reduceBNe, ↓reduceIte] at h407
          obtain rfl := Option.some.inj h
          simp (config := { maxSteps := 1000000 }) (disch := first | assumption | (simp; done) | omega | (simp; omega)) only [push_cast, reduceCtorEq, Nat.reduceEqDiff, Nat.reduceAdd, Nat.reduceSub, Nat.reduceMul, Nat.reduceLeDiff, Nat.reduceLT, Int.reduceEq, Int.reduceNe, Int.reduceLT, Int.reduceLE, Int.reduceGT, Int.reduceGE, Int.reduceBEq, Int.reduceBNe, ↓reduceIte, h388, h389, h393, h401, h402, h403, h405, h406, h407]
          refine AEndW.of [0] (.inr rfl) (by decide) rfl ?_ ?_ ?_
          · simp (config := { maxSteps := 1000000 }) (disch := first | assumption | (simp; done) | omega | (simp; omega)) only [push_cast, reduceCtorEq, Nat.reduceEqDiff, Nat.reduceAdd, Nat.reduceSub, Nat.reduceMul, Nat.reduceLeDiff, Nat.reduceLT, Int.reduceEq, Int.reduceNe, Int.reduceLT, Int.reduceLE, Int.reduceGT, Int.reduceGE, Int.reduceBEq, Int.reduceBNe, ↓reduceIte, h388, h389, h393, h401, h402, h403, h405, h406, h407] <;> rfl
          · simp (config := { maxSteps := 1000000 }) (disch := first | assumption | (simp; done) | omega | (simp; omega)) only [push_cast, reduceCtorEq, Nat.reduceEqDiff, Nat.reduceAdd, Nat.reduceSub, Nat.reduceMul, Nat.reduceLeDiff, Nat.reduceLT, Int.reduceEq, Int.reduceNe, Int.reduceLT, Int.reduceLE, Int.reduceGT, Int.reduceGE, Int.reduceBEq, Int.reduceBNe, ↓reduceIte, h388, h389, h393, h401, h402, h403, h405, h406, h407] <;> rfl
          · simp (config := { maxSteps := 1000000 }) (disch := first | assumption | (simp; done) | omega | (simp; omega)) only [push_cast, reduceCtorEq, Nat.reduceEqDiff, Nat.reduceAdd, Nat.reduceSub, Nat.reduceMul, Nat.reduceLeDiff, Nat.reduceLT, Int.reduceEq, Int.reduceNe, Int.reduceLT, Int.reduceLE, Int.reduceGT, Int.reduceGE, Int.reduceBEq, Int.reduceBNe, ↓reduceIte, h388, h389, h393, h401, h402, h403, h405, h406, h407] <;> rfl
        · try simp (disch := first | assumption | (simp; done) | omega | (simp; omega)) only [push_cast, reduceCtorEq, Nat.reduceEqDiff, Nat.reduceAdd, Nat.reduceSub, Nat.reduceMul, Nat.reduceLeDiff, Nat.reduceLT, Int.reduceEq, Int.reduceNe, Int.reduceLT, Int.reduceLE, Int.reduceGT, Int.reduceGE, Int.reduceBEq, Int.reduceBNe, ↓reduceIte] at h407
          obtain rfl := Option.some.inj h
          simp (config := { maxSteps := 1000000 }) (disch := first | assumption | (simp; done) | omega | (simp; omega)) only [push_cast, reduceCtorEq, Nat.reduceEqDiff, Nat.reduceAdd, Nat.reduceSub, Nat.reduceMul, Nat.reduceLeDiff, Nat.reduceLT, Int.reduceEq, Int.reduceNe, Int.reduceLT, Int.reduceLE, Int.reduceGT, Int.reduceGE, Int.reduceBEq, Int.reduceBNe, ↓reduceIte, h388, h389, h393, h401, h402, h403, h405, h406, h407]
          refine AEndW.of [0] (.inr rfl) (by decide) rfl ?_ ?_ ?_
          · simp (config := { maxSteps := 1000000 }) (disch := first | assumption | (simp; done) | omega | (simp; omega)) only [push_cast, reduceCtorEq, Nat.reduceEqDiff, Nat.reduceAdd, Nat.reduceSub, Nat.reduceMul, Nat.reduceLeDiff, Nat.reduceLT, Int.reduceEq, Int.reduceNe, Int.reduceLT, Int.reduceLE, Int.reduceGT, Int.reduceGE, Int.reduceBEq, Int.reduceBNe, ↓reduceIte, h388, h389, h393, h401, h402, h403, h405, h406, h407] <;> rfl
          · simp (config := { maxSteps := 1000000 }) (disch := first | assumption | (simp; done) | omega | (simp; omega)) only [push_cast, reduceCtorEq, Nat.reduceEqDiff, Nat.reduceAdd, Nat.reduceSub, Nat.reduceMul, Nat.reduceLeDiff, Nat.reduceLT, Int.reduceEq, Int.reduceNe, Int.reduceLT, Int.reduceLE, Int.reduceGT, Int.reduceGE, Int.reduceBEq, Int.reduceBNe, ↓reduceIte, h388, h389, h393, h401, h402, h403, h405, h406, h407] <;> rfl
          · simp (config := { maxSteps := 1000000 }) (disch := first | assumption | (simp; done) | omega | (simp; omega)) only [push_cast, reduceCtorEq, Nat.reduceEqDiff, Nat.reduceAdd, Nat.reduceSub, Nat.reduceMul, Nat.reduceLeDiff, Nat.reduceLT, Int.reduceEq, Int.reduceNe, Int.reduceLT, Int.reduceLE, Int.reduceGT, Int.reduceGE, Int.reduceBEq, Int.reduceBNe, ↓reduceIte, h388, h389, h393, h401, h402, h403, h405, h406, h407] <;> rfl
      · try simp (disch := first | assumption | (simp; done) | omega | (simp; omega)) only [push_cast, reduceCtorEq, Nat.reduceEqDiff, Nat.reduceAdd, Nat.reduceSub, Nat.reduceMul, Nat.reduceLeDiff, Nat.reduceLT, Int.reduceEq, Int.reduceNe, Int.reduceLT, Int.reduceLE, Int.reduceGT, Int.reduceGE, Int.reduceBEq, Int.reduceBNe, ↓reduceIte] at h401
        rcases F_if h with ⟨h408, h⟩ | ⟨h408, h⟩
        · try simp (disch := first | assumption | (simp; done) | omega | (simp; omega)) only [push_cast, reduceCtorEq, Nat.reduceEqDiff, Nat.reduceAdd, Nat.reduceSub, Nat.reduceMul, Nat.reduceLeDiff, Nat.reduceLT, Int.reduceEq, Int.reduceNe, Int.reduceLT, Int.reduceLE, Int.reduceGT, Int.reduceGE, Int.reduceBEq, Int.reduceBNe, ↓reduceIte] at h408
          rcases F_if h with ⟨h409, h⟩ | ⟨h409, h⟩
          · try simp (disch := first | assumption | (simp; done) | omega | (simp; omega)) only [push_cast, reduceCtorEq, Nat.reduceEqDiff, Nat.reduceAdd, Nat.reduceSub, Nat.reduceMul, Nat.reduceLeDiff, Nat.reduceLT, Int.reduceEq, Int.reduceNe, Int.reduceLT, Int.reduceLE, Int.reduceGT, Int.reduceGE, Int.reduceBEq, Int.reduceBNe, ↓reduceIte] at h409
            obtain ⟨h410, h⟩ := F_ck h
            try simp (disch := first | assumption | (simp; done) | omega | (simp; omega)) only [push_cast, reduceCtorEq, Nat.reduceEqDiff, Nat.reduceAdd, Nat.reduceSub, Nat.reduceMul, Nat.reduceLeDiff, Nat.reduceLT, Int.reduceEq, Int.reduceNe, Int.reduceLT, Int.reduceLE, Int.reduceGT, Int.reduceGE, Int.reduceBEq, Int.reduceBNe, ↓reduceIte] at h410
            obtain ⟨h411, h⟩ := F_gd h
            try simp (disch := first | assumption | (simp; done) | omega | (simp; omega)) only [push_cast, reduceCtorEq, Nat.reduceEqDiff, Nat.reduceAdd, Nat.reduceSub, Nat.reduceMul, Nat.reduceLeDiff, Nat.reduceLT, Int.reduceEq, Int.reduceNe, Int.reduceLT, Int.reduceLE, Int.reduceGT, Int.reduceGE, Int.reduceBEq, Int.reduceBNe, ↓reduceIte] at h411
            obtain ⟨x6, h412, h413, h⟩ := F_get h
            have h415 := get_lt h412 h413
            have h414 := map_get Frame.row h413
            try simp (disch := first | assumption | (simp; done) | omega | (simp; omega)) only [push_cast, reduceCtorEq, Nat.reduceEqDiff, Nat.reduceAdd, Nat.reduceSub, Nat.reduceMul, Nat.reduceLeDiff, Nat.reduceLT, Int.reduceEq, Int.reduceNe, Int.reduceLT, Int.reduceLE, Int.reduceGT, Int.reduceGE, Int.reduceBEq, Int.reduceBNe, ↓reduceIte] at h414
            try simp (disch := first | assumption | (simp; done) | omega | (simp; omega)) only [push_cast, reduceCtorEq, Nat.reduceEqDiff, Nat.reduceAdd, Nat.reduceSub, Nat.reduceMul, Nat.reduceLeDiff, Nat.reduceLT, Int.reduceEq, Int.reduceNe, Int.reduceLT, Int.reduceLE, Int.reduceGT, Int.reduceGE, Int.reduceBEq, Int.reduceBNe, ↓reduceIte] at h415
            obtain ⟨v7, h416, h⟩ := F_bd h
            simp (config := { maxSteps := 1000000 }) (disch := first | assumption | (simp; done) | omega | (simp; omega)) only [push_cast, reduceCtorEq, Nat.reduceEqDiff, Nat.reduceAdd, Nat.reduceSub, Nat.reduceMul, Nat.reduceLeDiff, Nat.reduceLT, Int.reduceEq, Int.reduceNe, Int.reduceLT, Int.reduceLE, Int.reduceGT, Int.reduceGE, Int.reduceBEq, Int.reduceBNe, ↓reduceIte, h388, h389, h393, h401, h408, h409, h410, h411, h412, h414, h415]
            refine call_new (by rfl) (c23 N _ _ _ h416) ?_ rfl ?_
            · simp (config := { maxSteps := 1000000 }) (disch := first | assumption | (simp; done) | omega | (simp; omega)) only [push_cast, reduceCtorEq, Nat.reduceEqDiff, Nat.reduceAdd, Nat.reduceSub, Nat.reduceMul, Nat.reduceLeDiff, Nat.reduceLT, Int.reduceEq, Int.reduceNe, Int.reduceLT, Int.reduceLE, Int.reduceGT, Int.reduceGE, Int.reduceBEq, Int.reduceBNe, ↓reduceIte, h388, h389, h393, h401, h408, h409, h410, h411, h412, h414, h415] <;> rfl
            obtain ⟨h417, h⟩ := F_gd h
            try simp (disch := first | assumption | (simp; done) | omega | (simp; omega)) only [push_cast, reduceCtorEq, Nat.reduceEqDiff, Nat.reduceAdd, Nat.reduceSub, Nat.reduceMul, Nat.reduceLeDiff, Nat.reduceLT, Int.reduceEq, Int.reduceNe, Int.reduceLT, Int.reduceLE, Int.reduceGT, Int.reduceGE, Int.reduceBEq, Int.reduceBNe, ↓reduceIte] at h417
            obtain ⟨h418, h⟩ := F_gd h
            try simp (disch := first | assumption | (simp; done) | omega | (simp; omega)) only [push_cast, reduceCtorEq, Nat.reduceEqDiff, Nat.reduceAdd, Nat.reduceSub, Nat.reduceMul, Nat.reduceLeDiff, Nat.reduceLT, Int.reduceEq, Int.reduceNe, Int.reduceLT, Int.reduceLE, Int.reduceGT, Int.reduceGE, Int.reduceBEq, Int.reduceBNe, ↓reduceIte] at h418
            obtain ⟨h419, h⟩ := F_gd h
            try simp (disch := first | assumption | (simp; done) | omega | (simp; omega)) only [push_cast, reduceCtorEq, Nat.reduceEqDiff, Nat.reduceAdd, Nat.reduceSub, Nat.reduceMul, Nat.reduceLeDiff, Nat.reduceLT, Int.reduceEq, Int.reduceNe, Int.reduceLT, Int.reduceLE, Int.reduceGT, Int.reduceGE, Int.reduceBEq, Int.reduceBNe, ↓reduceIte] at h419
            obtain ⟨h420, h⟩ := F_gd h
            try simp (disch := first | assumption | (simp; done) | omega | (simp; omega)) only [push_cast, reduceCtorEq, Nat.reduceEqDiff, Nat.reduceAdd, Nat.reduceSub, Nat.reduceMul, Nat.reduceLeDiff, Nat.reduceLT, Int.reduceEq, Int.reduceNe, Int.reduceLT, Int.reduceLE, Int.reduceGT, Int.reduceGE, Int.reduceBEq, Int.reduceBNe, ↓reduceIte] at h420
            rcases F_if h with ⟨h421, h⟩ | ⟨h421, h⟩
            · try simp (disch := first | assumption | (simp; done) | omega | (simp; omega)) only [push_cast, reduceCtorEq, Nat.reduceEqDiff, Nat.reduceAdd, Nat.reduceSub, Nat.reduceMul, Nat.reduceLeDiff, Nat.reduceLT, Int.reduceEq, Int.reduceNe, Int.reduceLT, Int.reduceLE, Int.reduceGT, Int.reduceGE, Int.reduceBEq, Int.reduceBNe, ↓reduceIte] at h421
              obtain rfl := Option.some.inj h
              simp (config := { maxSteps := 1000000 }) (disch := first | assumption | (simp; done) | omega | (simp; omega)) only [push_cast, reduceCtorEq, Nat.reduceEqDiff, Nat.reduceAdd, Nat.reduceSub, Nat.reduceMul, Nat.reduceLeDiff, Nat.reduceLT, Int.reduceEq, Int.reduceNe, Int.reduceLT, Int.reduceLE, Int.reduceGT, Int.reduceGE, Int.reduceBEq, Int.reduceBNe, ↓reduceIte, h388, h389, h393, h401, h408, h409, h410, h411, h412, h414, h415, h417, h418, h419, h420, h421]
              refine AEndW.of [7] (.inr rfl) (by decide) rfl ?_ ?_ ?_
              · simp (config := { maxSteps := 1000000 }) (disch := first | assumption | (simp; done) | omega | (simp; omega)) only [push_cast, reduceCtorEq, Nat.reduceEqDiff, Nat.reduceAdd, Nat.reduceSub, Nat.reduceMul, Nat.reduceLeDiff, Nat.reduceLT, Int.reduceEq, Int.reduceNe, Int.reduceLT, Int.reduceLE, Int.reduceGT, Int.reduceGE, Int.reduceBEq, Int.reduceBNe, ↓reduceIte, h388, h389, h393, h401, h408, h409, h410, h411, h412, h414, h415, h417, h418, h419, h420, h421] <;> rfl
              · simp (config := { maxSteps := 1000000 }) (disch := first | assumption | (simp; done) | omega | (simp; omega)) only [push_cast, reduceCtorEq, Nat.reduceEqDiff, Nat.reduceAdd, Nat.reduceSub, Nat.reduceMul, Nat.reduceLeDiff, Nat.reduceLT, Int.reduceEq, Int.reduceNe, Int.reduceLT, Int.reduceLE, Int.reduceGT, Int.reduceGE, Int.reduceBEq, Int.reduceBNe, ↓reduceIte, h388, h389, h393, h401, h408, h409, h410, h411, h412, h414, h415, h417, h418, h419, h420, h421] <;> rfl
              · simp (config := { maxSteps := 1000000 }) (disch := first | assumption | (simp; done) | omega | (simp; omega)) only [push_cast, reduceCtorEq, Nat.reduceEqDiff, Nat.reduceAdd, Nat.reduceSub, Nat.reduceMul, Nat.reduceLeDiff, Nat.reduceLT, Int.reduceEq, Int.reduceNe, Int.reduceLT, Int.reduceLE, Int.reduceGT, Int.reduceGE, Int.reduceBEq, Int.reduceBNe, ↓reduceIte, h388, h389, h393, h401, h408, h409, h410, h411, h412, h414, h415, h417, h418, h419, h420, h421] <;> rfl
            · try simp (disch := first | assumption | (simp; done) | omega | (simp; omega)) only [push_cast, reduceCtorEq, Nat.reduceEqDiff, Nat.reduceAdd, Nat.reduceSub, Nat.reduceMul, Nat.reduceLeDiff, Nat.reduceLT, Int.reduceEq, Int.reduceNe, Int.reduceLT, Int.reduceLE, Int.reduceGT, Int.reduceGE, Int.reduceBEq, Int.reduceBNe, ↓reduceIte] at h421
              obtain rfl := Option.some.inj h
              simp (config := { maxSteps := 1000000 }) (disch := first | assumption | (simp; done) | omega | (simp; omega)) only [push_cast, reduceCtorEq, Nat.reduceEqDiff, Nat.reduceAdd, Nat.reduceSub, Nat.reduceMul, Nat.reduceLeDiff, Nat.reduceLT, Int.reduceEq, Int.reduceNe, Int.reduceLT, Int.reduceLE, Int.reduceGT, Int.reduceGE, Int.reduceBEq, Int.reduceBNe, ↓reduceIte, h388, h389, h393, h401, h408, h409, h410, h411, h412, h414, h415, h417, h418, h419, h420, h421]
              refine AEndW.of [7] (.inr rfl) (by decide) rfl ?_ ?_ ?_
              · simp (config := { maxSteps := 1000000 }) (disch := first | assumption | (simp; done) | omega | (simp; omega)) only [push_cast, reduceCtorEq, Nat.reduceEqDiff, Nat.reduceAdd, Nat.reduceSub, Nat.reduceMul, Nat.reduceLeDiff, Nat.reduceLT, Int.reduceEq, Int.reduceNe, Int.reduceLT, Int.reduceLE, Int.reduceGT, Int.reduceGE, Int.reduceBEq, Int.reduceBNe, ↓reduceIte, h388, h389, h393, h401, h408, h409, h410, h411, h412, h414, h415, h417, h418, h419, h420, h421] <;> rfl
              · simp (config := { maxSteps := 1000000 }) (disch := first | assumption | (simp; done) | omega | (simp; omega)) only [push_cast, reduceCtorEq, Nat.reduceEqDiff, Nat.reduceAdd, Nat.reduceSub, Nat.reduceMul, Nat.reduceLeDiff, Nat.reduceLT, Int.reduceEq, Int.reduceNe, Int.reduceLT, Int.reduceLE, Int.reduceGT, Int.reduceGE, Int.reduceBEq, Int.reduceBNe, ↓reduceIte, h388, h389, h393, h401, h408, h409, h410, h411, h412, h414, h415, h417, h418, h419, h420, h421] <;> rfl
              · simp (config := { maxSteps := 1000000 }) (disch := first | assumption | (simp; done) | omega | (simp; omega)) only [push_cast, reduceCtorEq, Nat.reduceEqDiff, Nat.reduceAdd, Nat.reduceSub, Nat.reduceMul, Nat.reduceLeDiff, Nat.reduceLT, Int.reduceEq, Int.reduceNe, Int.reduceLT, Int.reduceLE, Int.reduceGT, Int.reduceGE, Int.reduceBEq, Int.reduceBNe, ↓reduceIte, h388, h389, h393, h401, h408, h409, h410, h411, h412, h414, h415, h417, h418, h419, h420, h421] <;> rfl
          · try simp (disch := first | assumption | (simp; done) | omega | (simp; omega)) only [push_cast, reduceCtorEq, Nat.reduceEqDiff, Nat.reduceAdd, Nat.reduceSub, Nat.reduceMul, Nat.reduceLeDiff, Nat.reduceLT, Int.reduceEq, Int.reduceNe, Int.reduceLT, Int.reduceLE, Int.reduceGT, Int.reduceGE, Int.reduceBEq, Int.reduceBNe, ↓reduceIte] at h409
            obtain rfl := Option.some.inj h
            simp (config := { maxSteps := 1000000 }) (disch := first | assumption | (simp; done) | omega | (simp; omega)) only [push_cast, reduceCtorEq, Nat.reduceEqDiff, Nat.reduceAdd, Nat.reduceSub, Nat.reduceMul, Nat.reduceLeDiff, Nat.reduceLT, Int.reduceEq, Int.reduceNe, Int.reduceLT, Int.reduceLE, Int.reduceGT, Int.reduceGE, Int.reduceBEq, Int.reduceBNe, ↓reduceIte, h388, h389, h393, h401, h408, h409]
            refine AEndW.of [0] (.inr rfl) (by decide) rfl ?_ ?_ ?_
            · simp (config := { maxSteps := 1000000 }) (disch := first | assumption | (simp; done) | omega | (simp; omega)) only [push_cast, reduceCtorEq, Nat.reduceEqDiff, Nat.reduceAdd, Nat.reduceSub, Nat.reduceMul, Nat.reduceLeDiff, Nat.reduceLT, Int.reduceEq, Int.reduceNe, Int.reduceLT, Int.reduceLE, Int.reduceGT, Int.reduceGE, Int.reduceBEq, Int.reduceBNe, ↓reduceIte, h388, h389, h393, h401, h408, h409] <;> rfl
            · simp (config := { maxSteps := 1000000 }) (disch := first | assumption | (simp; done) | omega | (simp; omega)) only [push_cast, reduceCtorEq, Nat.reduceEqDiff, Nat.reduceAdd, Nat.reduceSub, Nat.reduceMul, Nat.reduceLeDiff, Nat.reduceLT, Int.reduceEq, Int.reduceNe, Int.reduceLT, Int.reduceLE, Int.reduceGT, Int.reduceGE, Int.reduceBEq, Int.reduceBNe, ↓reduceIte, h388, h389, h393, h401, h408, h409] <;> rfl
            · simp (config := { maxSteps := 1000000 }) (disch := first | assumption | (simp; done) | omega | (simp; omega)) only [push_cast, reduceCtorEq, Nat.reduceEqDiff, Nat.reduceAdd, Nat.reduceSub, Nat.reduceMul, Nat.reduceLeDiff, Nat.reduceLT, Int.reduceEq, Int.reduceNe, Int.reduceLT, Int.reduceLE, Int.reduceGT, Int.reduceGE, Int.reduceBEq, Int.reduceBNe, ↓reduceIte, h388, h389, h393, h401, h408, h409] <;> rfl
        · try simp (disch := first | assumption | (simp; done) | omega | (simp; omega)) only [push_cast, reduceCtorEq, Nat.reduceEqDiff, Nat.reduceAdd, Nat.reduceSub, Nat.reduceMul, Nat.reduceLeDiff, Nat.reduceLT, Int.reduceEq, Int.reduceNe, Int.reduceLT, Int.reduceLE, Int.reduceGT, Int.reduceGE, Int.reduceBEq, Int.reduceBNe, ↓reduceIte] at h408
          rcases F_if h with ⟨h422, h⟩ | ⟨h422, h⟩
          · try simp (disch := first | assumption | (simp; done) | omega | (simp; omega)) only [push_cast, reduceCtorEq, Nat.reduceEqDiff, Nat.reduceAdd, Nat.reduceSub, Nat.reduceMul, Nat.reduceLeDiff, Nat.reduceLT, Int.reduceEq, Int.reduceNe, Int.reduceLT, Int.reduceLE, Int.reduceGT, Int.reduceGE, Int.reduceBEq, Int.reduceBNe, ↓reduceIte] at h422
            rcases F_if h with ⟨h423, h⟩ | ⟨h423, h⟩
            · try simp (disch := first | assumption | (simp; done) | omega | (simp; omega)) only [push_cast, reduceCtorEq, Nat.reduceEqDiff, Nat.reduceAdd, Nat.reduceSub, Nat.reduceMul, Nat.reduceLeDiff, Nat.reduceLT, Int.reduceEq, Int.reduceNe, Int.reduceLT, Int.reduceLE, Int.reduceGT, Int.reduceGE, Int.reduceBEq, Int.reduceBNe, ↓reduceIte] at h423
              obtain ⟨h424, h⟩ := F_ck h
              try simp (disch := first | assumption | (simp; done) | omega | (simp; omega)) only [push_cast, reduceCtorEq, Nat.reduceEqDiff, Nat.reduceAdd, Nat.reduceSub, Nat.reduceMul, Nat.reduceLeDiff, Nat.reduceLT, Int.reduceEq, Int.reduceNe, Int.reduceLT, Int.reduceLE, Int.reduceGT, Int.reduceGE, Int.reduceBEq, Int.reduceBNe, ↓reduceIte] at h424
              obtain ⟨h425, h⟩ := F_gd h
              try simp (disch := first | assumption | (simp; done) | omega | (simp; omega)) only [push_cast, reduceCtorEq, Nat.reduceEqDiff, Nat.reduceAdd, Nat.reduceSub, Nat.reduceMul, Nat.reduceLeDiff, Nat.reduceLT, Int.reduceEq, Int.reduceNe, Int.reduceLT, Int.reduceLE, Int.reduceGT, Int.reduceGE, Int.reduceBEq, Int.reduceBNe, ↓reduceIte] at h425
              obtain ⟨x8, h426, h427, h⟩ := F_get h
              have h429 := get_lt h426 h427
              have h428 := map_get (rI .i64) h427
              try simp (disch := first | assumption | (simp; done) | omega | (simp; omega)) only [push_cast, reduceCtorEq, Nat.reduceEqDiff, Nat.reduceAdd, Nat.reduceSub, Nat.reduceMul, Nat.reduceLeDiff, Nat.reduceLT, Int.reduceEq, Int.reduceNe, Int.reduceLT, Int.reduceLE, Int.reduceGT, Int.reduceGE, Int.reduceBEq, Int.reduceBNe, ↓reduceIte] at h428
              try simp (disch := first | assumption | (simp; done) | omega | (simp; omega)) only [push_cast, reduceCtorEq, Nat.reduceEqDiff, Nat.reduceAdd, Nat.reduceSub, Nat.reduceMul, Nat.reduceLeDiff, Nat.reduceLT, Int.reduceEq, Int.reduceNe, Int.reduceLT, Int.reduceLE, Int.reduceGT, Int.reduceGE, Int.reduceBEq, Int.reduceBNe, ↓reduceIte] at h429
              obtain ⟨v9, h430, h⟩ := F_bd h
              simp (config := { maxSteps := 1000000 }) (disch := first | assumption | (simp; done) | omega | (simp; omega)) only [push_cast, reduceCtorEq, Nat.reduceEqDiff, Nat.reduceAdd, Nat.reduceSub, Nat.reduceMul, Nat.reduceLeDiff, Nat.reduceLT, Int.reduceEq, Int.reduceNe, Int.reduceLT, Int.reduceLE, Int.reduceGT, Int.reduceGE, Int.reduceBEq, Int.reduceBNe, ↓reduceIte, h388, h389, h393, h401, h408, h422, h423, h424, h425, h426, h428, h429]
              refine call_new (by rfl) (c13 N _ _ _ h430) ?_ rfl ?_
              · simp (config := { maxSteps := 1000000 }) (disch := first | assumption | (simp; done) | omega | (simp; omega)) only [push_cast, reduceCtorEq, Nat.reduceEqDiff, Nat.reduceAdd, Nat.reduceSub, Nat.reduceMul, Nat.reduceLeDiff, Nat.reduceLT, Int.reduceEq, Int.reduceNe, Int.reduceLT, Int.reduceLE, Int.reduceGT, Int.reduceGE, Int.reduceBEq, Int.reduceBNe, ↓reduceIte, h388, h389, h393, h401, h408, h422, h423, h424, h425, h426, h428, h429] <;> rfl
              rcases F_if h with ⟨h431, h⟩ | ⟨h431, h⟩
              · try simp (disch := first | assumption | (simp; done) | omega | (simp; omega)) only [push_cast, reduceCtorEq, Nat.reduceEqDiff, Nat.reduceAdd, Nat.reduceSub, Nat.reduceMul, Nat.reduceLeDiff, Nat.reduceLT, Int.reduceEq, Int.reduceNe, Int.reduceLT, Int.reduceLE, Int.reduceGT, Int.reduceGE, Int.reduceBEq, Int.reduceBNe, ↓reduceIte] at h431
                obtain rfl := Option.some.inj h
                simp (config := { maxSteps := 1000000 }) (disch := first | assumption | (simp; done) | omega | (simp; omega)) only [push_cast, reduceCtorEq, Nat.reduceEqDiff, Nat.reduceAdd, Nat.reduceSub, Nat.reduceMul, Nat.reduceLeDiff, Nat.reduceLT, Int.reduceEq, Int.reduceNe, Int.reduceLT, Int.reduceLE, Int.reduceGT, Int.reduceGE, Int.reduceBEq, Int.reduceBNe, ↓reduceIte, h388, h389, h393, h401, h408, h422, h423, h424, h425, h426, h428, h429, h431]
                refine AEndW.of [0] (.inr rfl) (by decide) rfl ?_ ?_ ?_
                · simp (config := { maxSteps := 1000000 }) (disch := first | assumption | (simp; done) | omega | (simp; omega)) only [push_cast, reduceCtorEq, Nat.reduceEqDiff, Nat.reduceAdd, Nat.reduceSub, Nat.reduceMul, Nat.reduceLeDiff, Nat.reduceLT, Int.reduceEq, Int.reduceNe, Int.reduceLT, Int.reduceLE, Int.reduceGT, Int.reduceGE, Int.reduceBEq, Int.reduceBNe, ↓reduceIte, h388, h389, h393, h401, h408, h422, h423, h424, h425, h426, h428, h429, h431] <;> rfl
                · simp (config := { maxSteps := 1000000 }) (disch := first | assumption | (simp; done) | omega | (simp; omega)) only [push_cast, reduceCtorEq, Nat.reduceEqDiff, Nat.reduceAdd, Nat.reduceSub, Nat.reduceMul, Nat.reduceLeDiff, Nat.reduceLT, Int.reduceEq, Int.reduceNe, Int.reduceLT, Int.reduceLE, Int.reduceGT, Int.reduceGE, Int.reduceBEq, Int.reduceBNe, ↓reduceIte, h388, h389, h393, h401, h408, h422, h423, h424, h425, h426, h428, h429, h431] <;> rfl
                · simp (config := { maxSteps := 1000000 }) (disch := first | assumption | (simp; done) | omega | (simp; omega)) only [push_cast, reduceCtorEq, Nat.reduceEqDiff, Nat.reduceAdd, Nat.reduceSub, Nat.reduceMul, Nat.reduceLeDiff, Nat.reduceLT, Int.reduceEq, Int.reduceNe, Int.reduceLT, Int.reduceLE, Int.reduceGT, Int.reduceGE, Int.reduceBEq, Int.reduceBNe, ↓reduceIte, h388, h389, h393, h401, h408, h422, h423, h424, h425, h426, h428, h429, h431] <;> rfl
              · try simp (disch := first | assumption | (simp; done) | omega | (simp; omega)) only [push_cast, reduceCtorEq, Nat.reduceEqDiff, Nat.reduceAdd, Nat.reduceSub, Nat.reduceMul, Nat.reduceLeDiff, Nat.reduceLT, Int.reduceEq, Int.reduceNe, Int.reduceLT, Int.reduceLE, Int.reduceGT, Int.reduceGE, Int.reduceBEq, Int.reduceBNe, ↓reduceIte] at h431
                obtain rfl := Option.some.inj h
                simp (config := { maxSteps := 1000000 }) (disch := first | assumption | (simp; done) | omega | (simp; omega)) only [push_cast, reduceCtorEq, Nat.reduceEqDiff, Nat.reduceAdd, Nat.reduceSub, Nat.reduceMul, Nat.reduceLeDiff, Nat.reduceLT, Int.reduceEq, Int.reduceNe, Int.reduceLT, Int.reduceLE, Int.reduceGT, Int.reduceGE, Int.reduceBEq, Int.reduceBNe, ↓reduceIte, h388, h389, h393, h401, h408, h422, h423, h424, h425, h426, h428, h429, h431]
                refine AEndW.of [0] (.inr rfl) (by decide) rfl ?_ ?_ ?_
                · simp (config := { maxSteps := 1000000 }) (disch := first | assumption | (simp; done) | omega | (simp; omega)) only [push_cast, reduceCtorEq, Nat.reduceEqDiff, Nat.reduceAdd, Nat.reduceSub, Nat.reduceMul, Nat.reduceLeDiff, Nat.reduceLT, Int.reduceEq, Int.reduceNe, Int.reduceLT, Int.reduceLE, Int.reduceGT, Int.reduceGE, Int.reduceBEq, Int.reduceBNe, ↓reduceIte, h388, h389, h393, h401, h408, h422, h423, h424, h425, h426, h428, h429, h431] <;> rfl
                · simp (config := { maxSteps := 1000000 }) (disch := first | assumption | (simp; done) | omega | (simp; omega)) only [push_cast, reduceCtorEq, Nat.reduceEqDiff, Nat.reduceAdd, Nat.reduceSub, Nat.reduceMul, Nat.reduceLeDiff, Nat.reduceLT, Int.reduceEq, Int.reduceNe, Int.reduceLT, Int.reduceLE, Int.reduceGT, Int.reduceGE, Int.reduceBEq, Int.reduceBNe, ↓reduceIte, h388, h389, h393, h401, h408, h422, h423, h424, h425, h426, h428, h429, h431] <;> rfl
                · simp (config := { maxSteps := 1000000 }) (disch := first | assumption | (simp; done) | omega | (simp; omega)) only [push_cast, reduceCtorEq, Nat.reduceEqDiff, Nat.reduceAdd, Nat.reduceSub, Nat.reduceMul, Nat.reduceLeDiff, Nat.reduceLT, Int.reduceEq, Int.reduceNe, Int.reduceLT, Int.reduceLE, Int.reduceGT, Int.reduceGE, Int.reduceBEq, Int.reduceBNe, ↓reduceIte, h388, h389, h393, h401, h408, h422, h423, h424, h425, h426, h428, h429, h431] <;> rfl
            · try simp (disch := first | assumption | (simp; done) | omega | (simp; omega)) only [push_cast, reduceCtorEq, Nat.reduceEqDiff, Nat.reduceAdd, Nat.reduceSub, Nat.reduceMul, Nat.reduceLeDiff, Nat.reduceLT, Int.reduceEq, Int.reduceNe, Int.reduceLT, Int.reduceLE, Int.reduceGT, Int.reduceGE, Int.reduceBEq, Int.reduceBNe, ↓reduceIte] at h423
              obtain rfl := Option.some.inj h
              simp (config := { maxSteps := 1000000 }) (disch := first | assumption | (simp; done) | omega | (simp; omega)) only [push_cast, reduceCtorEq, Nat.reduceEqDiff, Nat.reduceAdd, Nat.reduceSub, Nat.reduceMul, Nat.reduceLeDiff, Nat.reduceLT, Int.reduceEq, Int.reduceNe, Int.reduceLT, Int.reduceLE, Int.reduceGT, Int.reduceGE, Int.reduceBEq, Int.reduceBNe, ↓reduceIte, h388, h389, h393, h401, h408, h422, h423]
              refine AEndW.of [0] (.inr rfl) (by decide) rfl ?_ ?_ ?_
              · simp (config := { maxSteps := 1000000 }) (disch := first | assumption | (simp; done) | omega | (simp; omega)) only [push_cast, reduceCtorEq, Nat.reduceEqDiff, Nat.reduceAdd, Nat.reduceSub, Nat.reduceMul, Nat.reduceLeDiff, Nat.reduceLT, Int.reduceEq, Int.reduceNe, Int.reduceLT, Int.reduceLE, Int.reduceGT, Int.reduceGE, Int.reduceBEq, Int.reduceBNe, ↓reduceIte, h388, h389, h393, h401, h408, h422, h423] <;> rfl
              · simp (config := { maxSteps := 1000000 }) (disch := first | assumption | (simp; done) | omega | (simp; omega)) only [push_cast, reduceCtorEq, Nat.reduceEqDiff, Nat.reduceAdd, Nat.reduceSub, Nat.reduceMul, Nat.reduceLeDiff, Nat.reduceLT, Int.reduceEq, Int.reduceNe, Int.reduceLT, Int.reduceLE, Int.reduceGT, Int.reduceGE, Int.reduceBEq, Int.reduceBNe, ↓reduceIte, h388, h389, h393, h401, h408, h422, h423] <;> rfl
              · simp (config := { maxSteps := 1000000 }) (disch := first | assumption | (simp; done) | omega | (simp; omega)) only [push_cast, reduceCtorEq, Nat.reduceEqDiff, Nat.reduceAdd, Nat.reduceSub, Nat.reduceMul, Nat.reduceLeDiff, Nat.reduceLT, Int.reduceEq, Int.reduceNe, Int.reduceLT, Int.reduceLE, Int.reduceGT, Int.reduceGE, Int.reduceBEq, Int.reduceBNe, ↓reduceIte, h388, h389, h393, h401, h408, h422, h423] <;> rfl
          · try simp (disch := first | assumption | (simp; done) | omega | (simp; omega)) only [push_cast, reduceCtorEq, Nat.reduceEqDiff, Nat.reduceAdd, Nat.reduceSub, Nat.reduceMul, Nat.reduceLeDiff, Nat.reduceLT, Int.reduceEq, Int.reduceNe, Int.reduceLT, Int.reduceLE, Int.reduceGT, Int.reduceGE, Int.reduceBEq, Int.reduceBNe, ↓reduceIte] at h422
            rcases F_if h with ⟨h432, h⟩ | ⟨h432, h⟩
            · try simp (disch := first | assumption | (simp; done) | omega | (simp; omega)) only [push_cast, reduceCtorEq, Nat.reduceEqDiff, Nat.reduceAdd, Nat.reduceSub, Nat.reduceMul, Nat.reduceLeDiff, Nat.reduceLT, Int.reduceEq, Int.reduceNe, Int.reduceLT, Int.reduceLE, Int.reduceGT, Int.reduceGE, Int.reduceBEq, Int.reduceBNe, ↓reduceIte] at h432
              obtain ⟨v10, h433, h⟩ := F_bd h
              simp (config := { maxSteps := 1000000 }) (disch := first | assumption | (simp; done) | omega | (simp; omega)) only [push_cast, reduceCtorEq, Nat.reduceEqDiff, Nat.reduceAdd, Nat.reduceSub, Nat.reduceMul, Nat.reduceLeDiff, Nat.reduceLT, Int.reduceEq, Int.reduceNe, Int.reduceLT, Int.reduceLE, Int.reduceGT, Int.reduceGE, Int.reduceBEq, Int.reduceBNe, ↓reduceIte, h388, h389, h393, h401, h408, h422, h432]
              refine call_new (by rfl) (c25 N _ _ h433) ?_ rfl ?_
              · simp (config := { maxSteps := 1000000 }) (disch := first | assumption | (simp; done) | omega | (simp; omega)) only [push_cast, reduceCtorEq, Nat.reduceEqDiff, Nat.reduceAdd, Nat.reduceSub, Nat.reduceMul, Nat.reduceLeDiff, Nat.reduceLT, Int.reduceEq, Int.reduceNe, Int.reduceLT, Int.reduceLE, Int.reduceGT, Int.reduceGE, Int.reduceBEq, Int.reduceBNe, ↓reduceIte, h388, h389, h393, h401, h408, h422, h432] <;> rfl
              obtain rfl := Option.some.inj h
              simp (config := { maxSteps := 1000000 }) (disch := first | assumption | (simp; done) | omega | (simp; omega)) only [push_cast, reduceCtorEq, Nat.reduceEqDiff, Nat.reduceAdd, Nat.reduceSub, Nat.reduceMul, Nat.reduceLeDiff, Nat.reduceLT, Int.reduceEq, Int.reduceNe, Int.reduceLT, Int.reduceLE, Int.reduceGT, Int.reduceGE, Int.reduceBEq, Int.reduceBNe, ↓reduceIte, h388, h389, h393, h401, h408, h422, h432]
              refine AEndW.of [0] (.inr rfl) (by decide) rfl ?_ ?_ ?_
              · simp (config := { maxSteps := 1000000 }) (disch := first | assumption | (simp; done) | omega | (simp; omega)) only [push_cast, reduceCtorEq, Nat.reduceEqDiff, Nat.reduceAdd, Nat.reduceSub, Nat.reduceMul, Nat.reduceLeDiff, Nat.reduceLT, Int.reduceEq, Int.reduceNe, Int.reduceLT, Int.reduceLE, Int.reduceGT, Int.reduceGE, Int.reduceBEq, Int.reduceBNe, ↓reduceIte, h388, h389, h393, h401, h408, h422, h432] <;> rfl
              · simp (config := { maxSteps := 1000000 }) (disch := first | assumption | (simp; done) | omega | (simp; omega)) only [push_cast, reduceCtorEq, Nat.reduceEqDiff, Nat.reduceAdd, Nat.reduceSub, Nat.reduceMul, Nat.reduceLeDiff, Nat.reduceLT, Int.reduceEq, Int.reduceNe, Int.reduceLT, Int.reduceLE, Int.reduceGT, Int.reduceGE, Int.reduceBEq, Int.reduceBNe, ↓reduceIte, h388, h389, h393, h401, h408, h422, h432] <;> rfl
              · simp (config := { maxSteps := 1000000 }) (disch := first | assumption | (simp; done) | omega | (simp; omega)) only [push_cast, reduceCtorEq, Nat.reduceEqDiff, Nat.reduceAdd, Nat.reduceSub, Nat.reduceMul, Nat.reduceLeDiff, Nat.reduceLT, Int.reduceEq, Int.reduceNe, Int.reduceLT, Int.reduceLE, Int.reduceGT, Int.reduceGE, Int.reduceBEq, Int.reduceBNe, ↓reduceIte, h388, h389, h393, h401, h408, h422, h432] <;> rfl
            · try simp (disch := first | assumption | (simp; done) | omega | (simp; omega)) only [push_cast, reduceCtorEq, Nat.reduceEqDiff, Nat.reduceAdd, Nat.reduceSub, Nat.reduceMul, Nat.reduceLeDiff, Nat.reduceLT, Int.reduceEq, Int.reduceNe, Int.reduceLT, Int.reduceLE, Int.reduceGT, Int.reduceGE, Int.reduceBEq, Int.reduceBNe, ↓reduceIte] at h432
              obtain rfl := Option.some.inj h
              simp (config := { maxSteps := 1000000 }) (disch := first | assumption | (simp; done) | omega | (simp; omega)) only [push_cast, reduceCtorEq, Nat.reduceEqDiff, Nat.reduceAdd, Nat.reduceSub, Nat.reduceMul, Nat.reduceLeDiff, Nat.reduceLT, Int.reduceEq, Int.reduceNe, Int.reduceLT, Int.reduceLE, Int.reduceGT, Int.reduceGE, Int.reduceBEq, Int.reduceBNe, ↓reduceIte, h388, h389, h393, h401, h408, h422, h432]
              refine AEndW.of [0] (.inr rfl) (by decide) rfl ?_ ?_ ?_
              · simp (config := { maxSteps := 1000000 }) (disch := first | assumption | (simp; done) | omega | (simp; omega)) only [push_cast, reduceCtorEq, Nat.reduceEqDiff, Nat.reduceAdd, Nat.reduceSub, Nat.reduceMul, Nat.reduceLeDiff, Nat.reduceLT, Int.reduceEq, Int.reduceNe, Int.reduceLT, Int.reduceLE, Int.reduceGT, Int.reduceGE, Int.reduceBEq, Int.reduceBNe, ↓reduceIte, h388, h389, h393, h401, h408, h422, h432] <;> rfl
              · simp (config := { maxSteps := 1000000 }) (disch := first | assumption | (simp; done) | omega | (simp; omega)) only [push_cast, reduceCtorEq, Nat.reduceEqDiff, Nat.reduceAdd, Nat.reduceSub, Nat.reduceMul, Nat.reduceLeDiff, Nat.reduceLT, Int.reduceEq, Int.reduceNe, Int.reduceLT, Int.reduceLE, Int.reduceGT, Int.reduceGE, Int.reduceBEq, Int.reduceBNe, ↓reduceIte, h388, h389, h393, h401, h408, h422, h432] <;> rfl
              · simp (config := { maxSteps := 1000000 }) (disch := first | assumption | (simp; done) | omega | (simp; omega)) only [push_cast, reduceCtorEq, Nat.reduceEqDiff, Nat.reduceAdd, Nat.reduceSub, Nat.reduceMul, Nat.reduceLeDiff, Nat.reduceLT, Int.reduceEq, Int.reduceNe, Int.reduceLT, Int.reduceLE, Int.reduceGT, Int.reduceGE, Int.reduceBEq, Int.reduceBNe, ↓reduceIte, h388, h389, h393, h401, h408, h422, h432] <;> rfl

/-! ## 7 rivermark.rivermarklaw11.LinkCatchesUp -/
def f7g0 : List RO :=
  [⟨(.some 2), (.mv (.const (.bool .false))), .none⟩]
def f7g1 : List RO :=
  [⟨(.some 15), (.mv (.tmp 0)), .none⟩,
   ⟨(.some 16), (.len .false (.tmp 15)), .none⟩,
   ⟨(.some 17), (.bin .gtr (.tmp 16) (.const (.int .i64 100))), .none⟩]
def f7g2 : List RO :=
  [⟨(.some 18), (.call (.func 9) []), .none⟩,
   ⟨(.some 2), (.mv (.tmp 18)), .none⟩]
def f7g3 : List RO :=
  [⟨(.some 3), (.new [(.D (.I .i64 0)), (.D (.I .i64 0)), (.D (.S [])), (.fl []), (.D (.I .i64 0)), (.fl []), (.fl []), (.fl []), (.fl []), (.D (.B .false))]), .none⟩]
def f7g4 : List RO :=
  [⟨(.some 4), (.mv (.const (.int .i64 0))), .none⟩]
def f7g5 : List RO :=
  [⟨(.some 19), (.mv (.tmp 4)), .none⟩,
   ⟨(.some 20), (.mv (.tmp 0)), .none⟩,
   ⟨(.some 21), (.len .false (.tmp 20)), .none⟩,
   ⟨(.some 22), (.bin .lss (.tmp 19) (.tmp 21)), .none⟩]
def f7g6 : List RO :=
  [⟨(.some 25), (.load (.some 10) (.tmp 3)), .none⟩,
   ⟨(.some 26), (.mv (.tmp 0)), .none⟩,
   ⟨(.some 27), (.mv (.tmp 4)), .none⟩,
   ⟨(.some 28), (.iaddr 2 (.tmp 26) (.tmp 27)), .none⟩,
   ⟨(.some 29), (.load (.some 2) (.tmp 28)), .none⟩,
   ⟨(.some 30), (.callE (.func 28) [(.tmp 25), (.tmp 29)]), .none⟩,
   ⟨.none, (.store 10 (.tmp 3) (.tmp 30)), .none⟩]
def f7g7 : List RO :=
  [⟨(.some 23), (.mv (.tmp 4)), .none⟩,
   ⟨(.some 24), (.bin .add (.tmp 23) (.const (.int .i64 1))), .none⟩,
   ⟨(.some 4), (.mv (.tmp 24)), .none⟩]
def f7b8 : RCode := (.seq (.seq (.reg .false f7g5) (.cond (.tmp 22) .skip (.exit 0))) (.seq (.block 1 (.reg .true f7g6)) (.reg .false f7g7)))
def f7g9 : List RO :=
  [⟨(.some 32), (.faddr 0 (.tmp 3)), .none⟩,
   ⟨(.some 33), (.load (.some 4) (.tmp 32)), .none⟩,
   ⟨(.some 34), (.call (.func 12) [(.tmp 33), (.const (.int .i64 1000))]), .none⟩,
   ⟨(.some 31), (.mv (.tmp 34)), .none⟩,
   ⟨(.some 35), (.ext (.tmp 31) 0), .none⟩,
   ⟨(.some 36), (.ext (.tmp 31) 1), .none⟩,
   ⟨(.some 5), (.mv (.tmp 35)), .none⟩,
   ⟨(.some 6), (.mv (.tmp 36)), .none⟩]
def f7g10 : List RO :=
  [⟨(.some 37), (.faddr 9 (.tmp 3)), .none⟩,
   ⟨(.some 38), (.load .none (.tmp 37)), .none⟩,
   ⟨(.some 39), (.mv (.tmp 38)), .none⟩,
   ⟨(.some 40), (.mv (.tmp 6)), (.some (39, .false))⟩,
   ⟨(.some 41), (.bin .neq (.tmp 40) (.const (.int .i64 0))), (.some (39, .false))⟩,
   ⟨(.some 42), (.pick (.tmp 39) (.const (.bool .true)) (.tmp 41)), .none⟩]
def f7g11 : List RO :=
  [⟨(.some 2), (.mv (.const (.bool .false))), .none⟩]
def f7g12 : List RO :=
  [⟨(.some 7), (.mv (.const (.int .i64 0))), .none⟩]
def f7g13 : List RO :=
  [⟨(.some 43), (.mv (.tmp 7)), .none⟩,
   ⟨(.some 44), (.mv (.tmp 5)), .none⟩,
   ⟨(.some 45), (.len .false (.tmp 44)), .none⟩,
   ⟨(.some 46), (.bin .lss (.tmp 43) (.tmp 45)), .none⟩]
def f7g14 : List RO :=
  [⟨(.some 50), (.faddr 4 (.tmp 3)), .none⟩,
   ⟨(.some 51), (.load (.some 2) (.tmp 50)), .none⟩,
   ⟨(.some 52), (.mv (.tmp 5)), .none⟩,
   ⟨(.some 53), (.mv (.tmp 7)), .none⟩,
   ⟨(.some 54), (.iaddr 3 (.tmp 52) (.tmp 53)), .none⟩,
   ⟨(.some 55), (.load (.some 3) (.tmp 54)), .none⟩,
   ⟨(.some 56), (.call (.func 23) [(.tmp 51), (.tmp 55)]), .none⟩,
   ⟨(.some 49), (.mv (.tmp 56)), .none⟩,
   ⟨(.some 57), (.ext (.tmp 49) 0), .none⟩,
   ⟨(.some 58), (.ext (.tmp 49) 1), .none⟩,
   ⟨(.some 59), (.ext (.tmp 49) 2), .none⟩,
   ⟨(.some 8), (.new [(.D (.I .i64 0)), (.fl [])]), .none⟩,
   ⟨.none, (.store 2 (.tmp 8) (.tmp 57)), .none⟩,
   ⟨(.some 9), (.mv (.tmp 58)), .none⟩,
   ⟨(.some 10), (.mv (.tmp 59)), .none⟩]
def f7g15 : List RO :=
  [⟨(.some 60), (.mv (.tmp 10)), .none⟩,
   ⟨(.some 61), (.bin .neq (.tmp 60) (.const (.int .i64 0))), .none⟩]
def f7g16 : List RO :=
  [⟨(.some 2), (.mv (.const (.bool .false))), .none⟩]
def f7g17 : List RO :=
  [⟨(.some 62), (.load (.some 2) (.tmp 8)), .none⟩,
   ⟨(.some 63), (.faddr 4 (.tmp 3)), .none⟩,
   ⟨.none, (.store 2 (.tmp 63) (.tmp 62)), .none⟩]
def f7g18 : List RO :=
  [⟨(.some 64), (.faddr 8 (.tmp 3)), .none⟩,
   ⟨(.some 65), (.load .none (.tmp 64)), .none⟩,
   ⟨(.some 66), (.mv (.tmp 9)), .none⟩,
   ⟨(.some 67), (.appE 3 32 (.tmp 65) (.tmp 66)), .none⟩,
   ⟨(.some 68), (.faddr 8 (.tmp 3)), .none⟩,
   ⟨.none, (.store 1 (.tmp 68) (.tmp 67)), .none⟩]
def f7g19 : List RO :=
  [⟨(.some 47), (.mv (.tmp 7)), .none⟩,
   ⟨(.some 48), (.bin .add (.tmp 47) (.const (.int .i64 1))), .none⟩,
   ⟨(.some 7), (.mv (.tmp 48)), .none⟩]
def f7b20 : RCode := (.seq (.seq (.reg .false f7g13) (.cond (.tmp 46) .skip (.exit 2))) (.seq (.block 3 (.seq (.reg .true f7g14) (.seq (.seq (.reg .false f7g15) (.cond (.tmp 61) (.seq (.reg .false f7g16) .ret) .skip)) (.seq (.reg .false f7g17) (.reg .false f7g18))))) (.reg .false f7g19)))
def f7g21 : List RO :=
  [⟨(.some 70), (.faddr 0 (.tmp 3)), .none⟩,
   ⟨(.some 71), (.load (.some 4) (.tmp 70)), .none⟩,
   ⟨(.some 72), (.faddr 4 (.tmp 3)), .none⟩,
   ⟨(.some 73), (.faddr 0 (.tmp 72)), .none⟩,
   ⟨(.some 74), (.load .none (.tmp 73)), .none⟩,
   ⟨(.some 75), (.call (.func 13) [(.tmp 71), (.tmp 74)]), .none⟩,
   ⟨(.some 69), (.mv (.tmp 75)), .none⟩,
   ⟨(.some 76), (.ext (.tmp 69) 0), .none⟩,
   ⟨(.some 77), (.ext (.tmp 69) 1), .none⟩,
   ⟨(.some 11), (.new [(.D (.I .i64 0)), (.D (.I .i64 0)), (.D (.S [])), (.fl [])]), .none⟩,
   ⟨.none, (.store 4 (.tmp 11) (.tmp 76)), .none⟩,
   ⟨(.some 12), (.mv (.tmp 77)), .none⟩]
def f7g22 : List RO :=
  [⟨(.some 79), (.load (.some 4) (.tmp 11)), .none⟩,
   ⟨(.some 80), (.call (.func 12) [(.tmp 79), (.const (.int .i64 1000))]), .none⟩,
   ⟨(.some 78), (.mv (.tmp 80)), .none⟩,
   ⟨(.some 81), (.ext (.tmp 78) 0), .none⟩,
   ⟨(.some 82), (.ext (.tmp 78) 1), .none⟩,
   ⟨(.some 13), (.mv (.tmp 81)), .none⟩,
   ⟨(.some 14), (.mv (.tmp 82)), .none⟩]
def f7g23 : List RO :=
  [⟨(.some 83), (.call (.func 9) []), .none⟩,
   ⟨(.some 84), (.mv (.tmp 83)), .none⟩,
   ⟨(.some 85), (.mv (.tmp 12)), (.some (84, .true))⟩,
   ⟨(.some 86), (.bin .eql (.tmp 85) (.const (.int .i64 0))), (.some (84, .true))⟩,
   ⟨(.some 87), (.pick (.tmp 84) (.tmp 86) (.const (.bool .false))), .none⟩,
   ⟨(.some 88), (.mv (.tmp 87)), .none⟩,
   ⟨(.some 89), (.mv (.tmp 14)), (.some (88, .true))⟩,
   ⟨(.some 90), (.bin .eql (.tmp 89) (.const (.int .i64 0))), (.some (88, .true))⟩,
   ⟨(.some 91), (.pick (.tmp 88) (.tmp 90) (.const (.bool .false))), .none⟩,
   ⟨(.some 92), (.mv (.tmp 91)), .none⟩,
   ⟨(.some 93), (.mv (.tmp 13)), (.some (92, .true))⟩,
   ⟨(.some 94), (.len .false (.tmp 93)), (.some (92, .true))⟩,
   ⟨(.some 95), (.bin .eql (.tmp 94) (.const (.int .i64 0))), (.some (92, .true))⟩,
   ⟨(.some 96), (.pick (.tmp 92) (.tmp 95) (.const (.bool .false))), .none⟩,
   ⟨(.some 97), (.mv (.tmp 96)), .none⟩,
   ⟨(.some 98), (.faddr 4 (.tmp 3)), (.some (97, .true))⟩,
   ⟨(.some 99), (.faddr 0 (.tmp 98)), (.some (97, .true))⟩,
   ⟨(.some 100), (.load .none (.tmp 99)), (.some (97, .true))⟩,
   ⟨(.some 101), (.faddr 0 (.tmp 3)), (.some (97, .true))⟩,
   ⟨(.some 102), (.faddr 0 (.tmp 101)), (.some (97, .true))⟩,
   ⟨(.some 103), (.load .none (.tmp 102)), (.some (97, .true))⟩,
   ⟨(.some 104), (.faddr 0 (.tmp 3)), (.some (97, .true))⟩,
   ⟨(.some 105), (.faddr 3 (.tmp 104)), (.some (97, .true))⟩,
   ⟨(.some 106), (.load .none (.tmp 105)), (.some (97, .true))⟩,
   ⟨(.some 107), (.len .false (.tmp 106)), (.some (97, .true))⟩,
   ⟨(.some 108), (.bin .add (.tmp 103) (.tmp 107)), (.some (97, .true))⟩,
   ⟨(.some 109), (.bin .eql (.tmp 100) (.tmp 108)), (.some (97, .true))⟩,
   ⟨(.some 110), (.pick (.tmp 97) (.tmp 109) (.const (.bool .false))), .none⟩,
   ⟨(.some 111), (.mv (.tmp 110)), .none⟩,
   ⟨(.some 112), (.load (.some 10) (.tmp 3)), (.some (111, .true))⟩,
   ⟨(.some 113), (.call (.func 29) [(.tmp 112)]), (.some (111, .true))⟩,
   ⟨(.some 114), (.pick (.tmp 111) (.tmp 113) (.const (.bool .false))), .none⟩,
   ⟨(.some 2), (.mv (.tmp 114)), .none⟩]
def f7c : RCode := (.seq (.reg .false f7g0) (.seq (.seq (.reg .false f7g1) (.cond (.tmp 17) (.seq (.reg .false f7g2) .ret) .skip)) (.seq (.reg .false f7g3) (.seq (.seq (.reg .false f7g4) (.block 0 (.loop f7b8))) (.seq (.reg .false f7g9) (.seq (.seq (.reg .false f7g10) (.cond (.tmp 42) (.seq (.reg .false f7g11) .ret) .skip)) (.seq (.seq (.reg .false f7g12) (.block 2 (.loop f7b20))) (.seq (.reg .false f7g21) (.seq (.reg .false f7g22) (.seq (.reg .false f7g23) .ret))))))))))
def f7r : List RRes := [(.tmp 2)]
attribute [push_cast] f7g0 f7g1 f7g2 f7g3 f7g4 f7g5 f7g6 f7g7 f7g9 f7g10 f7g11 f7g12 f7g13 f7g14 f7g15 f7g16 f7g17 f7g18 f7g19 f7g21 f7g22 f7g23
def L7_1 (N : Nat) (a3 : Int) (a4 : Int) (a5 : Str) (a6 : (List Str)) (a9 : (List Frame)) (a10 : (List Int)) (a11 : Bool) (v15 : ((List Frame) × Int)) : Nat → Int → Int → (List Frame) → (List Frame) → Option Bool
  | 0, _, _, _, _ => none
  | m3+1, a16, a17, a18, a19 => if? (decide (a16 < (v15.1.length : Int))) (get? v15.1 (a16) fun x20 => bd? (F23 N (Inbox.mk a17 a18) x20) fun v21 => if? ((v21.2.2 != 0)) (some (false)) (gd? ((a19.length + v21.2.1.length) * 32 ≤ 140737488355328) (ck .i64 (a16 + 1) (L7_1 N a3 a4 a5 a6 a9 a10 a11 v15 m3 (a16 + 1) v21.1.Next v21.1.Ahead (a19 ++ v21.2.1))))) (bd? (F13 N (Outbox.mk a3 a4 a5 a6) a17) fun v22 => bd? (F12 N v22.1 1000) fun v23 => bd? (F9 N ) fun v24 => if? (v24) (if? ((v22.2 == 0)) (if? ((v23.2 == 0)) (if? (((v23.1.length : Int) == 0)) (ck .i64 (a3 + (a6.length : Int)) (if? ((a17 == (a3 + (a6.length : Int)))) (bd? (F29 N (WLine.mk (Outbox.mk a3 a4 a5 a6) (Inbox.mk a17 a18) a9 a10 a19 a11)) fun v25 => some (v25)) (some (false)))) (some (false))) (some (false))) (some (false))) (some (false)))
def I7_1 (N : Nat) (a3 : Int) (a4 : Int) (a5 : Str) (a6 : (List Str)) (a9 : (List Frame)) (a10 : (List Int)) (a11 : Bool) (v15 : ((List Frame) × Int)) (r : Bool) (n : Nat) (s : AState) : Prop := ∃ (a16 : Int) (a17 : Int) (a18 : (List Frame)) (a19 : (List Frame)), L7_1 N a3 a4 a5 a6 a9 a10 a11 v15 n a16 a17 a18 a19 = some r ∧ s = ⟨envL [(3, .ptr (.O 0) 0), (5, .sl (.O 2) 3 0 v15.1.length), (7, .D (.I .i64 a16))], ownL [], ownL [some (.box [.D (.I .i64 a3), .D (.I .i64 a4), .D (.S a5), .D (.L (a6.map rS)), .D (.I .i64 a17), .D (.L (a18.map Frame.row)), .D (.L (a9.map Frame.row)), .D (.L (a10.map (rI .i64))), .sl (.O 1) 3 0 a19.length, .D (.B a11)]), some (.row true 3 (a19.map Frame.row)), some (.row true 3 (v15.1.map Frame.row))], 3⟩
def L7_0 (N : Nat) (p0 : (List WAct)) : Nat → Int → Int → Int → Str → (List Str) → Int → (List Frame) → (List Frame) → (List Int) → Bool → (List Frame) → Option Bool
  | 0, _, _, _, _, _, _, _, _, _, _, _ => none
  | m1+1, a2, a3, a4, a5, a6, a7, a8, a9, a10, a11, a12 => if? (decide (a2 < (p0.length : Int))) (get? p0 (a2) fun x13 => bd? (F28_1 N (WLine.mk (Outbox.mk a3 a4 a5 a6) (Inbox.mk a7 a8) a9 a10 a12 a11) x13) fun v14 => ck .i64 (a2 + 1) (L7_0 N p0 m1 (a2 + 1) v14.O.Base v14.O.Acked v14.O.Summary v14.O.Queue v14.I.Next v14.I.Ahead v14.Sent v14.Told v14.Bad v14.Delivered)) (bd? (F12 N (Outbox.mk a3 a4 a5 a6) 1000) fun v15 => if? (a11) (some (false)) (if? ((v15.2 != 0)) (some (false)) (L7_1 N a3 a4 a5 a6 a9 a10 a11 v15 N 0 a7 a8 a12)))
def I7_0 (N : Nat) (p0 : (List WAct)) (r : Bool) (n : Nat) (s : AState) : Prop := ∃ (a2 : Int) (a3 : Int) (a4 : Int) (a5 : Str) (a6 : (List Str)) (a7 : Int) (a8 : (List Frame)) (a9 : (List Frame)) (a10 : (List Int)) (a11 : Bool) (a12 : (List Frame)), L7_0 N p0 n a2 a3 a4 a5 a6 a7 a8 a9 a10 a11 a12 = some r ∧ s = ⟨envL [(0, .D (.L (p0.map WAct.row))), (3, .ptr (.O 0) 0), (4, .D (.I .i64 a2))], ownL [], ownL [some (.box [.D (.I .i64 a3), .D (.I .i64 a4), .D (.S a5), .D (.L (a6.map rS)), .D (.I .i64 a7), .D (.L (a8.map Frame.row)), .D (.L (a9.map Frame.row)), .D (.L (a10.map (rI .i64))), .sl (.O 1) 3 0 a12.length, .D (.B a11)]), some (.row true 3 (a12.map Frame.row))], 2⟩
def F7 (N : Nat) (p0 : (List WAct)) : Option Bool := if? (decide ((p0.length : Int) > 100)) (bd? (F9 N ) fun v1 => some (v1)) (L7_0 N p0 N 0 0 0 ([] : Str) [] 0 [] [] [] false [])
theorem c7 (N : Nat) (p0 : (List WAct)) (r : Bool) (h : F7 N p0 = some r) : ACall Try.prog 7 [.D (.L (p0.map WAct.row))] [] (.D (.B r)) [] [] := by
  refine ACall.of_bodyW [30, 67] (fn := Try.f7) (rc := f7c) (rs := f7r) Try.func7 rfl rfl (by kernel_rfl) (by kernel_rfl) (by kernel_rfl) (by rw [Try.ntmps7]; simp) ?_
  unfold F7 at h
  unfold f7c f7r
  rw [entry_eq _ _]
  rcases F_if h with ⟨h434, h⟩ | ⟨h434, h⟩
  · try simp (disch := first | assumption | (simp; done) | omega | (simp; omega)) only [push_cast, reduceCtorEq, Nat.reduceEqDiff, Nat.reduceAdd, Nat.reduceSub, Nat.reduceMul, Nat.reduceLeDiff, Nat.reduceLT, Int.reduceEq, Int.reduceNe, Int.reduceLT, Int.reduceLE, Int.reduceGT, Int.reduceGE, Int.reduceBEq, Int.reduceBNe, ↓reduceIte] at h434
    obtain ⟨v1, h435, h⟩ := F_bd h
    simp (config := { maxSteps := 1000000 }) (disch := first | assumption | (simp; done) | omega | (simp; omega)) only [push_cast, reduceCtorEq, Nat.reduceEqDiff, Nat.reduceAdd, Nat.reduceSub, Nat.reduceMul, Nat.reduceLeDiff, Nat.reduceLT, Int.reduceEq, Int.reduceNe, Int.reduceLT, Int.reduceLE, Int.reduceGT, Int.reduceGE, Int.reduceBEq, Int.reduceBNe, ↓reduceIte, h434]
    refine call_flat (by rfl) (c9 N _ h435) ?_ rfl ?_
    · simp (config := { maxSteps := 1000000 }) (disch := first | assumption | (simp; done) | omega | (simp; omega)) only [push_cast, reduceCtorEq, Nat.reduceEqDiff, Nat.reduceAdd, Nat.reduceSub, Nat.reduceMul, Nat.reduceLeDiff, Nat.reduceLT, Int.reduceEq, Int.reduceNe, Int.reduceLT, Int.reduceLE, Int.reduceGT, Int.reduceGE, Int.reduceBEq, Int.reduceBNe, ↓reduceIte, h434] <;> rfl
    obtain rfl := Option.some.inj h
    simp (config := { maxSteps := 1000000 }) (disch := first | assumption | (simp; done) | omega | (simp; omega)) only [push_cast, reduceCtorEq, Nat.reduceEqDiff, Nat.reduceAdd, Nat.reduceSub, Nat.reduceMul, Nat.reduceLeDiff, Nat.reduceLT, Int.reduceEq, Int.reduceNe, Int.reduceLT, Int.reduceLE, Int.reduceGT, Int.reduceGE, Int.reduceBEq, Int.reduceBNe, ↓reduceIte, h434]
    refine e_ret (.inr rfl) ?_
    simp (config := { maxSteps := 1000000 }) (disch := first | assumption | (simp; done) | omega | (simp; omega)) only [push_cast, reduceCtorEq, Nat.reduceEqDiff, Nat.reduceAdd, Nat.reduceSub, Nat.reduceMul, Nat.reduceLeDiff, Nat.reduceLT, Int.reduceEq, Int.reduceNe, Int.reduceLT, Int.reduceLE, Int.reduceGT, Int.reduceGE, Int.reduceBEq, Int.reduceBNe, ↓reduceIte, aret, aresults, aresult, h434]
    refine ⟨_, rfl, ?_⟩
    first | (simp (config := { maxSteps := 1000000 }) (disch := first | assumption | (simp; done) | omega | (simp; omega)) only [push_cast, reduceCtorEq, Nat.reduceEqDiff, Nat.reduceAdd, Nat.reduceSub, Nat.reduceMul, Nat.reduceLeDiff, Nat.reduceLT, Int.reduceEq, Int.reduceNe, Int.reduceLT, Int.reduceLE, Int.reduceGT, Int.reduceGE, Int.reduceBEq, Int.reduceBNe, ↓reduceIte, h434] <;> rfl) | rfl
  · try simp (disch := first | assumption | (simp; done) | omega | (simp; omega)) only [push_cast, reduceCtorEq, Nat.reduceEqDiff, Nat.reduceAdd, Nat.reduceSub, Nat.reduceMul, Nat.reduceLeDiff, Nat.reduceLT, Int.reduceEq, Int.reduceNe, Int.reduceLT, Int.reduceLE, Int.reduceGT, Int.reduceGE, Int.reduceBEq, Int.reduceBNe, ↓reduceIte] at h434
    simp (config := { maxSteps := 1000000 }) (disch := first | assumption | (simp; done) | omega | (simp; omega)) only [push_cast, reduceCtorEq, Nat.reduceEqDiff, Nat.reduceAdd, Nat.reduceSub, Nat.reduceMul, Nat.reduceLeDiff, Nat.reduceLT, Int.reduceEq, Int.reduceNe, Int.reduceLT, Int.reduceLE, Int.reduceGT, Int.reduceGE, Int.reduceBEq, Int.reduceBNe, ↓reduceIte, h434]
    refine loop_ownB (.O 0) [.D (.I .i64 0), .D (.I .i64 0), .D (.S ([] : Str)), .fl [], .D (.I .i64 0), .fl [], .fl [], .fl [], .fl [], .D (.B false)] 8 3 (by rfl) (by rfl) ?_
    simp (config := { maxSteps := 1000000 }) (disch := first | assumption | (simp; done) | omega | (simp; omega)) only [push_cast, reduceCtorEq, Nat.reduceEqDiff, Nat.reduceAdd, Nat.reduceSub, Nat.reduceMul, Nat.reduceLeDiff, Nat.reduceLT, Int.reduceEq, Int.reduceNe, Int.reduceLT, Int.reduceLE, Int.reduceGT, Int.reduceGE, Int.reduceBEq, Int.reduceBNe, ↓reduceIte, h434]
    refine loop_of (I7_0 N p0 _) N [0, 3, 4] [0, 1] (by decide) ⟨0, 0, 0, ([] : Str), [], 0, [], [], [], false, [], h, ?_⟩ ?_
    · rw [wk_mk]
      simp (config := { maxSteps := 1000000 }) (disch := first | assumption | (simp; done) | omega | (simp; omega)) only [push_cast, reduceCtorEq, Nat.reduceEqDiff, Nat.reduceAdd, Nat.reduceSub, Nat.reduceMul, Nat.reduceLeDiff, Nat.reduceLT, Int.reduceEq, Int.reduceNe, Int.reduceLT, Int.reduceLE, Int.reduceGT, Int.reduceGE, Int.reduceBEq, Int.reduceBNe, ↓reduceIte, h434] <;> rfl
    · rintro n s ⟨a2, a3, a4, a5, a6, a7, a8, a9, a10, a11, a12, h, rfl⟩
      cases n with
      | zero => exact absurd h (by simp [L7_0])
      | succ m1 =>
        rw [L7_0] at h
        unfold f7b8
        rcases F_if h with ⟨h436, h⟩ | ⟨h436, h⟩
        · try simp (disch := first | assumption | (simp; done) | omega | (simp; omega)) only [push_cast, reduceCtorEq, Nat.reduceEqDiff, Nat.reduceAdd, Nat.reduceSub, Nat.reduceMul, Nat.reduceLeDiff, Nat.reduceLT, Int.reduceEq, Int.reduceNe, Int.reduceLT, Int.reduceLE, Int.reduceGT, Int.reduceGE, Int.reduceBEq, Int.reduceBNe, ↓reduceIte] at h436
          obtain ⟨x13, h437, h438, h⟩ := F_get h
          have h440 := get_lt h437 h438
          have h439 := map_get WAct.row h438
          try simp (disch := first | assumption | (simp; done) | omega | (simp; omega)) only [push_cast, reduceCtorEq, Nat.reduceEqDiff, Nat.reduceAdd, Nat.reduceSub, Nat.reduceMul, Nat.reduceLeDiff, Nat.reduceLT, Int.reduceEq, Int.reduceNe, Int.reduceLT, Int.reduceLE, Int.reduceGT, Int.reduceGE, Int.reduceBEq, Int.reduceBNe, ↓reduceIte] at h439
          try simp (disch := first | assumption | (simp; done) | omega | (simp; omega)) only [push_cast, reduceCtorEq, Nat.reduceEqDiff, Nat.reduceAdd, Nat.reduceSub, Nat.reduceMul, Nat.reduceLeDiff, Nat.reduceLT, Int.reduceEq, Int.reduceNe, Int.reduceLT, Int.reduceLE, Int.reduceGT, Int.reduceGE, Int.reduceBEq, Int.reduceBNe, ↓reduceIte] at h440
          obtain ⟨v14, h441, h⟩ := F_bd h
          simp (config := { maxSteps := 1000000 }) (disch := first | assumption | (simp; done) | omega | (simp; omega)) only [push_cast, reduceCtorEq, Nat.reduceEqDiff, Nat.reduceAdd, Nat.reduceSub, Nat.reduceMul, Nat.reduceLeDiff, Nat.reduceLT, Int.reduceEq, Int.reduceNe, Int.reduceLT, Int.reduceLE, Int.reduceGT, Int.reduceGE, Int.reduceBEq, Int.reduceBNe, ↓reduceIte, h434, h436, h437, h439, h440]
          refine callE_of [.O 1] (by rfl) (c28_1 N _ _ _ h441) (by decide) rfl (by simp (config := { maxSteps := 1000000 }) (disch := first | assumption | (simp; done) | omega | (simp; omega)) only [push_cast, reduceCtorEq, Nat.reduceEqDiff, Nat.reduceAdd, Nat.reduceSub, Nat.reduceMul, Nat.reduceLeDiff, Nat.reduceLT, Int.reduceEq, Int.reduceNe, Int.reduceLT, Int.reduceLE, Int.reduceGT, Int.reduceGE, Int.reduceBEq, Int.reduceBNe, ↓reduceIte] <;> rfl) (by simp (config := { maxSteps := 1000000 }) (disch := first | assumption | (simp; done) | omega | (simp; omega)) only [push_cast, reduceCtorEq, Nat.reduceEqDiff, Nat.reduceAdd, Nat.reduceSub, Nat.reduceMul, Nat.reduceLeDiff, Nat.reduceLT, Int.reduceEq, Int.reduceNe, Int.reduceLT, Int.reduceLE, Int.reduceGT, Int.reduceGE, Int.reduceBEq, Int.reduceBNe, ↓reduceIte] <;> rfl) ?_ ?_ ?_
          · simp (config := { maxSteps := 1000000 }) (disch := first | assumption | (simp; done) | omega | (simp; omega)) only [push_cast, reduceCtorEq, Nat.reduceEqDiff, Nat.reduceAdd, Nat.reduceSub, Nat.reduceMul, Nat.reduceLeDiff, Nat.reduceLT, Int.reduceEq, Int.reduceNe, Int.reduceLT, Int.reduceLE, Int.reduceGT, Int.reduceGE, Int.reduceBEq, Int.reduceBNe, ↓reduceIte, h434, h436, h437, h439, h440] <;> rfl
          · simp (config := { maxSteps := 1000000 }) (disch := first | assumption | (simp; done) | omega | (simp; omega)) only [push_cast, reduceCtorEq, Nat.reduceEqDiff, Nat.reduceAdd, Nat.reduceSub, Nat.reduceMul, Nat.reduceLeDiff, Nat.reduceLT, Int.reduceEq, Int.reduceNe, Int.reduceLT, Int.reduceLE, Int.reduceGT, Int.reduceGE, Int.reduceBEq, Int.reduceBNe, ↓reduceIte, h434, h436, h437, h439, h440] <;> rfl
          obtain ⟨h442, h⟩ := F_ck h
          try simp (disch := first | assumption | (simp; done) | omega | (simp; omega)) only [push_cast, reduceCtorEq, Nat.reduceEqDiff, Nat.reduceAdd, Nat.reduceSub, Nat.reduceMul, Nat.reduceLeDiff, Nat.reduceLT, Int.reduceEq, Int.reduceNe, Int.reduceLT, Int.reduceLE, Int.reduceGT, Int.reduceGE, Int.reduceBEq, Int.reduceBNe, ↓reduceIte] at h442
          simp (config := { maxSteps := 1000000 }) (disch := first | assumption | (simp; done) | omega | (simp; omega)) only [push_cast, reduceCtorEq, Nat.reduceEqDiff, Nat.reduceAdd, Nat.reduceSub, Nat.reduceMul, Nat.reduceLeDiff, Nat.reduceLT, Int.reduceEq, Int.reduceNe, Int.reduceLT, Int.reduceLE, Int.reduceGT, Int.reduceGE, Int.reduceBEq, Int.reduceBNe, ↓reduceIte, h434, h436, h437, h439, h440, h442]
          refine lpK_of m1 [0, 3, 4] [0, 2] (by omega) (by decide) ⟨(a2 + 1), v14.O.Base, v14.O.Acked, v14.O.Summary, v14.O.Queue, v14.I.Next, v14.I.Ahead, v14.Sent, v14.Told, v14.Bad, v14.Delivered, h, ?_⟩
          rw [wk_mk]
          simp (config := { maxSteps := 1000000 }) (disch := first | assumption | (simp; done) | omega | (simp; omega)) only [push_cast, reduceCtorEq, Nat.reduceEqDiff, Nat.reduceAdd, Nat.reduceSub, Nat.reduceMul, Nat.reduceLeDiff, Nat.reduceLT, Int.reduceEq, Int.reduceNe, Int.reduceLT, Int.reduceLE, Int.reduceGT, Int.reduceGE, Int.reduceBEq, Int.reduceBNe, ↓reduceIte, h434, h436, h437, h439, h440, h442] <;> rfl
        · try simp (disch := first | assumption | (simp; done) | omega | (simp; omega)) only [push_cast, reduceCtorEq, Nat.reduceEqDiff, Nat.reduceAdd, Nat.reduceSub, Nat.reduceMul, Nat.reduceLeDiff, Nat.reduceLT, Int.reduceEq, Int.reduceNe, Int.reduceLT, Int.reduceLE, Int.reduceGT, Int.reduceGE, Int.reduceBEq, Int.reduceBNe, ↓reduceIte] at h436
          obtain ⟨v15, h443, h⟩ := F_bd h
          simp (config := { maxSteps := 1000000 }) (disch := first | assumption | (simp; done) | omega | (simp; omega)) only [push_cast, reduceCtorEq, Nat.reduceEqDiff, Nat.reduceAdd, Nat.reduceSub, Nat.reduceMul, Nat.reduceLeDiff, Nat.reduceLT, Int.reduceEq, Int.reduceNe, Int.reduceLT, Int.reduceLE, Int.reduceGT, Int.reduceGE, Int.reduceBEq, Int.reduceBNe, ↓reduceIte, h434, h436]
          refine call_new (by rfl) (c12 N _ _ _ h443) ?_ rfl ?_
          · simp (config := { maxSteps := 1000000 }) (disch := first | assumption | (simp; done) | omega | (simp; omega)) only [push_cast, reduceCtorEq, Nat.reduceEqDiff, Nat.reduceAdd, Nat.reduceSub, Nat.reduceMul, Nat.reduceLeDiff, Nat.reduceLT, Int.reduceEq, Int.reduceNe, Int.reduceLT, Int.reduceLE, Int.reduceGT, Int.reduceGE, Int.reduceBEq, Int.reduceBNe, ↓reduceIte, h434, h436] <;> rfl
          rcases F_if h with ⟨h444, h⟩ | ⟨h444, h⟩
          · try simp (disch := first | assumption | (simp; done) | omega | (simp; omega)) only [push_cast, reduceCtorEq, Nat.reduceEqDiff, Nat.reduceAdd, Nat.reduceSub, Nat.reduceMul, Nat.reduceLeDiff, Nat.reduceLT, Int.reduceEq, Int.reduceNe, Int.reduceLT, Int.reduceLE, Int.reduceGT, Int.reduceGE, Int.reduceBEq, Int.reduceBNe, ↓reduceIte] at h444
            obtain rfl := Option.some.inj h
            simp (config := { maxSteps := 1000000 }) (disch := first | assumption | (simp; done) | omega | (simp; omega)) only [push_cast, reduceCtorEq, Nat.reduceEqDiff, Nat.reduceAdd, Nat.reduceSub, Nat.reduceMul, Nat.reduceLeDiff, Nat.reduceLT, Int.reduceEq, Int.reduceNe, Int.reduceLT, Int.reduceLE, Int.reduceGT, Int.reduceGE, Int.reduceBEq, Int.reduceBNe, ↓reduceIte, h434, h436, h444]
            refine e_ret (.inr rfl) ?_
            simp (config := { maxSteps := 1000000 }) (disch := first | assumption | (simp; done) | omega | (simp; omega)) only [push_cast, reduceCtorEq, Nat.reduceEqDiff, Nat.reduceAdd, Nat.reduceSub, Nat.reduceMul, Nat.reduceLeDiff, Nat.reduceLT, Int.reduceEq, Int.reduceNe, Int.reduceLT, Int.reduceLE, Int.reduceGT, Int.reduceGE, Int.reduceBEq, Int.reduceBNe, ↓reduceIte, aret, aresults, aresult, h434, h436, h444]
            refine ⟨_, rfl, ?_⟩
            first | (simp (config := { maxSteps := 1000000 }) (disch := first | assumption | (simp; done) | omega | (simp; omega)) only [push_cast, reduceCtorEq, Nat.reduceEqDiff, Nat.reduceAdd, Nat.reduceSub, Nat.reduceMul, Nat.reduceLeDiff, Nat.reduceLT, Int.reduceEq, Int.reduceNe, Int.reduceLT, Int.reduceLE, Int.reduceGT, Int.reduceGE, Int.reduceBEq, Int.reduceBNe, ↓reduceIte, h434, h436, h444] <;> rfl) | rfl
          · try simp (disch := first | assumption | (simp; done) | omega | (simp; omega)) only [push_cast, reduceCtorEq, Nat.reduceEqDiff, Nat.reduceAdd, Nat.reduceSub, Nat.reduceMul, Nat.reduceLeDiff, Nat.reduceLT, Int.reduceEq, Int.reduceNe, Int.reduceLT, Int.reduceLE, Int.reduceGT, Int.reduceGE, Int.reduceBEq, Int.reduceBNe, ↓reduceIte] at h444
            rcases F_if h with ⟨h445, h⟩ | ⟨h445, h⟩
            · try simp (disch := first | assumption | (simp; done) | omega | (simp; omega)) only [push_cast, reduceCtorEq, Nat.reduceEqDiff, Nat.reduceAdd, Nat.reduceSub, Nat.reduceMul, Nat.reduceLeDiff, Nat.reduceLT, Int.reduceEq, Int.reduceNe, Int.reduceLT, Int.reduceLE, Int.reduceGT, Int.reduceGE, Int.reduceBEq, Int.reduceBNe, ↓reduceIte] at h445
              obtain rfl := Option.some.inj h
              simp (config := { maxSteps := 1000000 }) (disch := first | assumption | (simp; done) | omega | (simp; omega)) only [push_cast, reduceCtorEq, Nat.reduceEqDiff, Nat.reduceAdd, Nat.reduceSub, Nat.reduceMul, Nat.reduceLeDiff, Nat.reduceLT, Int.reduceEq, Int.reduceNe, Int.reduceLT, Int.reduceLE, Int.reduceGT, Int.reduceGE, Int.reduceBEq, Int.reduceBNe, ↓reduceIte, h434, h436, h444, h445]
              refine e_ret (.inr rfl) ?_
              simp (config := { maxSteps := 1000000 }) (disch := first | assumption | (simp; done) | omega | (simp; omega)) only [push_cast, reduceCtorEq, Nat.reduceEqDiff, Nat.reduceAdd, Nat.reduceSub, Nat.reduceMul, Nat.reduceLeDiff, Nat.reduceLT, Int.reduceEq, Int.reduceNe, Int.reduceLT, Int.reduceLE, Int.reduceGT, Int.reduceGE, Int.reduceBEq, Int.reduceBNe, ↓reduceIte, aret, aresults, aresult, h434, h436, h444, h445]
              refine ⟨_, rfl, ?_⟩
              first | (simp (config := { maxSteps := 1000000 }) (disch := first | assumption | (simp; done) | omega | (simp; omega)) only [push_cast, reduceCtorEq, Nat.reduceEqDiff, Nat.reduceAdd, Nat.reduceSub, Nat.reduceMul, Nat.reduceLeDiff, Nat.reduceLT, Int.reduceEq, Int.reduceNe, Int.reduceLT, Int.reduceLE, Int.reduceGT, Int.reduceGE, Int.reduceBEq, Int.reduceBNe, ↓reduceIte, h434, h436, h444, h445] <;> rfl) | rfl
            · try simp (disch := first | assumption | (simp; done) | omega | (simp; omega)) only [push_cast, reduceCtorEq, Nat.reduceEqDiff, Nat.reduceAdd, Nat.reduceSub, Nat.reduceMul, Nat.reduceLeDiff, Nat.reduceLT, Int.reduceEq, Int.reduceNe, Int.reduceLT, Int.reduceLE, Int.reduceGT, Int.reduceGE, Int.reduceBEq, Int.reduceBNe, ↓reduceIte] at h445
              simp (config := { maxSteps := 1000000 }) (disch := first | assumption | (simp; done) | omega | (simp; omega)) only [push_cast, reduceCtorEq, Nat.reduceEqDiff, Nat.reduceAdd, Nat.reduceSub, Nat.reduceMul, Nat.reduceLeDiff, Nat.reduceLT, Int.reduceEq, Int.reduceNe, Int.reduceLT, Int.reduceLE, Int.reduceGT, Int.reduceGE, Int.reduceBEq, Int.reduceBNe, ↓reduceIte, h434, h436, h444, h445]
              refine loop_of (I7_1 N a3 a4 a5 a6 a9 a10 a11 v15 _) N [3, 5, 7] [0, 1, 2] (by decide) ⟨0, a7, a8, a12, h, ?_⟩ ?_
              · rw [wk_mk]
                simp (config := { maxSteps := 1000000 }) (disch := first | assumption | (simp; done) | omega | (simp; omega)) only [push_cast, reduceCtorEq, Nat.reduceEqDiff, Nat.reduceAdd, Nat.reduceSub, Nat.reduceMul, Nat.reduceLeDiff, Nat.reduceLT, Int.reduceEq, Int.reduceNe, Int.reduceLT, Int.reduceLE, Int.reduceGT, Int.reduceGE, Int.reduceBEq, Int.reduceBNe, ↓reduceIte, h434, h436, h444, h445] <;> rfl
              · rintro n s ⟨a16, a17, a18, a19, h, rfl⟩
                cases n with
                | zero => exact absurd h (by simp [L7_1])
                | succ m3 =>
                  rw [L7_1] at h
                  unfold f7b20
                  rcases F_if h with ⟨h446, h⟩ | ⟨h446, h⟩
                  · try simp (disch := first | assumption | (simp; done) | omega | (simp; omega)) only [push_cast, reduceCtorEq, Nat.reduceEqDiff, Nat.reduceAdd, Nat.reduceSub, Nat.reduceMul, Nat.reduceLeDiff, Nat.reduceLT, Int.reduceEq, Int.reduceNe, Int.reduceLT, Int.reduceLE, Int.reduceGT, Int.reduceGE, Int.reduceBEq, Int.reduceBNe, ↓reduceIte] at h446
                    obtain ⟨x20, h447, h448, h⟩ := F_get h
                    have h450 := get_lt h447 h448
                    have h449 := map_get Frame.row h448
                    try simp (disch := first | assumption | (simp; done) | omega | (simp; omega)) only [push_cast, reduceCtorEq, Nat.reduceEqDiff, Nat.reduceAdd, Nat.reduceSub, Nat.reduceMul, Nat.reduceLeDiff, Nat.reduceLT, Int.reduceEq, Int.reduceNe, Int.reduceLT, Int.reduceLE, Int.reduceGT, Int.reduceGE, Int.reduceBEq, Int.reduceBNe, ↓reduceIte] at h449
                    try simp (disch := first | assumption | (simp; done) | omega | (simp; omega)) only [push_cast, reduceCtorEq, Nat.reduceEqDiff, Nat.reduceAdd, Nat.reduceSub, Nat.reduceMul, Nat.reduceLeDiff, Nat.reduceLT, Int.reduceEq, Int.reduceNe, Int.reduceLT, Int.reduceLE, Int.reduceGT, Int.reduceGE, Int.reduceBEq, Int.reduceBNe, ↓reduceIte] at h450
                    obtain ⟨v21, h451, h⟩ := F_bd h
                    simp (config := { maxSteps := 1000000 }) (disch := first | assumption | (simp; done) | omega | (simp; omega)) only [push_cast, reduceCtorEq, Nat.reduceEqDiff, Nat.reduceAdd, Nat.reduceSub, Nat.reduceMul, Nat.reduceLeDiff, Nat.reduceLT, Int.reduceEq, Int.reduceNe, Int.reduceLT, Int.reduceLE, Int.reduceGT, Int.reduceGE, Int.reduceBEq, Int.reduceBNe, ↓reduceIte, h434, h436, h444, h445, h446, h447, h449, h450]
                    refine call_new (by rfl) (c23 N _ _ _ h451) ?_ rfl ?_
                    · simp (config := { maxSteps := 1000000 }) (disch := first | assumption | (simp; done) | omega | (simp; omega)) only [push_cast, reduceCtorEq, Nat.reduceEqDiff, Nat.reduceAdd, Nat.reduceSub, Nat.reduceMul, Nat.reduceLeDiff, Nat.reduceLT, Int.reduceEq, Int.reduceNe, Int.reduceLT, Int.reduceLE, Int.reduceGT, Int.reduceGE, Int.reduceBEq, Int.reduceBNe, ↓reduceIte, h434, h436, h444, h445, h446, h447, h449, h450] <;> rfl
                    rcases F_if h with ⟨h452, h⟩ | ⟨h452, h⟩
                    · try simp (disch := first | assumption | (simp; done) | omega | (simp; omega)) only [push_cast, reduceCtorEq, Nat.reduceEqDiff, Nat.reduceAdd, Nat.reduceSub, Nat.reduceMul, Nat.reduceLeDiff, Nat.reduceLT, Int.reduceEq, Int.reduceNe, Int.reduceLT, Int.reduceLE, Int.reduceGT, Int.reduceGE, Int.reduceBEq, Int.reduceBNe, ↓reduceIte] at h452
                      obtain rfl := Option.some.inj h
                      simp (config := { maxSteps := 1000000 }) (disch := first | assumption | (simp; done) | omega | (simp; omega)) only [push_cast, reduceCtorEq, Nat.reduceEqDiff, Nat.reduceAdd, Nat.reduceSub, Nat.reduceMul, Nat.reduceLeDiff, Nat.reduceLT, Int.reduceEq, Int.reduceNe, Int.reduceLT, Int.reduceLE, Int.reduceGT, Int.reduceGE, Int.reduceBEq, Int.reduceBNe, ↓reduceIte, h434, h436, h444, h445, h446, h447, h449, h450, h452]
                      refine e_ret (.inr rfl) ?_
                      simp (config := { maxSteps := 1000000 }) (disch := first | assumption | (simp; done) | omega | (simp; omega)) only [push_cast, reduceCtorEq, Nat.reduceEqDiff, Nat.reduceAdd, Nat.reduceSub, Nat.reduceMul, Nat.reduceLeDiff, Nat.reduceLT, Int.reduceEq, Int.reduceNe, Int.reduceLT, Int.reduceLE, Int.reduceGT, Int.reduceGE, Int.reduceBEq, Int.reduceBNe, ↓reduceIte, aret, aresults, aresult, h434, h436, h444, h445, h446, h447, h449, h450, h452]
                      refine ⟨_, rfl, ?_⟩
                      first | (simp (config := { maxSteps := 1000000 }) (disch := first | assumption | (simp; done) | omega | (simp; omega)) only [push_cast, reduceCtorEq, Nat.reduceEqDiff, Nat.reduceAdd, Nat.reduceSub, Nat.reduceMul, Nat.reduceLeDiff, Nat.reduceLT, Int.reduceEq, Int.reduceNe, Int.reduceLT, Int.reduceLE, Int.reduceGT, Int.reduceGE, Int.reduceBEq, Int.reduceBNe, ↓reduceIte, h434, h436, h444, h445, h446, h447, h449, h450, h452] <;> rfl) | rfl
                    · try simp (disch := first | assumption | (simp; done) | omega | (simp; omega)) only [push_cast, reduceCtorEq, Nat.reduceEqDiff, Nat.reduceAdd, Nat.reduceSub, Nat.reduceMul, Nat.reduceLeDiff, Nat.reduceLT, Int.reduceEq, Int.reduceNe, Int.reduceLT, Int.reduceLE, Int.reduceGT, Int.reduceGE, Int.reduceBEq, Int.reduceBNe, ↓reduceIte] at h452
                      obtain ⟨h453, h⟩ := F_gd h
                      try simp (disch := first | assumption | (simp; done) | omega | (simp; omega)) only [push_cast, reduceCtorEq, Nat.reduceEqDiff, Nat.reduceAdd, Nat.reduceSub, Nat.reduceMul, Nat.reduceLeDiff, Nat.reduceLT, Int.reduceEq, Int.reduceNe, Int.reduceLT, Int.reduceLE, Int.reduceGT, Int.reduceGE, Int.reduceBEq, Int.reduceBNe, ↓reduceIte] at h453
                      obtain ⟨h454, h⟩ := F_ck h
                      try simp (disch := first | assumption | (simp; done) | omega | (simp; omega)) only [push_cast, reduceCtorEq, Nat.reduceEqDiff, Nat.reduceAdd, Nat.reduceSub, Nat.reduceMul, Nat.reduceLeDiff, Nat.reduceLT, Int.reduceEq, Int.reduceNe, Int.reduceLT, Int.reduceLE, Int.reduceGT, Int.reduceGE, Int.reduceBEq, Int.reduceBNe, ↓reduceIte] at h454
                      simp (config := { maxSteps := 1000000 }) (disch := first | assumption | (simp; done) | omega | (simp; omega)) only [push_cast, reduceCtorEq, Nat.reduceEqDiff, Nat.reduceAdd, Nat.reduceSub, Nat.reduceMul, Nat.reduceLeDiff, Nat.reduceLT, Int.reduceEq, Int.reduceNe, Int.reduceLT, Int.reduceLE, Int.reduceGT, Int.reduceGE, Int.reduceBEq, Int.reduceBNe, ↓reduceIte, h434, h436, h444, h445, h446, h447, h449, h450, h452, h453, h454]
                      refine lpK_of m3 [3, 5, 7] [0, 5, 2] (by omega) (by decide) ⟨(a16 + 1), v21.1.Next, v21.1.Ahead, (a19 ++ v21.2.1), (by first | exact h | simpa only [h444] using h), ?_⟩
                      rw [wk_mk]
                      simp (config := { maxSteps := 1000000 }) (disch := first | assumption | (simp; done) | omega | (simp; omega)) only [push_cast, reduceCtorEq, Nat.reduceEqDiff, Nat.reduceAdd, Nat.reduceSub, Nat.reduceMul, Nat.reduceLeDiff, Nat.reduceLT, Int.reduceEq, Int.reduceNe, Int.reduceLT, Int.reduceLE, Int.reduceGT, Int.reduceGE, Int.reduceBEq, Int.reduceBNe, ↓reduceIte, h434, h436, h444, h445, h446, h447, h449, h450, h452, h453, h454] <;> rfl
                  · try simp (disch := first | assumption | (simp; done) | omega | (simp; omega)) only [push_cast, reduceCtorEq, Nat.reduceEqDiff, Nat.reduceAdd, Nat.reduceSub, Nat.reduceMul, Nat.reduceLeDiff, Nat.reduceLT, Int.reduceEq, Int.reduceNe, Int.reduceLT, Int.reduceLE, Int.reduceGT, Int.reduceGE, Int.reduceBEq, Int.reduceBNe, ↓reduceIte] at h446
                    obtain ⟨v22, h455, h⟩ := F_bd h
                    simp (config := { maxSteps := 1000000 }) (disch := first | assumption | (simp; done) | omega | (simp; omega)) only [push_cast, reduceCtorEq, Nat.reduceEqDiff, Nat.reduceAdd, Nat.reduceSub, Nat.reduceMul, Nat.reduceLeDiff, Nat.reduceLT, Int.reduceEq, Int.reduceNe, Int.reduceLT, Int.reduceLE, Int.reduceGT, Int.reduceGE, Int.reduceBEq, Int.reduceBNe, ↓reduceIte, h434, h436, h444, h445, h446]
                    refine call_new (by rfl) (c13 N _ _ _ h455) ?_ rfl ?_
                    · simp (config := { maxSteps := 1000000 }) (disch := first | assumption | (simp; done) | omega | (simp; omega)) only [push_cast, reduceCtorEq, Nat.reduceEqDiff, Nat.reduceAdd, Nat.reduceSub, Nat.reduceMul, Nat.reduceLeDiff, Nat.reduceLT, Int.reduceEq, Int.reduceNe, Int.reduceLT, Int.reduceLE, Int.reduceGT, Int.reduceGE, Int.reduceBEq, Int.reduceBNe, ↓reduceIte, h434, h436, h444, h445, h446] <;> rfl
                    obtain ⟨v23, h456, h⟩ := F_bd h
                    simp (config := { maxSteps := 1000000 }) (disch := first | assumption | (simp; done) | omega | (simp; omega)) only [push_cast, reduceCtorEq, Nat.reduceEqDiff, Nat.reduceAdd, Nat.reduceSub, Nat.reduceMul, Nat.reduceLeDiff, Nat.reduceLT, Int.reduceEq, Int.reduceNe, Int.reduceLT, Int.reduceLE, Int.reduceGT, Int.reduceGE, Int.reduceBEq, Int.reduceBNe, ↓reduceIte, h434, h436, h444, h445, h446]
                    refine call_new (by rfl) (c12 N _ _ _ h456) ?_ rfl ?_
                    · simp (config := { maxSteps := 1000000 }) (disch := first | assumption | (simp; done) | omega | (simp; omega)) only [push_cast, reduceCtorEq, Nat.reduceEqDiff, Nat.reduceAdd, Nat.reduceSub, Nat.reduceMul, Nat.reduceLeDiff, Nat.reduceLT, Int.reduceEq, Int.reduceNe, Int.reduceLT, Int.reduceLE, Int.reduceGT, Int.reduceGE, Int.reduceBEq, Int.reduceBNe, ↓reduceIte, h434, h436, h444, h445, h446] <;> rfl
                    obtain ⟨v24, h457, h⟩ := F_bd h
                    simp (config := { maxSteps := 1000000 }) (disch := first | assumption | (simp; done) | omega | (simp; omega)) only [push_cast, reduceCtorEq, Nat.reduceEqDiff, Nat.reduceAdd, Nat.reduceSub, Nat.reduceMul, Nat.reduceLeDiff, Nat.reduceLT, Int.reduceEq, Int.reduceNe, Int.reduceLT, Int.reduceLE, Int.reduceGT, Int.reduceGE, Int.reduceBEq, Int.reduceBNe, ↓reduceIte, h434, h436, h444, h445, h446]
                    refine call_flat (by rfl) (c9 N _ h457) ?_ rfl ?_
                    · simp (config := { maxSteps := 1000000 }) (disch := first | assumption | (simp; done) | omega | (simp; omega)) only [push_cast, reduceCtorEq, Nat.reduceEqDiff, Nat.reduceAdd, Nat.reduceSub, Nat.reduceMul, Nat.reduceLeDiff, Nat.reduceLT, Int.reduceEq, Int.reduceNe, Int.reduceLT, Int.reduceLE, Int.reduceGT, Int.reduceGE, Int.reduceBEq, Int.reduceBNe, ↓reduceIte, h434, h436, h444, h445, h446] <;> rfl
                    rcases F_if h with ⟨h458, h⟩ | ⟨h458, h⟩
                    · try simp (disch := first | assumption | (simp; done) | omega | (simp; omega)) only [push_cast, reduceCtorEq, Nat.reduceEqDiff, Nat.reduceAdd, Nat.reduceSub, Nat.reduceMul, Nat.reduceLeDiff, Nat.reduceLT, Int.reduceEq, Int.reduceNe, Int.reduceLT, Int.reduceLE, Int.reduceGT, Int.reduceGE, Int.reduceBEq, Int.reduceBNe, ↓reduceIte] at h458
                      rcases F_if h with ⟨h459, h⟩ | ⟨h459, h⟩
                      · try simp (disch := first | assumption | (simp; done) | omega | (simp; omega)) only [push_cast, reduceCtorEq, Nat.reduceEqDiff, Nat.reduceAdd, Nat.reduceSub, Nat.reduceMul, Nat.reduceLeDiff, Nat.reduceLT, Int.reduceEq, Int.reduceNe, Int.reduceLT, Int.reduceLE, Int.reduceGT, Int.reduceGE, Int.reduceBEq, Int.reduceBNe, ↓reduceIte] at h459
                        rcases F_if h with ⟨h460, h⟩ | ⟨h460, h⟩
                        · try simp (disch := first | assumption | (simp; done) | omega | (simp; omega)) only [push_cast, reduceCtorEq, Nat.reduceEqDiff, Nat.reduceAdd, Nat.reduceSub, Nat.reduceMul, Nat.reduceLeDiff, Nat.reduceLT, Int.reduceEq, Int.reduceNe, Int.reduceLT, Int.reduceLE, Int.reduceGT, Int.reduceGE, Int.reduceBEq, Int.reduceBNe, ↓reduceIte] at h460
                          rcases F_if h with ⟨h461, h⟩ | ⟨h461, h⟩
                          · try simp (disch := first | assumption | (simp; done) | omega | (simp; omega)) only [push_cast, reduceCtorEq, Nat.reduceEqDiff, Nat.reduceAdd, Nat.reduceSub, Nat.reduceMul, Nat.reduceLeDiff, Nat.reduceLT, Int.reduceEq, Int.reduceNe, Int.reduceLT, Int.reduceLE, Int.reduceGT, Int.reduceGE, Int.reduceBEq, Int.reduceBNe, ↓reduceIte] at h461
                            obtain ⟨h462, h⟩ := F_ck h
                            try simp (disch := first | assumption | (simp; done) | omega | (simp; omega)) only [push_cast, reduceCtorEq, Nat.reduceEqDiff, Nat.reduceAdd, Nat.reduceSub, Nat.reduceMul, Nat.reduceLeDiff, Nat.reduceLT, Int.reduceEq, Int.reduceNe, Int.reduceLT, Int.reduceLE, Int.reduceGT, Int.reduceGE, Int.reduceBEq, Int.reduceBNe, ↓reduceIte] at h462
                            rcases F_if h with ⟨h463, h⟩ | ⟨h463, h⟩
                            · try simp (disch := first | assumption | (simp; done) | omega | (simp; omega)) only [push_cast, reduceCtorEq, Nat.reduceEqDiff, Nat.reduceAdd, Nat.reduceSub, Nat.reduceMul, Nat.reduceLeDiff, Nat.reduceLT, Int.reduceEq, Int.reduceNe, Int.reduceLT, Int.reduceLE, Int.reduceGT, Int.reduceGE, Int.reduceBEq, Int.reduceBNe, ↓reduceIte] at h463
                              obtain ⟨v25, h464, h⟩ := F_bd h
                              simp (config := { maxSteps := 1000000 }) (disch := first | assumption | (simp; done) | omega | (simp; omega)) only [push_cast, reduceCtorEq, Nat.reduceEqDiff, Nat.reduceAdd, Nat.reduceSub, Nat.reduceMul, Nat.reduceLeDiff, Nat.reduceLT, Int.reduceEq, Int.reduceNe, Int.reduceLT, Int.reduceLE, Int.reduceGT, Int.reduceGE, Int.reduceBEq, Int.reduceBNe, ↓reduceIte, h434, h436, h444, h445, h446, h458, h459, h460, h461, h462, h463]
                              refine call_flat (by rfl) (c29 N _ _ h464) ?_ rfl ?_
                              · simp (config := { maxSteps := 1000000 }) (disch := first | assumption | (simp; done) | omega | (simp; omega)) only [push_cast, reduceCtorEq, Nat.reduceEqDiff, Nat.reduceAdd, Nat.reduceSub, Nat.reduceMul, Nat.reduceLeDiff, Nat.reduceLT, Int.reduceEq, Int.reduceNe, Int.reduceLT, Int.reduceLE, Int.reduceGT, Int.reduceGE, Int.reduceBEq, Int.reduceBNe, ↓reduceIte, h434, h436, h444, h445, h446, h458, h459, h460, h461, h462, h463] <;> rfl
                              obtain rfl := Option.some.inj h
                              simp (config := { maxSteps := 1000000 }) (disch := first | assumption | (simp; done) | omega | (simp; omega)) only [push_cast, reduceCtorEq, Nat.reduceEqDiff, Nat.reduceAdd, Nat.reduceSub, Nat.reduceMul, Nat.reduceLeDiff, Nat.reduceLT, Int.reduceEq, Int.reduceNe, Int.reduceLT, Int.reduceLE, Int.reduceGT, Int.reduceGE, Int.reduceBEq, Int.reduceBNe, ↓reduceIte, h434, h436, h444, h445, h446, h458, h459, h460, h461, h462, h463]
                              refine e_ret (.inr rfl) ?_
                              simp (config := { maxSteps := 1000000 }) (disch := first | assumption | (simp; done) | omega | (simp; omega)) only [push_cast, reduceCtorEq, Nat.reduceEqDiff, Nat.reduceAdd, Nat.reduceSub, Nat.reduceMul, Nat.reduceLeDiff, Nat.reduceLT, Int.reduceEq, Int.reduceNe, Int.reduceLT, Int.reduceLE, Int.reduceGT, Int.reduceGE, Int.reduceBEq, Int.reduceBNe, ↓reduceIte, aret, aresults, aresult, h434, h436, h444, h445, h446, h458, h459, h460, h461, h462, h463]
                              refine ⟨_, rfl, ?_⟩
                              first | (simp (config := { maxSteps := 1000000 }) (disch := first | assumption | (simp; done) | omega | (simp; omega)) only [push_cast, reduceCtorEq, Nat.reduceEqDiff, Nat.reduceAdd, Nat.reduceSub, Nat.reduceMul, Nat.reduceLeDiff, Nat.reduceLT, Int.reduceEq, Int.reduceNe, Int.reduceLT, Int.reduceLE, Int.reduceGT, Int.reduceGE, Int.reduceBEq, Int.reduceBNe, ↓reduceIte, h434, h436, h444, h445, h446, h458, h459, h460, h461, h462, h463] <;> rfl) | rfl
                            · try simp (disch := first | assumption | (simp; done) | omega | (simp; omega)) only [push_cast, reduceCtorEq, Nat.reduceEqDiff, Nat.reduceAdd, Nat.reduceSub, Nat.reduceMul, Nat.reduceLeDiff, Nat.reduceLT, Int.reduceEq, Int.reduceNe, Int.reduceLT, Int.reduceLE, Int.reduceGT, Int.reduceGE, Int.reduceBEq, Int.reduceBNe, ↓reduceIte] at h463
                              obtain rfl := Option.some.inj h
                              simp (config := { maxSteps := 1000000 }) (disch := first | assumption | (simp; done) | omega | (simp; omega)) only [push_cast, reduceCtorEq, Nat.reduceEqDiff, Nat.reduceAdd, Nat.reduceSub, Nat.reduceMul, Nat.reduceLeDiff, Nat.reduceLT, Int.reduceEq, Int.reduceNe, Int.reduceLT, Int.reduceLE, Int.reduceGT, Int.reduceGE, Int.reduceBEq, Int.reduceBNe, ↓reduceIte, h434, h436, h444, h445, h446, h458, h459, h460, h461, h462, h463]
                              refine e_ret (.inr rfl) ?_
                              simp (config := { maxSteps := 1000000 }) (disch := first | assumption | (simp; done) | omega | (simp; omega)) only [push_cast, reduceCtorEq, Nat.reduceEqDiff, Nat.reduceAdd, Nat.reduceSub, Nat.reduceMul, Nat.reduceLeDiff, Nat.reduceLT, Int.reduceEq, Int.reduceNe, Int.reduceLT, Int.reduceLE, Int.reduceGT, Int.reduceGE, Int.reduceBEq, Int.reduceBNe, ↓reduceIte, aret, aresults, aresult, h434, h436, h444, h445, h446, h458, h459, h460, h461, h462, h463]
                              refine ⟨_, rfl, ?_⟩
                              first | (simp (config := { maxSteps := 1000000 }) (disch := first | assumption | (simp; done) | omega | (simp; omega)) only [push_cast, reduceCtorEq, Nat.reduceEqDiff, Nat.reduceAdd, Nat.reduceSub, Nat.reduceMul, Nat.reduceLeDiff, Nat.reduceLT, Int.reduceEq, Int.reduceNe, Int.reduceLT, Int.reduceLE, Int.reduceGT, Int.reduceGE, Int.reduceBEq, Int.reduceBNe, ↓reduceIte, h434, h436, h444, h445, h446, h458, h459, h460, h461, h462, h463] <;> rfl) | rfl
                          · try simp (disch := first | assumption | (simp; done) | omega | (simp; omega)) only [push_cast, reduceCtorEq, Nat.reduceEqDiff, Nat.reduceAdd, Nat.reduceSub, Nat.reduceMul, Nat.reduceLeDiff, Nat.reduceLT, Int.reduceEq, Int.reduceNe, Int.reduceLT, Int.reduceLE, Int.reduceGT, Int.reduceGE, Int.reduceBEq, Int.reduceBNe, ↓reduceIte] at h461
                            obtain rfl := Option.some.inj h
                            simp (config := { maxSteps := 1000000 }) (disch := first | assumption | (simp; done) | omega | (simp; omega)) only [push_cast, reduceCtorEq, Nat.reduceEqDiff, Nat.reduceAdd, Nat.reduceSub, Nat.reduceMul, Nat.reduceLeDiff, Nat.reduceLT, Int.reduceEq, Int.reduceNe, Int.reduceLT, Int.reduceLE, Int.reduceGT, Int.reduceGE, Int.reduceBEq, Int.reduceBNe, ↓reduceIte, h434, h436, h444, h445, h446, h458, h459, h460, h461]
                            refine e_ret (.inr rfl) ?_
                            simp (config := { maxSteps := 1000000 }) (disch := first | assumption | (simp; done) | omega | (simp; omega)) only [push_cast, reduceCtorEq, Nat.reduceEqDiff, Nat.reduceAdd, Nat.reduceSub, Nat.reduceMul, Nat.reduceLeDiff, Nat.reduceLT, Int.reduceEq, Int.reduceNe, Int.reduceLT, Int.reduceLE, Int.reduceGT, Int.reduceGE, Int.reduceBEq, Int.reduceBNe, ↓reduceIte, aret, aresults, aresult, h434, h436, h444, h445, h446, h458, h459, h460, h461]
                            refine ⟨_, rfl, ?_⟩
                            first | (simp (config := { maxSteps := 1000000 }) (disch := first | assumption | (simp; done) | omega | (simp; omega)) only [push_cast, reduceCtorEq, Nat.reduceEqDiff, Nat.reduceAdd, Nat.reduceSub, Nat.reduceMul, Nat.reduceLeDiff, Nat.reduceLT, Int.reduceEq, Int.reduceNe, Int.reduceLT, Int.reduceLE, Int.reduceGT, Int.reduceGE, Int.reduceBEq, Int.reduceBNe, ↓reduceIte, h434, h436, h444, h445, h446, h458, h459, h460, h461] <;> rfl) | rfl
                        · try simp (disch := first | assumption | (simp; done) | omega | (simp; omega)) only [push_cast, reduceCtorEq, Nat.reduceEqDiff, Nat.reduceAdd, Nat.reduceSub, Nat.reduceMul, Nat.reduceLeDiff, Nat.reduceLT, Int.reduceEq, Int.reduceNe, Int.reduceLT, Int.reduceLE, Int.reduceGT, Int.reduceGE, Int.reduceBEq, Int.reduceBNe, ↓reduceIte] at h460
                          obtain rfl := Option.some.inj h
                          simp (config := { maxSteps := 1000000 }) (disch := first | assumption | (simp; done) | omega | (simp; omega)) only [push_cast, reduceCtorEq, Nat.reduceEqDiff, Nat.reduceAdd, Nat.reduceSub, Nat.reduceMul, Nat.reduceLeDiff, Nat.reduceLT, Int.reduceEq, Int.reduceNe, Int.reduceLT, Int.reduceLE, Int.reduceGT, Int.reduceGE, Int.reduceBEq, Int.reduceBNe, ↓reduceIte, h434, h436, h444, h445, h446, h458, h459, h460]
                          refine e_ret (.inr rfl) ?_
                          simp (config := { maxSteps := 1000000 }) (disch := first | assumption | (simp; done) | omega | (simp; omega)) only [push_cast, reduceCtorEq, Nat.reduceEqDiff, Nat.reduceAdd, Nat.reduceSub, Nat.reduceMul, Nat.reduceLeDiff, Nat.reduceLT, Int.reduceEq, Int.reduceNe, Int.reduceLT, Int.reduceLE, Int.reduceGT, Int.reduceGE, Int.reduceBEq, Int.reduceBNe, ↓reduceIte, aret, aresults, aresult, h434, h436, h444, h445, h446, h458, h459, h460]
                          refine ⟨_, rfl, ?_⟩
                          first | (simp (config := { maxSteps := 1000000 }) (disch := first | assumption | (simp; done) | omega | (simp; omega)) only [push_cast, reduceCtorEq, Nat.reduceEqDiff, Nat.reduceAdd, Nat.reduceSub, Nat.reduceMul, Nat.reduceLeDiff, Nat.reduceLT, Int.reduceEq, Int.reduceNe, Int.reduceLT, Int.reduceLE, Int.reduceGT, Int.reduceGE, Int.reduceBEq, Int.reduceBNe, ↓reduceIte, h434, h436, h444, h445, h446, h458, h459, h460] <;> rfl) | rfl
                      · try simp (disch := first | assumption | (simp; done) | omega | (simp; omega)) only [push_cast, reduceCtorEq, Nat.reduceEqDiff, Nat.reduceAdd, Nat.reduceSub, Nat.reduceMul, Nat.reduceLeDiff, Nat.reduceLT, Int.reduceEq, Int.reduceNe, Int.reduceLT, Int.reduceLE, Int.reduceGT, Int.reduceGE, Int.reduceBEq, Int.reduceBNe, ↓reduceIte] at h459
                        obtain rfl := Option.some.inj h
                        simp (config := { maxSteps := 1000000 }) (disch := first | assumption | (simp; done) | omega | (simp; omega)) only [push_cast, reduceCtorEq, Nat.reduceEqDiff, Nat.reduceAdd, Nat.reduceSub, Nat.reduceMul, Nat.reduceLeDiff, Nat.reduceLT, Int.reduceEq, Int.reduceNe, Int.reduceLT, Int.reduceLE, Int.reduceGT, Int.reduceGE, Int.reduceBEq, Int.reduceBNe, ↓reduceIte, h434, h436, h444, h445, h446, h458, h459]
                        refine e_ret (.inr rfl) ?_
                        simp (config := { maxSteps := 1000000 }) (disch := first | assumption | (simp; done) | omega | (simp; omega)) only [push_cast, reduceCtorEq, Nat.reduceEqDiff, Nat.reduceAdd, Nat.reduceSub, Nat.reduceMul, Nat.reduceLeDiff, Nat.reduceLT, Int.reduceEq, Int.reduceNe, Int.reduceLT, Int.reduceLE, Int.reduceGT, Int.reduceGE, Int.reduceBEq, Int.reduceBNe, ↓reduceIte, aret, aresults, aresult, h434, h436, h444, h445, h446, h458, h459]
                        refine ⟨_, rfl, ?_⟩
                        first | (simp (config := { maxSteps := 1000000 }) (disch := first | assumption | (simp; done) | omega | (simp; omega)) only [push_cast, reduceCtorEq, Nat.reduceEqDiff, Nat.reduceAdd, Nat.reduceSub, Nat.reduceMul, Nat.reduceLeDiff, Nat.reduceLT, Int.reduceEq, Int.reduceNe, Int.reduceLT, Int.reduceLE, Int.reduceGT, Int.reduceGE, Int.reduceBEq, Int.reduceBNe, ↓reduceIte, h434, h436, h444, h445, h446, h458, h459] <;> rfl) | rfl
                    · try simp (disch := first | assumption | (simp; done) | omega | (simp; omega)) only [push_cast, reduceCtorEq, Nat.reduceEqDiff, Nat.reduceAdd, Nat.reduceSub, Nat.reduceMul, Nat.reduceLeDiff, Nat.reduceLT, Int.reduceEq, Int.reduceNe, Int.reduceLT, Int.reduceLE, Int.reduceGT, Int.reduceGE, Int.reduceBEq, Int.reduceBNe, ↓reduceIte] at h458
                      obtain rfl := Option.some.inj h
                      simp (config := { maxSteps := 1000000 }) (disch := first | assumption | (simp; done) | omega | (simp; omega)) only [push_cast, reduceCtorEq, Nat.reduceEqDiff, Nat.reduceAdd, Nat.reduceSub, Nat.reduceMul, Nat.reduceLeDiff, Nat.reduceLT, Int.reduceEq, Int.reduceNe, Int.reduceLT, Int.reduceLE, Int.reduceGT, Int.reduceGE, Int.reduceBEq, Int.reduceBNe, ↓reduceIte, h434, h436, h444, h445, h446, h458]
                      refine e_ret (.inr rfl) ?_
                      simp (config := { maxSteps := 1000000 }) (disch := first | assumption | (simp; done) | omega | (simp; omega)) only [push_cast, reduceCtorEq, Nat.reduceEqDiff, Nat.reduceAdd, Nat.reduceSub, Nat.reduceMul, Nat.reduceLeDiff, Nat.reduceLT, Int.reduceEq, Int.reduceNe, Int.reduceLT, Int.reduceLE, Int.reduceGT, Int.reduceGE, Int.reduceBEq, Int.reduceBNe, ↓reduceIte, aret, aresults, aresult, h434, h436, h444, h445, h446, h458]
                      refine ⟨_, rfl, ?_⟩
                      first | (simp (config := { maxSteps := 1000000 }) (disch := first | assumption | (simp; done) | omega | (simp; omega)) only [push_cast, reduceCtorEq, Nat.reduceEqDiff, Nat.reduceAdd, Nat.reduceSub, Nat.reduceMul, Nat.reduceLeDiff, Nat.reduceLT, Int.reduceEq, Int.reduceNe, Int.reduceLT, Int.reduceLE, Int.reduceGT, Int.reduceGE, Int.reduceBEq, Int.reduceBNe, ↓reduceIte, h434, h436, h444, h445, h446, h458] <;> rfl) | rfl
end Go.Proofs.Try
