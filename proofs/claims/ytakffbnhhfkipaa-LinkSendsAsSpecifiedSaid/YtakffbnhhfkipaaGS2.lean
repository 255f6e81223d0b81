/- Printed by a program: what the functions compute, and that they do (part 2). -/
import Derived.Test.YtakffbnhhfkipaaGS1
set_option linter.unusedSimpArgs false
set_option linter.unusedVariables false
set_option maxRecDepth 8000
namespace Go.Proofs.Try
open Go.Eng Go.RowKit
/-! ## 23 rivermark.link.Receive -/
def f23g0 : List RO :=
  [⟨(.some 2), (.box (.tmp 0)), .none⟩,
   ⟨(.some 3), (.box (.tmp 1)), .none⟩,
   ⟨(.some 4), (.new [(.D (.I .i64 0)), (.fl [])]), .none⟩,
   ⟨(.some 5), (.mv (.const (.slice .none 0 0))), .none⟩,
   ⟨(.some 6), (.mv (.const (.int .i64 0))), .none⟩]
def f23g1 : List RO :=
  [⟨(.some 10), (.load (.some 2) (.tmp 2)), .none⟩,
   ⟨(.some 11), (.call (.func 22) [(.tmp 10)]), .none⟩,
   ⟨(.some 12), (.un .not (.tmp 11)), .none⟩,
   ⟨(.some 13), (.mv (.tmp 12)), .none⟩,
   ⟨(.some 14), (.faddr 1 (.tmp 3)), (.some (13, .false))⟩,
   ⟨(.some 15), (.load .none (.tmp 14)), (.some (13, .false))⟩,
   ⟨(.some 16), (.call (.func 35) [(.tmp 15), (.const (.int .i64 1099511627776))]), (.some (13, .false))⟩,
   ⟨(.some 17), (.un .not (.tmp 16)), (.some (13, .false))⟩,
   ⟨(.some 18), (.pick (.tmp 13) (.const (.bool .true)) (.tmp 17)), .none⟩,
   ⟨(.some 19), (.mv (.tmp 18)), .none⟩,
   ⟨(.some 20), (.faddr 2 (.tmp 3)), (.some (19, .false))⟩,
   ⟨(.some 21), (.load .none (.tmp 20)), (.some (19, .false))⟩,
   ⟨(.some 22), (.call (.func 31) [(.tmp 21)]), (.some (19, .false))⟩,
   ⟨(.some 23), (.un .not (.tmp 22)), (.some (19, .false))⟩,
   ⟨(.some 24), (.pick (.tmp 19) (.const (.bool .true)) (.tmp 23)), .none⟩]
def f23g2 : List RO :=
  [⟨(.some 25), (.load (.some 2) (.tmp 2)), .none⟩,
   ⟨.none, (.store 2 (.tmp 4) (.tmp 25)), .none⟩,
   ⟨(.some 5), (.mv (.const (.slice .none 0 0))), .none⟩,
   ⟨(.some 6), (.mv (.const (.int .i64 1))), .none⟩]
def f23g3 : List RO :=
  [⟨(.some 27), (.faddr 1 (.tmp 2)), .none⟩,
   ⟨(.some 28), (.load .none (.tmp 27)), .none⟩,
   ⟨(.some 29), (.faddr 1 (.tmp 3)), .none⟩,
   ⟨(.some 30), (.load .none (.tmp 29)), .none⟩,
   ⟨(.some 31), (.call (.func 39) [(.tmp 28), (.tmp 30), (.func 40)]), .none⟩,
   ⟨(.some 26), (.mv (.tmp 31)), .none⟩,
   ⟨(.some 32), (.ext (.tmp 26) 0), .none⟩,
   ⟨(.some 33), (.ext (.tmp 26) 1), .none⟩,
   ⟨(.some 7), (.mv (.tmp 32)), .none⟩,
   ⟨(.some 8), (.mv (.tmp 33)), .none⟩]
def f23g4 : List RO :=
  [⟨(.some 35), (.faddr 1 (.tmp 3)), .none⟩,
   ⟨(.some 36), (.load .none (.tmp 35)), .none⟩,
   ⟨(.some 37), (.faddr 0 (.tmp 2)), .none⟩,
   ⟨(.some 38), (.load .none (.tmp 37)), .none⟩,
   ⟨(.some 39), (.bin .lss (.tmp 36) (.tmp 38)), .none⟩,
   ⟨(.some 34), (.mv (.tmp 39)), .none⟩]
def f23g5 : List RO :=
  [⟨(.some 40), (.faddr 0 (.tmp 3)), .none⟩,
   ⟨(.some 41), (.load .none (.tmp 40)), .none⟩,
   ⟨(.some 42), (.mv (.tmp 41)), .none⟩,
   ⟨(.some 43), (.faddr 1 (.tmp 3)), (.some (42, .true))⟩,
   ⟨(.some 44), (.load .none (.tmp 43)), (.some (42, .true))⟩,
   ⟨(.some 45), (.faddr 0 (.tmp 2)), (.some (42, .true))⟩,
   ⟨(.some 46), (.load .none (.tmp 45)), (.some (42, .true))⟩,
   ⟨(.some 47), (.bin .eql (.tmp 44) (.tmp 46)), (.some (42, .true))⟩,
   ⟨(.some 48), (.pick (.tmp 42) (.tmp 47) (.const (.bool .false))), .none⟩,
   ⟨(.some 34), (.mv (.tmp 48)), .none⟩]
def f23g6 : List RO :=
  [⟨(.some 49), (.load (.some 2) (.tmp 2)), .none⟩,
   ⟨.none, (.store 2 (.tmp 4) (.tmp 49)), .none⟩,
   ⟨(.some 5), (.mv (.const (.slice .none 0 0))), .none⟩,
   ⟨(.some 6), (.mv (.const (.int .i64 0))), .none⟩]
def f23g7 : List RO :=
  [⟨(.some 51), (.faddr 0 (.tmp 3)), .none⟩,
   ⟨(.some 52), (.load .none (.tmp 51)), .none⟩,
   ⟨(.some 53), (.un .not (.tmp 52)), .none⟩,
   ⟨(.some 54), (.mv (.tmp 53)), .none⟩,
   ⟨(.some 55), (.faddr 1 (.tmp 3)), (.some (54, .true))⟩,
   ⟨(.some 56), (.load .none (.tmp 55)), (.some (54, .true))⟩,
   ⟨(.some 57), (.faddr 0 (.tmp 2)), (.some (54, .true))⟩,
   ⟨(.some 58), (.load .none (.tmp 57)), (.some (54, .true))⟩,
   ⟨(.some 59), (.bin .gtr (.tmp 56) (.tmp 58)), (.some (54, .true))⟩,
   ⟨(.some 60), (.pick (.tmp 54) (.tmp 59) (.const (.bool .false))), .none⟩,
   ⟨(.some 50), (.mv (.tmp 60)), .none⟩]
def f23g8 : List RO :=
  [⟨(.some 61), (.mv (.tmp 8)), .none⟩,
   ⟨(.some 62), (.un .not (.tmp 61)), .none⟩,
   ⟨(.some 63), (.mv (.tmp 62)), .none⟩,
   ⟨(.some 64), (.faddr 1 (.tmp 2)), (.some (63, .true))⟩,
   ⟨(.some 65), (.load .none (.tmp 64)), (.some (63, .true))⟩,
   ⟨(.some 66), (.len .false (.tmp 65)), (.some (63, .true))⟩,
   ⟨(.some 67), (.bin .lss (.tmp 66) (.const (.int .i64 64))), (.some (63, .true))⟩,
   ⟨(.some 68), (.pick (.tmp 63) (.tmp 67) (.const (.bool .false))), .none⟩]
def f23g9 : List RO :=
  [⟨(.some 69), (.faddr 1 (.tmp 2)), .none⟩,
   ⟨(.some 70), (.load .none (.tmp 69)), .none⟩,
   ⟨(.some 71), (.call (.func 42) [(.tmp 70)]), .none⟩,
   ⟨(.some 72), (.mv (.tmp 7)), .none⟩,
   ⟨(.some 73), (.load (.some 3) (.tmp 3)), .none⟩,
   ⟨(.some 74), (.bslice 3 [(.tmp 73)]), .none⟩,
   ⟨(.some 75), (.callE (.func 41) [(.tmp 71), (.tmp 72), (.tmp 74)]), .none⟩,
   ⟨(.some 76), (.faddr 1 (.tmp 2)), .none⟩,
   ⟨.none, (.store 1 (.tmp 76) (.tmp 75)), .none⟩]
def f23g10 : List RO :=
  [⟨(.some 77), (.load (.some 2) (.tmp 2)), .none⟩,
   ⟨.none, (.store 2 (.tmp 4) (.tmp 77)), .none⟩,
   ⟨(.some 5), (.mv (.const (.slice .none 0 0))), .none⟩,
   ⟨(.some 6), (.mv (.const (.int .i64 0))), .none⟩]
def f23g11 : List RO :=
  [⟨(.some 78), (.load (.some 3) (.tmp 3)), .none⟩,
   ⟨(.some 79), (.bslice 3 [(.tmp 78)]), .none⟩,
   ⟨(.some 9), (.new [(.fl [])]), .none⟩,
   ⟨.none, (.store 1 (.tmp 9) (.tmp 79)), .none⟩]
def f23g12 : List RO :=
  [⟨(.some 80), (.faddr 1 (.tmp 3)), .none⟩,
   ⟨(.some 81), (.load .none (.tmp 80)), .none⟩,
   ⟨(.some 82), (.faddr 0 (.tmp 2)), .none⟩,
   ⟨.none, (.store 1 (.tmp 82) (.tmp 81)), .none⟩]
def f23g13 : List RO :=
  [⟨(.some 83), (.faddr 0 (.tmp 3)), .none⟩,
   ⟨(.some 84), (.load .none (.tmp 83)), .none⟩,
   ⟨(.some 85), (.un .not (.tmp 84)), .none⟩]
def f23g14 : List RO :=
  [⟨(.some 86), (.faddr 0 (.tmp 2)), .none⟩,
   ⟨(.some 87), (.load .none (.tmp 86)), .none⟩,
   ⟨(.some 88), (.bin .add (.tmp 87) (.const (.int .i64 1))), .none⟩,
   ⟨(.some 89), (.faddr 0 (.tmp 2)), .none⟩,
   ⟨.none, (.store 1 (.tmp 89) (.tmp 88)), .none⟩]
def f23g15 : List RO :=
  [⟨(.some 90), (.faddr 1 (.tmp 2)), .none⟩,
   ⟨(.some 91), (.load .none (.tmp 90)), .none⟩,
   ⟨(.some 92), (.call (.func 42) [(.tmp 91)]), .none⟩,
   ⟨(.some 93), (.mkf 44 [(.tmp 2), (.tmp 9)]), .none⟩,
   ⟨(.some 94), (.callE (.func 43) [(.tmp 92), (.tmp 93)]), .none⟩,
   ⟨(.some 95), (.faddr 1 (.tmp 2)), .none⟩,
   ⟨.none, (.store 1 (.tmp 95) (.tmp 94)), .none⟩]
def f23g16 : List RO :=
  [⟨(.some 96), (.loadS (.some 2) (.tmp 2)), .none⟩,
   ⟨(.some 97), (.loadS .none (.tmp 9)), .none⟩,
   ⟨.none, (.store 2 (.tmp 4) (.tmp 96)), .none⟩,
   ⟨(.some 5), (.mv (.tmp 97)), .none⟩,
   ⟨(.some 6), (.mv (.const (.int .i64 0))), .none⟩]
def f23c : RCode := (.seq (.reg .false f23g0) (.seq (.seq (.reg .false f23g1) (.cond (.tmp 24) (.seq (.reg .false f23g2) .ret) .skip)) (.seq (.reg .false f23g3) (.seq (.block 0 (.seq (.seq (.reg .false f23g4) (.cond (.tmp 34) .skip (.reg .false f23g5))) (.cond (.tmp 34) (.seq (.reg .false f23g6) .ret) (.seq (.reg .false f23g7) (.cond (.tmp 50) (.seq (.seq (.reg .false f23g8) (.cond (.tmp 68) (.reg .true f23g9) .skip)) (.seq (.reg .false f23g10) .ret)) .skip))))) (.seq (.reg .false f23g11) (.seq (.seq (.reg .false f23g12) (.seq (.reg .false f23g13) (.cond (.tmp 85) (.reg .false f23g14) .skip))) (.seq (.reg .false f23g15) (.seq (.regS f23g16) .ret))))))))
def f23r : List RRes := [(.cell (.some 2) 4), (.tmp 5), (.tmp 6)]
attribute [push_cast] f23g0 f23g1 f23g2 f23g3 f23g4 f23g5 f23g6 f23g7 f23g8 f23g9 f23g10 f23g11 f23g12 f23g13 f23g14 f23g15 f23g16
def F23 (N : Nat) (p0 : Inbox) (p1 : Frame) : Option (Inbox × (List Frame) × Int) := bd? (F22 N p0) fun v1 => if? (v1) (bd? (F35 N p1.Seq 1099511627776) fun v2 => if? (v2) (bd? (F31 N p1.Body) fun v3 => if? (v3) (bd? (F39 N p0.Ahead p1.Seq) fun v4 => if? (decide (p1.Seq < p0.Next)) (some (p0, [], 0)) (if? (p1.Sum) (if? ((p1.Seq == p0.Next)) (some (p0, [], 0)) (bd? (F42 N p0.Ahead) fun v5 => bd? (F43 N v5 (Inbox.mk p1.Seq p0.Ahead) [p1]) fun v6 => gd? (v6.2.1.length = v5.length) (gd? (v6.1.toNat ≤ v6.2.1.length) (some ((Inbox.mk v6.2.2.1.Next (v6.2.1.take v6.1.toNat)), v6.2.2.2, 0))))) (if? (decide (p1.Seq > p0.Next)) (if? (v4.2) (some (p0, [], 0)) (if? (decide ((p0.Ahead.length : Int) < 64)) (bd? (F42 N p0.Ahead) fun v7 => bd? (F41 N v4.1 v7 [p1]) fun v8 => some ((Inbox.mk p0.Next v8), [], 0)) (some (p0, [], 0)))) (ck .i64 (p1.Seq + 1) (bd? (F42 N p0.Ahead) fun v9 => bd? (F43 N v9 (Inbox.mk (p1.Seq + 1) p0.Ahead) [p1]) fun v10 => gd? (v10.2.1.length = v9.length) (gd? (v10.1.toNat ≤ v10.2.1.length) (some ((Inbox.mk v10.2.2.1.Next (v10.2.1.take v10.1.toNat)), v10.2.2.2, 0)))))))) (some (p0, [], 1))) (some (p0, [], 1))) (some (p0, [], 1))
theorem c23 (N : Nat) (p0 : Inbox) (p1 : Frame) (r : (Inbox × (List Frame) × Int)) (h : F23 N p0 p1 = some r) : ACall Try.prog 23 [.agg [.D (.I .i64 p0.Next), .D (.L (p0.Ahead.map Frame.row))], .agg [.D (.B p1.Sum), .D (.I .i64 p1.Seq), .D (.S p1.Body)]] [] (.tup [.agg [.D (.I .i64 r.1.Next), .D (.L (r.1.Ahead.map Frame.row))], .sl (.O 0) 3 0 r.2.1.length, .D (.I .i64 r.2.2)]) [] [.row true 3 (r.2.1.map Frame.row)] := by
  refine ACall.of_bodyW [75, 94, 96, 97] (fn := Try.f23) (rc := f23c) (rs := f23r) Try.func23 rfl rfl (by kernel_rfl) (by kernel_rfl) (by kernel_rfl) (by rw [Try.ntmps23]; simp) ?_
  unfold F23 at h
  unfold f23c f23r
  rw [entry_eq _ _]
  obtain ⟨v1, h241, h⟩ := F_bd h
  simp (config := { maxSteps := 1000000 }) (disch := first | assumption | (simp; done) | omega | (simp; omega)) only [push_cast, reduceCtorEq, Nat.reduceEqDiff, Nat.reduceAdd, Nat.reduceSub, Nat.reduceMul, Nat.reduceLeDiff, Nat.reduceLT, Int.reduceEq, Int.reduceNe, Int.reduceLT, Int.reduceLE, Int.reduceGT, Int.reduceGE, Int.reduceBEq, Int.reduceBNe, ↓reduceIte]
  refine call_flat (by rfl) (c22 N _ _ h241) ?_ rfl ?_
  · simp (config := { maxSteps := 1000000 }) (disch := first | assumption | (simp; done) | omega | (simp; omega)) only [push_cast, reduceCtorEq, Nat.reduceEqDiff, Nat.reduceAdd, Nat.reduceSub, Nat.reduceMul, Nat.reduceLeDiff, Nat.reduceLT, Int.reduceEq, Int.reduceNe, Int.reduceLT, Int.reduceLE, Int.reduceGT, Int.reduceGE, Int.reduceBEq, Int.reduceBNe, ↓reduceIte] <;> rfl
  rcases F_if h with ⟨h242, h⟩ | ⟨h242, h⟩
  · try simp (disch := first | assumption | (simp; done) | omega | (simp; omega)) only [push_cast, reduceCtorEq, Nat.reduceEqDiff, Nat.reduceAdd, Nat.reduceSub, Nat.reduceMul, Nat.reduceLeDiff, Nat.reduceLT, Int.reduceEq, Int.reduceNe, Int.reduceLT, Int.reduceLE, Int.reduceGT, Int.reduceGE, Int.reduceBEq, Int.reduceBNe, ↓reduceIte] at h242
    obtain ⟨v2, h243, h⟩ := F_bd h
    simp (config := { maxSteps := 1000000 }) (disch := first | assumption | (simp; done) | omega | (simp; omega)) only [push_cast, reduceCtorEq, Nat.reduceEqDiff, Nat.reduceAdd, Nat.reduceSub, Nat.reduceMul, Nat.reduceLeDiff, Nat.reduceLT, Int.reduceEq, Int.reduceNe, Int.reduceLT, Int.reduceLE, Int.reduceGT, Int.reduceGE, Int.reduceBEq, Int.reduceBNe, ↓reduceIte, h242]
    refine call_flat (by rfl) (c35 N _ _ _ h243) ?_ rfl ?_
    · simp (config := { maxSteps := 1000000 }) (disch := first | assumption | (simp; done) | omega | (simp; omega)) only [push_cast, reduceCtorEq, Nat.reduceEqDiff, Nat.reduceAdd, Nat.reduceSub, Nat.reduceMul, Nat.reduceLeDiff, Nat.reduceLT, Int.reduceEq, Int.reduceNe, Int.reduceLT, Int.reduceLE, Int.reduceGT, Int.reduceGE, Int.reduceBEq, Int.reduceBNe, ↓reduceIte, h242] <;> rfl
    rcases F_if h with ⟨h244, h⟩ | ⟨h244, h⟩
    · try simp (disch := first | assumption | (simp; done) | omega | (simp; omega)) only [push_cast, reduceCtorEq, Nat.reduceEqDiff, Nat.reduceAdd, Nat.reduceSub, Nat.reduceMul, Nat.reduceLeDiff, Nat.reduceLT, Int.reduceEq, Int.reduceNe, Int.reduceLT, Int.reduceLE, Int.reduceGT, Int.reduceGE, Int.reduceBEq, Int.reduceBNe, ↓reduceIte] at h244
      obtain ⟨v3, h245, h⟩ := F_bd h
      simp (config := { maxSteps := 1000000 }) (disch := first | assumption | (simp; done) | omega | (simp; omega)) only [push_cast, reduceCtorEq, Nat.reduceEqDiff, Nat.reduceAdd, Nat.reduceSub, Nat.reduceMul, Nat.reduceLeDiff, Nat.reduceLT, Int.reduceEq, Int.reduceNe, Int.reduceLT, Int.reduceLE, Int.reduceGT, Int.reduceGE, Int.reduceBEq, Int.reduceBNe, ↓reduceIte, h242, h244]
      refine call_flat (by rfl) (c31 N _ _ h245) ?_ rfl ?_
      · simp (config := { maxSteps := 1000000 }) (disch := first | assumption | (simp; done) | omega | (simp; omega)) only [push_cast, reduceCtorEq, Nat.reduceEqDiff, Nat.reduceAdd, Nat.reduceSub, Nat.reduceMul, Nat.reduceLeDiff, Nat.reduceLT, Int.reduceEq, Int.reduceNe, Int.reduceLT, Int.reduceLE, Int.reduceGT, Int.reduceGE, Int.reduceBEq, Int.reduceBNe, ↓reduceIte, h242, h244] <;> rfl
      rcases F_if h with ⟨h246, h⟩ | ⟨h246, h⟩
      · try simp (disch := first | assumption | (simp; done) | omega | (simp; omega)) only [push_cast, reduceCtorEq, Nat.reduceEqDiff, Nat.reduceAdd, Nat.reduceSub, Nat.reduceMul, Nat.reduceLeDiff, Nat.reduceLT, Int.reduceEq, Int.reduceNe, Int.reduceLT, Int.reduceLE, Int.reduceGT, Int.reduceGE, Int.reduceBEq, Int.reduceBNe, ↓reduceIte] at h246
        obtain ⟨v4, h247, h⟩ := F_bd h
        simp (config := { maxSteps := 1000000 }) (disch := first | assumption | (simp; done) | omega | (simp; omega)) only [push_cast, reduceCtorEq, Nat.reduceEqDiff, Nat.reduceAdd, Nat.reduceSub, Nat.reduceMul, Nat.reduceLeDiff, Nat.reduceLT, Int.reduceEq, Int.reduceNe, Int.reduceLT, Int.reduceLE, Int.reduceGT, Int.reduceGE, Int.reduceBEq, Int.reduceBNe, ↓reduceIte, h242, h244, h246]
        refine call_flat (by rfl) (c39 N _ _ _ h247) ?_ rfl ?_
        · simp (config := { maxSteps := 1000000 }) (disch := first | assumption | (simp; done) | omega | (simp; omega)) only [push_cast, reduceCtorEq, Nat.reduceEqDiff, Nat.reduceAdd, Nat.reduceSub, Nat.reduceMul, Nat.reduceLeDiff, Nat.reduceLT, Int.reduceEq, Int.reduceNe, Int.reduceLT, Int.reduceLE, Int.reduceGT, Int.reduceGE, Int.reduceBEq, Int.reduceBNe, ↓reduceIte, h242, h244, h246] <;> rfl
        rcases F_if h with ⟨h248, h⟩ | ⟨h248, h⟩
        · try simp (disch := first | assumption | (simp; done) | omega | (simp; omega)) only [push_cast, reduceCtorEq, Nat.reduceEqDiff, Nat.reduceAdd, Nat.reduceSub, Nat.reduceMul, Nat.reduceLeDiff, Nat.reduceLT, Int.reduceEq, Int.reduceNe, Int.reduceLT, Int.reduceLE, Int.reduceGT, Int.reduceGE, Int.reduceBEq, Int.reduceBNe, ↓reduceIte] at h248
          obtain rfl := Option.some.inj h
          simp (config := { maxSteps := 1000000 }) (disch := first | assumption | (simp; done) | omega | (simp; omega)) only [push_cast, reduceCtorEq, Nat.reduceEqDiff, Nat.reduceAdd, Nat.reduceSub, Nat.reduceMul, Nat.reduceLeDiff, Nat.reduceLT, Int.reduceEq, Int.reduceNe, Int.reduceLT, Int.reduceLE, Int.reduceGT, Int.reduceGE, Int.reduceBEq, Int.reduceBNe, ↓reduceIte, h242, h244, h246, h248]
          refine end_own0 5 3 rfl ?_
          simp (config := { maxSteps := 1000000 }) (disch := first | assumption | (simp; done) | omega | (simp; omega)) only [push_cast, reduceCtorEq, Nat.reduceEqDiff, Nat.reduceAdd, Nat.reduceSub, Nat.reduceMul, Nat.reduceLeDiff, Nat.reduceLT, Int.reduceEq, Int.reduceNe, Int.reduceLT, Int.reduceLE, Int.reduceGT, Int.reduceGE, Int.reduceBEq, Int.reduceBNe, ↓reduceIte, h242, h244, h246, h248]
          refine AEndW.of [3] (.inr rfl) (by decide) rfl ?_ rfl ?_
          · simp (config := { maxSteps := 1000000 }) (disch := first | assumption | (simp; done) | omega | (simp; omega)) only [push_cast, reduceCtorEq, Nat.reduceEqDiff, Nat.reduceAdd, Nat.reduceSub, Nat.reduceMul, Nat.reduceLeDiff, Nat.reduceLT, Int.reduceEq, Int.reduceNe, Int.reduceLT, Int.reduceLE, Int.reduceGT, Int.reduceGE, Int.reduceBEq, Int.reduceBNe, ↓reduceIte, h242, h244, h246, h248] <;> rfl
          · simp (config := { maxSteps := 1000000 }) (disch := first | assumption | (simp; done) | omega | (simp; omega)) only [push_cast, reduceCtorEq, Nat.reduceEqDiff, Nat.reduceAdd, Nat.reduceSub, Nat.reduceMul, Nat.reduceLeDiff, Nat.reduceLT, Int.reduceEq, Int.reduceNe, Int.reduceLT, Int.reduceLE, Int.reduceGT, Int.reduceGE, Int.reduceBEq, Int.reduceBNe, ↓reduceIte, h242, h244, h246, h248] <;> rfl
        · try simp (disch := first | assumption | (simp; done) | omega | (simp; omega)) only [push_cast, reduceCtorEq, Nat.reduceEqDiff, Nat.reduceAdd, Nat.reduceSub, Nat.reduceMul, Nat.reduceLeDiff, Nat.reduceLT, Int.reduceEq, Int.reduceNe, Int.reduceLT, Int.reduceLE, Int.reduceGT, Int.reduceGE, Int.reduceBEq, Int.reduceBNe, ↓reduceIte] at h248
          rcases F_if h with ⟨h249, h⟩ | ⟨h249, h⟩
          · try simp (disch := first | assumption | (simp; done) | omega | (simp; omega)) only [push_cast, reduceCtorEq, Nat.reduceEqDiff, Nat.reduceAdd, Nat.reduceSub, Nat.reduceMul, Nat.reduceLeDiff, Nat.reduceLT, Int.reduceEq, Int.reduceNe, Int.reduceLT, Int.reduceLE, Int.reduceGT, Int.reduceGE, Int.reduceBEq, Int.reduceBNe, ↓reduceIte] at h249
            rcases F_if h with ⟨h250, h⟩ | ⟨h250, h⟩
            · try simp (disch := first | assumption | (simp; done) | omega | (simp; omega)) only [push_cast, reduceCtorEq, Nat.reduceEqDiff, Nat.reduceAdd, Nat.reduceSub, Nat.reduceMul, Nat.reduceLeDiff, Nat.reduceLT, Int.reduceEq, Int.reduceNe, Int.reduceLT, Int.reduceLE, Int.reduceGT, Int.reduceGE, Int.reduceBEq, Int.reduceBNe, ↓reduceIte] at h250
              obtain rfl := Option.some.inj h
              simp (config := { maxSteps := 1000000 }) (disch := first | assumption | (simp; done) | omega | (simp; omega)) only [push_cast, reduceCtorEq, Nat.reduceEqDiff, Nat.reduceAdd, Nat.reduceSub, Nat.reduceMul, Nat.reduceLeDiff, Nat.reduceLT, Int.reduceEq, Int.reduceNe, Int.reduceLT, Int.reduceLE, Int.reduceGT, Int.reduceGE, Int.reduceBEq, Int.reduceBNe, ↓reduceIte, h242, h244, h246, h248, h249, h250]
              refine end_own0 5 3 rfl ?_
              simp (config := { maxSteps := 1000000 }) (disch := first | assumption | (simp; done) | omega | (simp; omega)) only [push_cast, reduceCtorEq, Nat.reduceEqDiff, Nat.reduceAdd, Nat.reduceSub, Nat.reduceMul, Nat.reduceLeDiff, Nat.reduceLT, Int.reduceEq, Int.reduceNe, Int.reduceLT, Int.reduceLE, Int.reduceGT, Int.reduceGE, Int.reduceBEq, Int.reduceBNe, ↓reduceIte, h242, h244, h246, h248, h249, h250]
              refine AEndW.of [3] (.inr rfl) (by decide) rfl ?_ rfl ?_
              · simp (config := { maxSteps := 1000000 }) (disch := first | assumption | (simp; done) | omega | (simp; omega)) only [push_cast, reduceCtorEq, Nat.reduceEqDiff, Nat.reduceAdd, Nat.reduceSub, Nat.reduceMul, Nat.reduceLeDiff, Nat.reduceLT, Int.reduceEq, Int.reduceNe, Int.reduceLT, Int.reduceLE, Int.reduceGT, Int.reduceGE, Int.reduceBEq, Int.reduceBNe, ↓reduceIte, h242, h244, h246, h248, h249, h250] <;> rfl
              · simp (config := { maxSteps := 1000000 }) (disch := first | assumption | (simp; done) | omega | (simp; omega)) only [push_cast, reduceCtorEq, Nat.reduceEqDiff, Nat.reduceAdd, Nat.reduceSub, Nat.reduceMul, Nat.reduceLeDiff, Nat.reduceLT, Int.reduceEq, Int.reduceNe, Int.reduceLT, Int.reduceLE, Int.reduceGT, Int.reduceGE, Int.reduceBEq, Int.reduceBNe, ↓reduceIte, h242, h244, h246, h248, h249, h250] <;> rfl
            · try simp (disch := first | assumption | (simp; done) | omega | (simp; omega)) only [push_cast, reduceCtorEq, Nat.reduceEqDiff, Nat.reduceAdd, Nat.reduceSub, Nat.reduceMul, Nat.reduceLeDiff, Nat.reduceLT, Int.reduceEq, Int.reduceNe, Int.reduceLT, Int.reduceLE, Int.reduceGT, Int.reduceGE, Int.reduceBEq, Int.reduceBNe, ↓reduceIte] at h250
              obtain ⟨v5, h251, h⟩ := F_bd h
              simp (config := { maxSteps := 1000000 }) (disch := first | assumption | (simp; done) | omega | (simp; omega)) only [push_cast, reduceCtorEq, Nat.reduceEqDiff, Nat.reduceAdd, Nat.reduceSub, Nat.reduceMul, Nat.reduceLeDiff, Nat.reduceLT, Int.reduceEq, Int.reduceNe, Int.reduceLT, Int.reduceLE, Int.reduceGT, Int.reduceGE, Int.reduceBEq, Int.reduceBNe, ↓reduceIte, h242, h244, h246, h248, h249, h250]
              refine call_new (by rfl) (c42 N _ _ h251) ?_ rfl ?_
              · simp (config := { maxSteps := 1000000 }) (disch := first | assumption | (simp; done) | omega | (simp; omega)) only [push_cast, reduceCtorEq, Nat.reduceEqDiff, Nat.reduceAdd, Nat.reduceSub, Nat.reduceMul, Nat.reduceLeDiff, Nat.reduceLT, Int.reduceEq, Int.reduceNe, Int.reduceLT, Int.reduceLE, Int.reduceGT, Int.reduceGE, Int.reduceBEq, Int.reduceBNe, ↓reduceIte, h242, h244, h246, h248, h249, h250] <;> rfl
              obtain ⟨v6, h252, h⟩ := F_bd h
              simp (config := { maxSteps := 1000000 }) (disch := first | assumption | (simp; done) | omega | (simp; omega)) only [push_cast, reduceCtorEq, Nat.reduceEqDiff, Nat.reduceAdd, Nat.reduceSub, Nat.reduceMul, Nat.reduceLeDiff, Nat.reduceLT, Int.reduceEq, Int.reduceNe, Int.reduceLT, Int.reduceLE, Int.reduceGT, Int.reduceGE, Int.reduceBEq, Int.reduceBNe, ↓reduceIte, h242, h244, h246, h248, h249, h250]
              refine callE_of [.O 5, .O 0, .O 4, .O 3] (by rfl) (c43 N _ _ _ _ h252) (by decide) rfl (by simp (config := { maxSteps := 1000000 }) (disch := first | assumption | (simp; done) | omega | (simp; omega)) only [push_cast, reduceCtorEq, Nat.reduceEqDiff, Nat.reduceAdd, Nat.reduceSub, Nat.reduceMul, Nat.reduceLeDiff, Nat.reduceLT, Int.reduceEq, Int.reduceNe, Int.reduceLT, Int.reduceLE, Int.reduceGT, Int.reduceGE, Int.reduceBEq, Int.reduceBNe, ↓reduceIte] <;> rfl) (by simp (config := { maxSteps := 1000000 }) (disch := first | assumption | (simp; done) | omega | (simp; omega)) only [push_cast, reduceCtorEq, Nat.reduceEqDiff, Nat.reduceAdd, Nat.reduceSub, Nat.reduceMul, Nat.reduceLeDiff, Nat.reduceLT, Int.reduceEq, Int.reduceNe, Int.reduceLT, Int.reduceLE, Int.reduceGT, Int.reduceGE, Int.reduceBEq, Int.reduceBNe, ↓reduceIte] <;> rfl) ?_ ?_ ?_
              · simp (config := { maxSteps := 1000000 }) (disch := first | assumption | (simp; done) | omega | (simp; omega)) only [push_cast, reduceCtorEq, Nat.reduceEqDiff, Nat.reduceAdd, Nat.reduceSub, Nat.reduceMul, Nat.reduceLeDiff, Nat.reduceLT, Int.reduceEq, Int.reduceNe, Int.reduceLT, Int.reduceLE, Int.reduceGT, Int.reduceGE, Int.reduceBEq, Int.reduceBNe, ↓reduceIte, h242, h244, h246, h248, h249, h250] <;> rfl
              · simp (config := { maxSteps := 1000000 }) (disch := first | assumption | (simp; done) | omega | (simp; omega)) only [push_cast, reduceCtorEq, Nat.reduceEqDiff, Nat.reduceAdd, Nat.reduceSub, Nat.reduceMul, Nat.reduceLeDiff, Nat.reduceLT, Int.reduceEq, Int.reduceNe, Int.reduceLT, Int.reduceLE, Int.reduceGT, Int.reduceGE, Int.reduceBEq, Int.reduceBNe, ↓reduceIte, h242, h244, h246, h248, h249, h250] <;> rfl
              obtain ⟨h253, h⟩ := F_gd h
              try simp (disch := first | assumption | (simp; done) | omega | (simp; omega)) only [push_cast, reduceCtorEq, Nat.reduceEqDiff, Nat.reduceAdd, Nat.reduceSub, Nat.reduceMul, Nat.reduceLeDiff, Nat.reduceLT, Int.reduceEq, Int.reduceNe, Int.reduceLT, Int.reduceLE, Int.reduceGT, Int.reduceGE, Int.reduceBEq, Int.reduceBNe, ↓reduceIte] at h253
              obtain ⟨h254, h⟩ := F_gd h
              try simp (disch := first | assumption | (simp; done) | omega | (simp; omega)) only [push_cast, reduceCtorEq, Nat.reduceEqDiff, Nat.reduceAdd, Nat.reduceSub, Nat.reduceMul, Nat.reduceLeDiff, Nat.reduceLT, Int.reduceEq, Int.reduceNe, Int.reduceLT, Int.reduceLE, Int.reduceGT, Int.reduceGE, Int.reduceBEq, Int.reduceBNe, ↓reduceIte] at h254
              simp (config := { maxSteps := 1000000 }) (disch := first | assumption | (simp; done) | omega | (simp; omega)) only [push_cast, reduceCtorEq, Nat.reduceEqDiff, Nat.reduceAdd, Nat.reduceSub, Nat.reduceMul, Nat.reduceLeDiff, Nat.reduceLT, Int.reduceEq, Int.reduceNe, Int.reduceLT, Int.reduceLE, Int.reduceGT, Int.reduceGE, Int.reduceBEq, Int.reduceBNe, ↓reduceIte, h242, h244, h246, h248, h249, h250, h253, h254]
              refine regS_of [.O 0, .O 4] ?_
              obtain rfl := Option.some.inj h
              simp (config := { maxSteps := 1000000 }) (disch := first | assumption | (simp; done) | omega | (simp; omega)) only [push_cast, reduceCtorEq, Nat.reduceEqDiff, Nat.reduceAdd, Nat.reduceSub, Nat.reduceMul, Nat.reduceLeDiff, Nat.reduceLT, Int.reduceEq, Int.reduceNe, Int.reduceLT, Int.reduceLE, Int.reduceGT, Int.reduceGE, Int.reduceBEq, Int.reduceBNe, ↓reduceIte, h242, h244, h246, h248, h249, h250, h253, h254]
              refine AEndW.of [6] (.inr rfl) (by decide) rfl ?_ rfl ?_
              · simp (config := { maxSteps := 1000000 }) (disch := first | assumption | (simp; done) | omega | (simp; omega)) only [push_cast, reduceCtorEq, Nat.reduceEqDiff, Nat.reduceAdd, Nat.reduceSub, Nat.reduceMul, Nat.reduceLeDiff, Nat.reduceLT, Int.reduceEq, Int.reduceNe, Int.reduceLT, Int.reduceLE, Int.reduceGT, Int.reduceGE, Int.reduceBEq, Int.reduceBNe, ↓reduceIte, h242, h244, h246, h248, h249, h250, h253, h254] <;> rfl
              · simp (config := { maxSteps := 1000000 }) (disch := first | assumption | (simp; done) | omega | (simp; omega)) only [push_cast, reduceCtorEq, Nat.reduceEqDiff, Nat.reduceAdd, Nat.reduceSub, Nat.reduceMul, Nat.reduceLeDiff, Nat.reduceLT, Int.reduceEq, Int.reduceNe, Int.reduceLT, Int.reduceLE, Int.reduceGT, Int.reduceGE, Int.reduceBEq, Int.reduceBNe, ↓reduceIte, h242, h244, h246, h248, h249, h250, h253, h254] <;> rfl
          · try simp (disch := first | assumption | (simp; done) | omega | (simp; omega)) only [push_cast, reduceCtorEq, Nat.reduceEqDiff, Nat.reduceAdd, Nat.reduceSub, Nat.reduceMul, Nat.reduceLeDiff, Nat.reduceLT, Int.reduceEq, Int.reduceNe, Int.reduceLT, Int.reduceLE, Int.reduceGT, Int.reduceGE, Int.reduceBEq, Int.reduceBNe, ↓reduceIte] at h249
            rcases F_if h with ⟨h255, h⟩ | ⟨h255, h⟩
            · try simp (disch := first | assumption | (simp; done) | omega | (simp; omega)) only [push_cast, reduceCtorEq, Nat.reduceEqDiff, Nat.reduceAdd, Nat.reduceSub, Nat.reduceMul, Nat.reduceLeDiff, Nat.reduceLT, Int.reduceEq, Int.reduceNe, Int.reduceLT, Int.reduceLE, Int.reduceGT, Int.reduceGE, Int.reduceBEq, Int.reduceBNe, ↓reduceIte] at h255
              rcases F_if h with ⟨h256, h⟩ | ⟨h256, h⟩
              · try simp (disch := first | assumption | (simp; done) | omega | (simp; omega)) only [push_cast, reduceCtorEq, Nat.reduceEqDiff, Nat.reduceAdd, Nat.reduceSub, Nat.reduceMul, Nat.reduceLeDiff, Nat.reduceLT, Int.reduceEq, Int.reduceNe, Int.reduceLT, Int.reduceLE, Int.reduceGT, Int.reduceGE, Int.reduceBEq, Int.reduceBNe, ↓reduceIte] at h256
                obtain rfl := Option.some.inj h
                simp (config := { maxSteps := 1000000 }) (disch := first | assumption | (simp; done) | omega | (simp; omega)) only [push_cast, reduceCtorEq, Nat.reduceEqDiff, Nat.reduceAdd, Nat.reduceSub, Nat.reduceMul, Nat.reduceLeDiff, Nat.reduceLT, Int.reduceEq, Int.reduceNe, Int.reduceLT, Int.reduceLE, Int.reduceGT, Int.reduceGE, Int.reduceBEq, Int.reduceBNe, ↓reduceIte, h242, h244, h246, h248, h249, h255, h256]
                refine end_own0 5 3 rfl ?_
                simp (config := { maxSteps := 1000000 }) (disch := first | assumption | (simp; done) | omega | (simp; omega)) only [push_cast, reduceCtorEq, Nat.reduceEqDiff, Nat.reduceAdd, Nat.reduceSub, Nat.reduceMul, Nat.reduceLeDiff, Nat.reduceLT, Int.reduceEq, Int.reduceNe, Int.reduceLT, Int.reduceLE, Int.reduceGT, Int.reduceGE, Int.reduceBEq, Int.reduceBNe, ↓reduceIte, h242, h244, h246, h248, h249, h255, h256]
                refine AEndW.of [3] (.inr rfl) (by decide) rfl ?_ rfl ?_
                · simp (config := { maxSteps := 1000000 }) (disch := first | assumption | (simp; done) | omega | (simp; omega)) only [push_cast, reduceCtorEq, Nat.reduceEqDiff, Nat.reduceAdd, Nat.reduceSub, Nat.reduceMul, Nat.reduceLeDiff, Nat.reduceLT, Int.reduceEq, Int.reduceNe, Int.reduceLT, Int.reduceLE, Int.reduceGT, Int.reduceGE, Int.reduceBEq, Int.reduceBNe, ↓reduceIte, h242, h244, h246, h248, h249, h255, h256] <;> rfl
                · simp (config := { maxSteps := 1000000 }) (disch := first | assumption | (simp; done) | omega | (simp; omega)) only [push_cast, reduceCtorEq, Nat.reduceEqDiff, Nat.reduceAdd, Nat.reduceSub, Nat.reduceMul, Nat.reduceLeDiff, Nat.reduceLT, Int.reduceEq, Int.reduceNe, Int.reduceLT, Int.reduceLE, Int.reduceGT, Int.reduceGE, Int.reduceBEq, Int.reduceBNe, ↓reduceIte, h242, h244, h246, h248, h249, h255, h256] <;> rfl
              · try simp (disch := first | assumption | (simp; done) | omega | (simp; omega)) only [push_cast, reduceCtorEq, Nat.reduceEqDiff, Nat.reduceAdd, Nat.reduceSub, Nat.reduceMul, Nat.reduceLeDiff, Nat.reduceLT, Int.reduceEq, Int.reduceNe, Int.reduceLT, Int.reduceLE, Int.reduceGT, Int.reduceGE, Int.reduceBEq, Int.reduceBNe, ↓reduceIte] at h256
                rcases F_if h with ⟨h257, h⟩ | ⟨h257, h⟩
                · try simp (disch := first | assumption | (simp; done) | omega | (simp; omega)) only [push_cast, reduceCtorEq, Nat.reduceEqDiff, Nat.reduceAdd, Nat.reduceSub, Nat.reduceMul, Nat.reduceLeDiff, Nat.reduceLT, Int.reduceEq, Int.reduceNe, Int.reduceLT, Int.reduceLE, Int.reduceGT, Int.reduceGE, Int.reduceBEq, Int.reduceBNe, ↓reduceIte] at h257
                  obtain ⟨v7, h258, h⟩ := F_bd h
                  simp (config := { maxSteps := 1000000 }) (disch := first | assumption | (simp; done) | omega | (simp; omega)) only [push_cast, reduceCtorEq, Nat.reduceEqDiff, Nat.reduceAdd, Nat.reduceSub, Nat.reduceMul, Nat.reduceLeDiff, Nat.reduceLT, Int.reduceEq, Int.reduceNe, Int.reduceLT, Int.reduceLE, Int.reduceGT, Int.reduceGE, Int.reduceBEq, Int.reduceBNe, ↓reduceIte, h242, h244, h246, h248, h249, h255, h256, h257]
                  refine call_new (by rfl) (c42 N _ _ h258) ?_ rfl ?_
                  · simp (config := { maxSteps := 1000000 }) (disch := first | assumption | (simp; done) | omega | (simp; omega)) only [push_cast, reduceCtorEq, Nat.reduceEqDiff, Nat.reduceAdd, Nat.reduceSub, Nat.reduceMul, Nat.reduceLeDiff, Nat.reduceLT, Int.reduceEq, Int.reduceNe, Int.reduceLT, Int.reduceLE, Int.reduceGT, Int.reduceGE, Int.reduceBEq, Int.reduceBNe, ↓reduceIte, h242, h244, h246, h248, h249, h255, h256, h257] <;> rfl
                  obtain ⟨v8, h259, h⟩ := F_bd h
                  simp (config := { maxSteps := 1000000 }) (disch := first | assumption | (simp; done) | omega | (simp; omega)) only [push_cast, reduceCtorEq, Nat.reduceEqDiff, Nat.reduceAdd, Nat.reduceSub, Nat.reduceMul, Nat.reduceLeDiff, Nat.reduceLT, Int.reduceEq, Int.reduceNe, Int.reduceLT, Int.reduceLE, Int.reduceGT, Int.reduceGE, Int.reduceBEq, Int.reduceBNe, ↓reduceIte, h242, h244, h246, h248, h249, h255, h256, h257]
                  refine callE_of [.O 3, .O 4] (by rfl) (c41 N _ _ _ _ h259) (by decide) rfl (by simp (config := { maxSteps := 1000000 }) (disch := first | assumption | (simp; done) | omega | (simp; omega)) only [push_cast, reduceCtorEq, Nat.reduceEqDiff, Nat.reduceAdd, Nat.reduceSub, Nat.reduceMul, Nat.reduceLeDiff, Nat.reduceLT, Int.reduceEq, Int.reduceNe, Int.reduceLT, Int.reduceLE, Int.reduceGT, Int.reduceGE, Int.reduceBEq, Int.reduceBNe, ↓reduceIte] <;> rfl) (by simp (config := { maxSteps := 1000000 }) (disch := first | assumption | (simp; done) | omega | (simp; omega)) only [push_cast, reduceCtorEq, Nat.reduceEqDiff, Nat.reduceAdd, Nat.reduceSub, Nat.reduceMul, Nat.reduceLeDiff, Nat.reduceLT, Int.reduceEq, Int.reduceNe, Int.reduceLT, Int.reduceLE, Int.reduceGT, Int.reduceGE, Int.reduceBEq, Int.reduceBNe, ↓reduceIte] <;> rfl) ?_ ?_ ?_
                  · simp (config := { maxSteps := 1000000 }) (disch := first | assumption | (simp; done) | omega | (simp; omega)) only [push_cast, reduceCtorEq, Nat.reduceEqDiff, Nat.reduceAdd, Nat.reduceSub, Nat.reduceMul, Nat.reduceLeDiff, Nat.reduceLT, Int.reduceEq, Int.reduceNe, Int.reduceLT, Int.reduceLE, Int.reduceGT, Int.reduceGE, Int.reduceBEq, Int.reduceBNe, ↓reduceIte, h242, h244, h246, h248, h249, h255, h256, h257] <;> rfl
                  · simp (config := { maxSteps := 1000000 }) (disch := first | assumption | (simp; done) | omega | (simp; omega)) only [push_cast, reduceCtorEq, Nat.reduceEqDiff, Nat.reduceAdd, Nat.reduceSub, Nat.reduceMul, Nat.reduceLeDiff, Nat.reduceLT, Int.reduceEq, Int.reduceNe, Int.reduceLT, Int.reduceLE, Int.reduceGT, Int.reduceGE, Int.reduceBEq, Int.reduceBNe, ↓reduceIte, h242, h244, h246, h248, h249, h255, h256, h257] <;> rfl
                  obtain rfl := Option.some.inj h
                  simp (config := { maxSteps := 1000000 }) (disch := first | assumption | (simp; done) | omega | (simp; omega)) only [push_cast, reduceCtorEq, Nat.reduceEqDiff, Nat.reduceAdd, Nat.reduceSub, Nat.reduceMul, Nat.reduceLeDiff, Nat.reduceLT, Int.reduceEq, Int.reduceNe, Int.reduceLT, Int.reduceLE, Int.reduceGT, Int.reduceGE, Int.reduceBEq, Int.reduceBNe, ↓reduceIte, h242, h244, h246, h248, h249, h255, h256, h257]
                  refine end_own0 5 3 rfl ?_
                  simp (config := { maxSteps := 1000000 }) (disch := first | assumption | (simp; done) | omega | (simp; omega)) only [push_cast, reduceCtorEq, Nat.reduceEqDiff, Nat.reduceAdd, Nat.reduceSub, Nat.reduceMul, Nat.reduceLeDiff, Nat.reduceLT, Int.reduceEq, Int.reduceNe, Int.reduceLT, Int.reduceLE, Int.reduceGT, Int.reduceGE, Int.reduceBEq, Int.reduceBNe, ↓reduceIte, h242, h244, h246, h248, h249, h255, h256, h257]
                  refine AEndW.of [6] (.inr rfl) (by decide) rfl ?_ rfl ?_
                  · simp (config := { maxSteps := 1000000 }) (disch := first | assumption | (simp; done) | omega | (simp; omega)) only [push_cast, reduceCtorEq, Nat.reduceEqDiff, Nat.reduceAdd, Nat.reduceSub, Nat.reduceMul, Nat.reduceLeDiff, Nat.reduceLT, Int.reduceEq, Int.reduceNe, Int.reduceLT, Int.reduceLE, Int.reduceGT, Int.reduceGE, Int.reduceBEq, Int.reduceBNe, ↓reduceIte, h242, h244, h246, h248, h249, h255, h256, h257] <;> rfl
                  · simp (config := { maxSteps := 1000000 }) (disch := first | assumption | (simp; done) | omega | (simp; omega)) only [push_cast, reduceCtorEq, Nat.reduceEqDiff, Nat.reduceAdd, Nat.reduceSub, Nat.reduceMul, Nat.reduceLeDiff, Nat.reduceLT, Int.reduceEq, Int.reduceNe, Int.reduceLT, Int.reduceLE, Int.reduceGT, Int.reduceGE, Int.reduceBEq, Int.reduceBNe, ↓reduceIte, h242, h244, h246, h248, h249, h255, h256, h257] <;> rfl
                · try simp (disch := first | assumption | (simp; done) | omega | (simp; omega)) only [push_cast, reduceCtorEq, Nat.reduceEqDiff, Nat.reduceAdd, Nat.reduceSub, Nat.reduceMul, Nat.reduceLeDiff, Nat.reduceLT, Int.reduceEq, Int.reduceNe, Int.reduceLT, Int.reduceLE, Int.reduceGT, Int.reduceGE, Int.reduceBEq, Int.reduceBNe, ↓reduceIte] at h257
                  obtain rfl := Option.some.inj h
                  simp (config := { maxSteps := 1000000 }) (disch := first | assumption | (simp; done) | omega | (simp; omega)) only [push_cast, reduceCtorEq, Nat.reduceEqDiff, Nat.reduceAdd, Nat.reduceSub, Nat.reduceMul, Nat.reduceLeDiff, Nat.reduceLT, Int.reduceEq, Int.reduceNe, Int.reduceLT, Int.reduceLE, Int.reduceGT, Int.reduceGE, Int.reduceBEq, Int.reduceBNe, ↓reduceIte, h242, h244, h246, h248, h249, h255, h256, h257]
                  refine end_own0 5 3 rfl ?_
                  simp (config := { maxSteps := 1000000 }) (disch := first | assumption | (simp; done) | omega | (simp; omega)) only [push_cast, reduceCtorEq, Nat.reduceEqDiff, Nat.reduceAdd, Nat.reduceSub, Nat.reduceMul, Nat.reduceLeDiff, Nat.reduceLT, Int.reduceEq, Int.reduceNe, Int.reduceLT, Int.reduceLE, Int.reduceGT, Int.reduceGE, Int.reduceBEq, Int.reduceBNe, ↓reduceIte, h242, h244, h246, h248, h249, h255, h256, h257]
                  refine AEndW.of [3] (.inr rfl) (by decide) rfl ?_ rfl ?_
                  · simp (config := { maxSteps := 1000000 }) (disch := first | assumption | (simp; done) | omega | (simp; omega)) only [push_cast, reduceCtorEq, Nat.reduceEqDiff, Nat.reduceAdd, Nat.reduceSub, Nat.reduceMul, Nat.reduceLeDiff, Nat.reduceLT, Int.reduceEq, Int.reduceNe, Int.reduceLT, Int.reduceLE, Int.reduceGT, Int.reduceGE, Int.reduceBEq, Int.reduceBNe, ↓reduceIte, h242, h244, h246, h248, h249, h255, h256, h257] <;> rfl
                  · simp (config := { maxSteps := 1000000 }) (disch := first | assumption | (simp; done) | omega | (simp; omega)) only [push_cast, reduceCtorEq, Nat.reduceEqDiff, Nat.reduceAdd, Nat.reduceSub, Nat.reduceMul, Nat.reduceLeDiff, Nat.reduceLT, Int.reduceEq, Int.reduceNe, Int.reduceLT, Int.reduceLE, Int.reduceGT, Int.reduceGE, Int.reduceBEq, Int.reduceBNe, ↓reduceIte, h242, h244, h246, h248, h249, h255, h256, h257] <;> rfl
            · try simp (disch := first | assumption | (simp; done) | omega | (simp; omega)) only [push_cast, reduceCtorEq, Nat.reduceEqDiff, Nat.reduceAdd, Nat.reduceSub, Nat.reduceMul, Nat.reduceLeDiff, Nat.reduceLT, Int.reduceEq, Int.reduceNe, Int.reduceLT, Int.reduceLE, Int.reduceGT, Int.reduceGE, Int.reduceBEq, Int.reduceBNe, ↓reduceIte] at h255
              obtain ⟨h260, h⟩ := F_ck h
              try simp (disch := first | assumption | (simp; done) | omega | (simp; omega)) only [push_cast, reduceCtorEq, Nat.reduceEqDiff, Nat.reduceAdd, Nat.reduceSub, Nat.reduceMul, Nat.reduceLeDiff, Nat.reduceLT, Int.reduceEq, Int.reduceNe, Int.reduceLT, Int.reduceLE, Int.reduceGT, Int.reduceGE, Int.reduceBEq, Int.reduceBNe, ↓reduceIte] at h260
              obtain ⟨v9, h261, h⟩ := F_bd h
              simp (config := { maxSteps := 1000000 }) (disch := first | assumption | (simp; done) | omega | (simp; omega)) only [push_cast, reduceCtorEq, Nat.reduceEqDiff, Nat.reduceAdd, Nat.reduceSub, Nat.reduceMul, Nat.reduceLeDiff, Nat.reduceLT, Int.reduceEq, Int.reduceNe, Int.reduceLT, Int.reduceLE, Int.reduceGT, Int.reduceGE, Int.reduceBEq, Int.reduceBNe, ↓reduceIte, h242, h244, h246, h248, h249, h255, h260]
              refine call_new (by rfl) (c42 N _ _ h261) ?_ rfl ?_
              · simp (config := { maxSteps := 1000000 }) (disch := first | assumption | (simp; done) | omega | (simp; omega)) only [push_cast, reduceCtorEq, Nat.reduceEqDiff, Nat.reduceAdd, Nat.reduceSub, Nat.reduceMul, Nat.reduceLeDiff, Nat.reduceLT, Int.reduceEq, Int.reduceNe, Int.reduceLT, Int.reduceLE, Int.reduceGT, Int.reduceGE, Int.reduceBEq, Int.reduceBNe, ↓reduceIte, h242, h244, h246, h248, h249, h255, h260] <;> rfl
              obtain ⟨v10, h262, h⟩ := F_bd h
              simp (config := { maxSteps := 1000000 }) (disch := first | assumption | (simp; done) | omega | (simp; omega)) only [push_cast, reduceCtorEq, Nat.reduceEqDiff, Nat.reduceAdd, Nat.reduceSub, Nat.reduceMul, Nat.reduceLeDiff, Nat.reduceLT, Int.reduceEq, Int.reduceNe, Int.reduceLT, Int.reduceLE, Int.reduceGT, Int.reduceGE, Int.reduceBEq, Int.reduceBNe, ↓reduceIte, h242, h244, h246, h248, h249, h255, h260]
              refine callE_of [.O 5, .O 0, .O 4, .O 3] (by rfl) (c43 N _ _ _ _ h262) (by decide) rfl (by simp (config := { maxSteps := 1000000 }) (disch := first | assumption | (simp; done) | omega | (simp; omega)) only [push_cast, reduceCtorEq, Nat.reduceEqDiff, Nat.reduceAdd, Nat.reduceSub, Nat.reduceMul, Nat.reduceLeDiff, Nat.reduceLT, Int.reduceEq, Int.reduceNe, Int.reduceLT, Int.reduceLE, Int.reduceGT, Int.reduceGE, Int.reduceBEq, Int.reduceBNe, ↓reduceIte] <;> rfl) (by simp (config := { maxSteps := 1000000 }) (disch := first | assumption | (simp; done) | omega | (simp; omega)) only [push_cast, reduceCtorEq, Nat.reduceEqDiff, Nat.reduceAdd, Nat.reduceSub, Nat.reduceMul, Nat.reduceLeDiff, Nat.reduceLT, Int.reduceEq, Int.reduceNe, Int.reduceLT, Int.reduceLE, Int.reduceGT, Int.reduceGE, Int.reduceBEq, Int.reduceBNe, ↓reduceIte] <;> rfl) ?_ ?_ ?_
              · simp (config := { maxSteps := 1000000 }) (disch := first | assumption | (simp; done) | omega | (simp; omega)) only [push_cast, reduceCtorEq, Nat.reduceEqDiff, Nat.reduceAdd, Nat.reduceSub, Nat.reduceMul, Nat.reduceLeDiff, Nat.reduceLT, Int.reduceEq, Int.reduceNe, Int.reduceLT, Int.reduceLE, Int.reduceGT, Int.reduceGE, Int.reduceBEq, Int.reduceBNe, ↓reduceIte, h242, h244, h246, h248, h249, h255, h260] <;> rfl
              · simp (config := { maxSteps := 1000000 }) (disch := first | assumption | (simp; done) | omega | (simp; omega)) only [push_cast, reduceCtorEq, Nat.reduceEqDiff, Nat.reduceAdd, Nat.reduceSub, Nat.reduceMul, Nat.reduceLeDiff, Nat.reduceLT, Int.reduceEq, Int.reduceNe, Int.reduceLT, Int.reduceLE, Int.reduceGT, Int.reduceGE, Int.reduceBEq, Int.reduceBNe, ↓reduceIte, h242, h244, h246, h248, h249, h255, h260] <;> rfl
              obtain ⟨h263, h⟩ := F_gd h
              try simp (disch := first | assumption | (simp; done) | omega | (simp; omega)) only [push_cast, reduceCtorEq, Nat.reduceEqDiff, Nat.reduceAdd, Nat.reduceSub, Nat.reduceMul, Nat.reduceLeDiff, Nat.reduceLT, Int.reduceEq, Int.reduceNe, Int.reduceLT, Int.reduceLE, Int.reduceGT, Int.reduceGE, Int.reduceBEq, Int.reduceBNe, ↓reduceIte] at h263
              obtain ⟨h264, h⟩ := F_gd h
              try simp (disch := first | assumption | (simp; done) | omega | (simp; omega)) only [push_cast, reduceCtorEq, Nat.reduceEqDiff, Nat.reduceAdd, Nat.reduceSub, Nat.reduceMul, Nat.reduceLeDiff, Nat.reduceLT, Int.reduceEq, Int.reduceNe, Int.reduceLT, Int.reduceLE, Int.reduceGT, Int.reduceGE, Int.reduceBEq, Int.reduceBNe, ↓reduceIte] at h264
              simp (config := { maxSteps := 1000000 }) (disch := first | assumption | (simp; done) | omega | (simp; omega)) only [push_cast, reduceCtorEq, Nat.reduceEqDiff, Nat.reduceAdd, Nat.reduceSub, Nat.reduceMul, Nat.reduceLeDiff, Nat.reduceLT, Int.reduceEq, Int.reduceNe, Int.reduceLT, Int.reduceLE, Int.reduceGT, Int.reduceGE, Int.reduceBEq, Int.reduceBNe, ↓reduceIte, h242, h244, h246, h248, h249, h255, h260, h263, h264]
              refine regS_of [.O 0, .O 4] ?_
              obtain rfl := Option.some.inj h
              simp (config := { maxSteps := 1000000 }) (disch := first | assumption | (simp; done) | omega | (simp; omega)) only [push_cast, reduceCtorEq, Nat.reduceEqDiff, Nat.reduceAdd, Nat.reduceSub, Nat.reduceMul, Nat.reduceLeDiff, Nat.reduceLT, Int.reduceEq, Int.reduceNe, Int.reduceLT, Int.reduceLE, Int.reduceGT, Int.reduceGE, Int.reduceBEq, Int.reduceBNe, ↓reduceIte, h242, h244, h246, h248, h249, h255, h260, h263, h264]
              refine AEndW.of [6] (.inr rfl) (by decide) rfl ?_ rfl ?_
              · simp (config := { maxSteps := 1000000 }) (disch := first | assumption | (simp; done) | omega | (simp; omega)) only [push_cast, reduceCtorEq, Nat.reduceEqDiff, Nat.reduceAdd, Nat.reduceSub, Nat.reduceMul, Nat.reduceLeDiff, Nat.reduceLT, Int.reduceEq, Int.reduceNe, Int.reduceLT, Int.reduceLE, Int.reduceGT, Int.reduceGE, Int.reduceBEq, Int.reduceBNe, ↓reduceIte, h242, h244, h246, h248, h249, h255, h260, h263, h264] <;> rfl
              · simp (config := { maxSteps := 1000000 }) (disch := first | assumption | (simp; done) | omega | (simp; omega)) only [push_cast, reduceCtorEq, Nat.reduceEqDiff, Nat.reduceAdd, Nat.reduceSub, Nat.reduceMul, Nat.reduceLeDiff, Nat.reduceLT, Int.reduceEq, Int.reduceNe, Int.reduceLT, Int.reduceLE, Int.reduceGT, Int.reduceGE, Int.reduceBEq, Int.reduceBNe, ↓reduceIte, h242, h244, h246, h248, h249, h255, h260, h263, h264] <;> rfl
      · try simp (disch := first | assumption | (simp; done) | omega | (simp; omega)) only [push_cast, reduceCtorEq, Nat.reduceEqDiff, Nat.reduceAdd, Nat.reduceSub, Nat.reduceMul, Nat.reduceLeDiff, Nat.reduceLT, Int.reduceEq, Int.reduceNe, Int.reduceLT, Int.reduceLE, Int.reduceGT, Int.reduceGE, Int.reduceBEq, Int.reduceBNe, ↓reduceIte] at h246
        obtain rfl := Option.some.inj h
        simp (config := { maxSteps := 1000000 }) (disch := first | assumption | (simp; done) | omega | (simp; omega)) only [push_cast, reduceCtorEq, Nat.reduceEqDiff, Nat.reduceAdd, Nat.reduceSub, Nat.reduceMul, Nat.reduceLeDiff, Nat.reduceLT, Int.reduceEq, Int.reduceNe, Int.reduceLT, Int.reduceLE, Int.reduceGT, Int.reduceGE, Int.reduceBEq, Int.reduceBNe, ↓reduceIte, h242, h244, h246]
        refine end_own0 5 3 rfl ?_
        simp (config := { maxSteps := 1000000 }) (disch := first | assumption | (simp; done) | omega | (simp; omega)) only [push_cast, reduceCtorEq, Nat.reduceEqDiff, Nat.reduceAdd, Nat.reduceSub, Nat.reduceMul, Nat.reduceLeDiff, Nat.reduceLT, Int.reduceEq, Int.reduceNe, Int.reduceLT, Int.reduceLE, Int.reduceGT, Int.reduceGE, Int.reduceBEq, Int.reduceBNe, ↓reduceIte, h242, h244, h246]
        refine AEndW.of [3] (.inr rfl) (by decide) rfl ?_ rfl ?_
        · simp (config := { maxSteps := 1000000 }) (disch := first | assumption | (simp; done) | omega | (simp; omega)) only [push_cast, reduceCtorEq, Nat.reduceEqDiff, Nat.reduceAdd, Nat.reduceSub, Nat.reduceMul, Nat.reduceLeDiff, Nat.reduceLT, Int.reduceEq, Int.reduceNe, Int.reduceLT, Int.reduceLE, Int.reduceGT, Int.reduceGE, Int.reduceBEq, Int.reduceBNe, ↓reduceIte, h242, h244, h246] <;> rfl
        · simp (config := { maxSteps := 1000000 }) (disch := first | assumption | (simp; done) | omega | (simp; omega)) only [push_cast, reduceCtorEq, Nat.reduceEqDiff, Nat.reduceAdd, Nat.reduceSub, Nat.reduceMul, Nat.reduceLeDiff, Nat.reduceLT, Int.reduceEq, Int.reduceNe, Int.reduceLT, Int.reduceLE, Int.reduceGT, Int.reduceGE, Int.reduceBEq, Int.reduceBNe, ↓reduceIte, h242, h244, h246] <;> rfl
    · try simp (disch := first | assumption | (simp; done) | omega | (simp; omega)) only [push_cast, reduceCtorEq, Nat.reduceEqDiff, Nat.reduceAdd, Nat.reduceSub, Nat.reduceMul, Nat.reduceLeDiff, Nat.reduceLT, Int.reduceEq, Int.reduceNe, Int.reduceLT, Int.reduceLE, Int.reduceGT, Int.reduceGE, Int.reduceBEq, Int.reduceBNe, ↓reduceIte] at h244
      obtain rfl := Option.some.inj h
      simp (config := { maxSteps := 1000000 }) (disch := first | assumption | (simp; done) | omega | (simp; omega)) only [push_cast, reduceCtorEq, Nat.reduceEqDiff, Nat.reduceAdd, Nat.reduceSub, Nat.reduceMul, Nat.reduceLeDiff, Nat.reduceLT, Int.reduceEq, Int.reduceNe, Int.reduceLT, Int.reduceLE, Int.reduceGT, Int.reduceGE, Int.reduceBEq, Int.reduceBNe, ↓reduceIte, h242, h244]
      refine end_own0 5 3 rfl ?_
      simp (config := { maxSteps := 1000000 }) (disch := first | assumption | (simp; done) | omega | (simp; omega)) only [push_cast, reduceCtorEq, Nat.reduceEqDiff, Nat.reduceAdd, Nat.reduceSub, Nat.reduceMul, Nat.reduceLeDiff, Nat.reduceLT, Int.reduceEq, Int.reduceNe, Int.reduceLT, Int.reduceLE, Int.reduceGT, Int.reduceGE, Int.reduceBEq, Int.reduceBNe, ↓reduceIte, h242, h244]
      refine AEndW.of [3] (.inr rfl) (by decide) rfl ?_ rfl ?_
      · simp (config := { maxSteps := 1000000 }) (disch := first | assumption | (simp; done) | omega | (simp; omega)) only [push_cast, reduceCtorEq, Nat.reduceEqDiff, Nat.reduceAdd, Nat.reduceSub, Nat.reduceMul, Nat.reduceLeDiff, Nat.reduceLT, Int.reduceEq, Int.reduceNe, Int.reduceLT, Int.reduceLE, Int.reduceGT, Int.reduceGE, Int.reduceBEq, Int.reduceBNe, ↓reduceIte, h242, h244] <;> rfl
      · simp (config := { maxSteps := 1000000 }) (disch := first | assumption | (simp; done) | omega | (simp; omega)) only [push_cast, reduceCtorEq, Nat.reduceEqDiff, Nat.reduceAdd, Nat.reduceSub, Nat.reduceMul, Nat.reduceLeDiff, Nat.reduceLT, Int.reduceEq, Int.reduceNe, Int.reduceLT, Int.reduceLE, Int.reduceGT, Int.reduceGE, Int.reduceBEq, Int.reduceBNe, ↓reduceIte, h242, h244] <;> rfl
  · try simp (disch := first | assumption | (simp; done) | omega | (simp; omega)) only [push_cast, reduceCtorEq, Nat.reduceEqDiff, Nat.reduceAdd, Nat.reduceSub, Nat.reduceMul, Nat.reduceLeDiff, Nat.reduceLT, Int.reduceEq, Int.reduceNe, Int.reduceLT, Int.reduceLE, Int.reduceGT, Int.reduceGE, Int.reduceBEq, Int.reduceBNe, ↓reduceIte] at h242
    obtain rfl := Option.some.inj h
    simp (config := { maxSteps := 1000000 }) (disch := first | assumption | (simp; done) | omega | (simp; omega)) only [push_cast, reduceCtorEq, Nat.reduceEqDiff, Nat.reduceAdd, Nat.reduceSub, Nat.reduceMul, Nat.reduceLeDiff, Nat.reduceLT, Int.reduceEq, Int.reduceNe, Int.reduceLT, Int.reduceLE, Int.reduceGT, Int.reduceGE, Int.reduceBEq, Int.reduceBNe, ↓reduceIte, h242]
    refine end_own0 5 3 rfl ?_
    simp (config := { maxSteps := 1000000 }) (disch := first | assumption | (simp; done) | omega | (simp; omega)) only [push_cast, reduceCtorEq, Nat.reduceEqDiff, Nat.reduceAdd, Nat.reduceSub, Nat.reduceMul, Nat.reduceLeDiff, Nat.reduceLT, Int.reduceEq, Int.reduceNe, Int.reduceLT, Int.reduceLE, Int.reduceGT, Int.reduceGE, Int.reduceBEq, Int.reduceBNe, ↓reduceIte, h242]
    refine AEndW.of [3] (.inr rfl) (by decide) rfl ?_ rfl ?_
    · simp (config := { maxSteps := 1000000 }) (disch := first | assumption | (simp; done) | omega | (simp; omega)) only [push_cast, reduceCtorEq, Nat.reduceEqDiff, Nat.reduceAdd, Nat.reduceSub, Nat.reduceMul, Nat.reduceLeDiff, Nat.reduceLT, Int.reduceEq, Int.reduceNe, Int.reduceLT, Int.reduceLE, Int.reduceGT, Int.reduceGE, Int.reduceBEq, Int.reduceBNe, ↓reduceIte, h242] <;> rfl
    · simp (config := { maxSteps := 1000000 }) (disch := first | assumption | (simp; done) | omega | (simp; omega)) only [push_cast, reduceCtorEq, Nat.reduceEqDiff, Nat.reduceAdd, Nat.reduceSub, Nat.reduceMul, Nat.reduceLeDiff, Nat.reduceLT, Int.reduceEq, Int.reduceNe, Int.reduceLT, Int.reduceLE, Int.reduceGT, Int.reduceGE, Int.reduceBEq, Int.reduceBNe, ↓reduceIte, h242] <;> rfl

/-! ## 13 rivermark.link.Acknowledge -/
def f13g0 : List RO :=
  [⟨(.some 2), (.box (.tmp 0)), .none⟩,
   ⟨(.some 4), (.new [(.D (.I .i64 0)), (.D (.I .i64 0)), (.D (.S [])), (.fl [])]), .none⟩,
   ⟨(.some 5), (.mv (.const (.int .i64 0))), .none⟩]
def f13g1 : List RO :=
  [⟨(.some 7), (.load (.some 4) (.tmp 2)), .none⟩,
   ⟨(.some 8), (.call (.func 18) [(.tmp 7)]), .none⟩,
   ⟨(.some 9), (.un .not (.tmp 8)), .none⟩,
   ⟨(.some 6), (.mv (.tmp 9)), .none⟩]
def f13g2 : List RO :=
  [⟨(.some 10), (.mv (.tmp 1)), .none⟩,
   ⟨(.some 11), (.load (.some 4) (.tmp 2)), .none⟩,
   ⟨(.some 12), (.call (.func 32) [(.tmp 11)]), .none⟩,
   ⟨(.some 13), (.call (.func 35) [(.tmp 10), (.tmp 12)]), .none⟩,
   ⟨(.some 14), (.un .not (.tmp 13)), .none⟩,
   ⟨(.some 6), (.mv (.tmp 14)), .none⟩]
def f13g3 : List RO :=
  [⟨(.some 15), (.build [(.D (.I .i64 0)), (.D (.I .i64 0)), (.D (.S [])), (.fl [])] []), .none⟩,
   ⟨.none, (.store 4 (.tmp 4) (.tmp 15)), .none⟩,
   ⟨(.some 5), (.mv (.const (.int .i64 1))), .none⟩]
def f13g4 : List RO :=
  [⟨(.some 17), (.mv (.tmp 1)), .none⟩,
   ⟨(.some 18), (.faddr 1 (.tmp 2)), .none⟩,
   ⟨(.some 19), (.load .none (.tmp 18)), .none⟩,
   ⟨(.some 20), (.bin .leq (.tmp 17) (.tmp 19)), .none⟩,
   ⟨(.some 16), (.mv (.tmp 20)), .none⟩]
def f13g5 : List RO :=
  [⟨(.some 21), (.load (.some 4) (.tmp 2)), .none⟩,
   ⟨.none, (.store 4 (.tmp 4) (.tmp 21)), .none⟩,
   ⟨(.some 5), (.mv (.const (.int .i64 0))), .none⟩]
def f13g6 : List RO :=
  [⟨(.some 22), (.mv (.tmp 1)), .none⟩,
   ⟨(.some 23), (.faddr 1 (.tmp 2)), .none⟩,
   ⟨.none, (.store 1 (.tmp 23) (.tmp 22)), .none⟩]
def f13g7 : List RO :=
  [⟨(.some 24), (.mv (.tmp 1)), .none⟩,
   ⟨(.some 25), (.faddr 0 (.tmp 2)), .none⟩,
   ⟨(.some 26), (.load .none (.tmp 25)), .none⟩,
   ⟨(.some 27), (.bin .gtr (.tmp 24) (.tmp 26)), .none⟩]
def f13g8 : List RO :=
  [⟨(.some 28), (.faddr 3 (.tmp 2)), .none⟩,
   ⟨(.some 29), (.load .none (.tmp 28)), .none⟩,
   ⟨(.some 30), (.mv (.tmp 1)), .none⟩,
   ⟨(.some 31), (.faddr 0 (.tmp 2)), .none⟩,
   ⟨(.some 32), (.load .none (.tmp 31)), .none⟩,
   ⟨(.some 33), (.bin .sub (.tmp 30) (.tmp 32)), .none⟩,
   ⟨(.some 34), (.sll 1 (.tmp 29) (.some (.tmp 33)) .none .none), .none⟩,
   ⟨(.some 35), (.mv (.tmp 1)), .none⟩,
   ⟨(.some 36), (.faddr 3 (.tmp 2)), .none⟩,
   ⟨.none, (.store 1 (.tmp 36) (.tmp 34)), .none⟩,
   ⟨(.some 37), (.faddr 0 (.tmp 2)), .none⟩,
   ⟨.none, (.store 1 (.tmp 37) (.tmp 35)), .none⟩,
   ⟨(.some 38), (.faddr 2 (.tmp 2)), .none⟩,
   ⟨.none, (.store 1 (.tmp 38) (.const (.string ⟨#[]⟩))), .none⟩]
def f13g9 : List RO :=
  [⟨(.some 39), (.load (.some 4) (.tmp 2)), .none⟩,
   ⟨.none, (.store 4 (.tmp 4) (.tmp 39)), .none⟩,
   ⟨(.some 5), (.mv (.const (.int .i64 0))), .none⟩]
def f13c : RCode := (.seq (.reg .false f13g0) (.seq (.block 0 (.seq (.seq (.reg .false f13g1) (.cond (.tmp 6) .skip (.reg .false f13g2))) (.cond (.tmp 6) (.seq (.reg .false f13g3) .ret) (.seq (.reg .false f13g4) (.cond (.tmp 16) (.seq (.reg .false f13g5) .ret) .skip))))) (.seq (.seq (.reg .false f13g6) (.seq (.reg .false f13g7) (.cond (.tmp 27) (.reg .false f13g8) .skip))) (.seq (.reg .false f13g9) .ret))))
def f13r : List RRes := [(.cell (.some 4) 4), (.tmp 5)]
attribute [push_cast] f13g0 f13g1 f13g2 f13g3 f13g4 f13g5 f13g6 f13g7 f13g8 f13g9
def F13 (N : Nat) (p0 : Outbox) (p1 : Int) : Option (Outbox × Int) := bd? (F18 N p0) fun v1 => if? (v1) (bd? (F32 N p0) fun v2 => bd? (F35 N p1 v2) fun v3 => if? (v3) (if? (decide (p1 ≤ p0.Acked)) (some (p0, 0)) (if? (decide (p1 > p0.Base)) (ck .i64 (p1 - p0.Base) (gd? (0 ≤ (p1 - p0.Base)) (gd? ((p1 - p0.Base).toNat ≤ p0.Queue.length) (some ((Outbox.mk p1 p1 ([] : Str) ((p0.Queue.drop (p1 - p0.Base).toNat).take (p0.Queue.length - (p1 - p0.Base).toNat))), 0))))) (some ((Outbox.mk p0.Base p1 p0.Summary p0.Queue), 0)))) (some ((Outbox.mk 0 0 ([] : Str) []), 1))) (some ((Outbox.mk 0 0 ([] : Str) []), 1))
theorem c13 (N : Nat) (p0 : Outbox) (p1 : Int) (r : (Outbox × Int)) (h : F13 N p0 p1 = some r) : ACall Try.prog 13 [.agg [.D (.I .i64 p0.Base), .D (.I .i64 p0.Acked), .D (.S p0.Summary), .D (.L (p0.Queue.map rS))], .D (.I .i64 p1)] [] (.tup [.agg [.D (.I .i64 r.1.Base), .D (.I .i64 r.1.Acked), .D (.S r.1.Summary), .D (.L (r.1.Queue.map rS))], .D (.I .i64 r.2)]) [] [] := by
  refine ACall.of_bodyW [] (fn := Try.f13) (rc := f13c) (rs := f13r) Try.func13 rfl rfl (by kernel_rfl) (by kernel_rfl) (by kernel_rfl) (by rw [Try.ntmps13]; simp) ?_
  unfold F13 at h
  unfold f13c f13r
  rw [entry_eq _ _]
  obtain ⟨v1, h265, h⟩ := F_bd h
  simp (config := { maxSteps := 1000000 }) (disch := first | assumption | (simp; done) | omega | (simp; omega)) only [push_cast, reduceCtorEq, Nat.reduceEqDiff, Nat.reduceAdd, Nat.reduceSub, Nat.reduceMul, Nat.reduceLeDiff, Nat.reduceLT, Int.reduceEq, Int.reduceNe, Int.reduceLT, Int.reduceLE, Int.reduceGT, Int.reduceGE, Int.reduceBEq, Int.reduceBNe, ↓reduceIte]
  refine call_flat (by rfl) (c18 N _ _ h265) ?_ rfl ?_
  · simp (config := { maxSteps := 1000000 }) (disch := first | assumption | (simp; done) | omega | (simp; omega)) only [push_cast, reduceCtorEq, Nat.reduceEqDiff, Nat.reduceAdd, Nat.reduceSub, Nat.reduceMul, Nat.reduceLeDiff, Nat.reduceLT, Int.reduceEq, Int.reduceNe, Int.reduceLT, Int.reduceLE, Int.reduceGT, Int.reduceGE, Int.reduceBEq, Int.reduceBNe, ↓reduceIte] <;> rfl
  rcases F_if h with ⟨h266, h⟩ | ⟨h266, h⟩
  · try simp (disch := first | assumption | (simp; done) | omega | (simp; omega)) only [push_cast, reduceCtorEq, Nat.reduceEqDiff, Nat.reduceAdd, Nat.reduceSub, Nat.reduceMul, Nat.reduceLeDiff, Nat.reduceLT, Int.reduceEq, Int.reduceNe, Int.reduceLT, Int.reduceLE, Int.reduceGT, Int.reduceGE, Int.reduceBEq, Int.reduceBNe, ↓reduceIte] at h266
    obtain ⟨v2, h267, h⟩ := F_bd h
    simp (config := { maxSteps := 1000000 }) (disch := first | assumption | (simp; done) | omega | (simp; omega)) only [push_cast, reduceCtorEq, Nat.reduceEqDiff, Nat.reduceAdd, Nat.reduceSub, Nat.reduceMul, Nat.reduceLeDiff, Nat.reduceLT, Int.reduceEq, Int.reduceNe, Int.reduceLT, Int.reduceLE, Int.reduceGT, Int.reduceGE, Int.reduceBEq, Int.reduceBNe, ↓reduceIte, h266]
    refine call_flat (by rfl) (c32 N _ _ h267) ?_ rfl ?_
    · simp (config := { maxSteps := 1000000 }) (disch := first | assumption | (simp; done) | omega | (simp; omega)) only [push_cast, reduceCtorEq, Nat.reduceEqDiff, Nat.reduceAdd, Nat.reduceSub, Nat.reduceMul, Nat.reduceLeDiff, Nat.reduceLT, Int.reduceEq, Int.reduceNe, Int.reduceLT, Int.reduceLE, Int.reduceGT, Int.reduceGE, Int.reduceBEq, Int.reduceBNe, ↓reduceIte, h266] <;> rfl
    obtain ⟨v3, h268, h⟩ := F_bd h
    simp (config := { maxSteps := 1000000 }) (disch := first | assumption | (simp; done) | omega | (simp; omega)) only [push_cast, reduceCtorEq, Nat.reduceEqDiff, Nat.reduceAdd, Nat.reduceSub, Nat.reduceMul, Nat.reduceLeDiff, Nat.reduceLT, Int.reduceEq, Int.reduceNe, Int.reduceLT, Int.reduceLE, Int.reduceGT, Int.reduceGE, Int.reduceBEq, Int.reduceBNe, ↓reduceIte, h266]
    refine call_flat (by rfl) (c35 N _ _ _ h268) ?_ rfl ?_
    · simp (config := { maxSteps := 1000000 }) (disch := first | assumption | (simp; done) | omega | (simp; omega)) only [push_cast, reduceCtorEq, Nat.reduceEqDiff, Nat.reduceAdd, Nat.reduceSub, Nat.reduceMul, Nat.reduceLeDiff, Nat.reduceLT, Int.reduceEq, Int.reduceNe, Int.reduceLT, Int.reduceLE, Int.reduceGT, Int.reduceGE, Int.reduceBEq, Int.reduceBNe, ↓reduceIte, h266] <;> rfl
    rcases F_if h with ⟨h269, h⟩ | ⟨h269, h⟩
    · try simp (disch := first | assumption | (simp; done) | omega | (simp; omega)) only [push_cast, reduceCtorEq, Nat.reduceEqDiff, Nat.reduceAdd, Nat.reduceSub, Nat.reduceMul, Nat.reduceLeDiff, Nat.reduceLT, Int.reduceEq, Int.reduceNe, Int.reduceLT, Int.reduceLE, Int.reduceGT, Int.reduceGE, Int.reduceBEq, Int.reduceBNe, ↓reduceIte] at h269
      rcases F_if h with ⟨h270, h⟩ | ⟨h270, h⟩
      · try simp (disch := first | assumption | (simp; done) | omega | (simp; omega)) only [push_cast, reduceCtorEq, Nat.reduceEqDiff, Nat.reduceAdd, Nat.reduceSub, Nat.reduceMul, Nat.reduceLeDiff, Nat.reduceLT, Int.reduceEq, Int.reduceNe, Int.reduceLT, Int.reduceLE, Int.reduceGT, Int.reduceGE, Int.reduceBEq, Int.reduceBNe, ↓reduceIte] at h270
        obtain rfl := Option.some.inj h
        simp (config := { maxSteps := 1000000 }) (disch := first | assumption | (simp; done) | omega | (simp; omega)) only [push_cast, reduceCtorEq, Nat.reduceEqDiff, Nat.reduceAdd, Nat.reduceSub, Nat.reduceMul, Nat.reduceLeDiff, Nat.reduceLT, Int.reduceEq, Int.reduceNe, Int.reduceLT, Int.reduceLE, Int.reduceGT, Int.reduceGE, Int.reduceBEq, Int.reduceBNe, ↓reduceIte, h266, h269, h270]
        refine e_ret (.inr rfl) ?_
        simp (config := { maxSteps := 1000000 }) (disch := first | assumption | (simp; done) | omega | (simp; omega)) only [push_cast, reduceCtorEq, Nat.reduceEqDiff, Nat.reduceAdd, Nat.reduceSub, Nat.reduceMul, Nat.reduceLeDiff, Nat.reduceLT, Int.reduceEq, Int.reduceNe, Int.reduceLT, Int.reduceLE, Int.reduceGT, Int.reduceGE, Int.reduceBEq, Int.reduceBNe, ↓reduceIte, aret, aresults, aresult, h266, h269, h270]
        refine ⟨_, rfl, ?_⟩
        first | (simp (config := { maxSteps := 1000000 }) (disch := first | assumption | (simp; done) | omega | (simp; omega)) only [push_cast, reduceCtorEq, Nat.reduceEqDiff, Nat.reduceAdd, Nat.reduceSub, Nat.reduceMul, Nat.reduceLeDiff, Nat.reduceLT, Int.reduceEq, Int.reduceNe, Int.reduceLT, Int.reduceLE, Int.reduceGT, Int.reduceGE, Int.reduceBEq, Int.reduceBNe, ↓reduceIte, h266, h269, h270] <;> rfl) | rfl
      · try simp (disch := first | assumption | (simp; done) | omega | (simp; omega)) only [push_cast, reduceCtorEq, Nat.reduceEqDiff, Nat.reduceAdd, Nat.reduceSub, Nat.reduceMul, Nat.reduceLeDiff, Nat.reduceLT, Int.reduceEq, Int.reduceNe, Int.reduceLT, Int.reduceLE, Int.reduceGT, Int.reduceGE, Int.reduceBEq, Int.reduceBNe, ↓reduceIte] at h270
        rcases F_if h with ⟨h271, h⟩ | ⟨h271, h⟩
        · try simp (disch := first | assumption | (simp; done) | omega | (simp; omega)) only [push_cast, reduceCtorEq, Nat.reduceEqDiff, Nat.reduceAdd, Nat.reduceSub, Nat.reduceMul, Nat.reduceLeDiff, Nat.reduceLT, Int.reduceEq, Int.reduceNe, Int.reduceLT, Int.reduceLE, Int.reduceGT, Int.reduceGE, Int.reduceBEq, Int.reduceBNe, ↓reduceIte] at h271
          obtain ⟨h272, h⟩ := F_ck h
          try simp (disch := first | assumption | (simp; done) | omega | (simp; omega)) only [push_cast, reduceCtorEq, Nat.reduceEqDiff, Nat.reduceAdd, Nat.reduceSub, Nat.reduceMul, Nat.reduceLeDiff, Nat.reduceLT, Int.reduceEq, Int.reduceNe, Int.reduceLT, Int.reduceLE, Int.reduceGT, Int.reduceGE, Int.reduceBEq, Int.reduceBNe, ↓reduceIte] at h272
          obtain ⟨h273, h⟩ := F_gd h
          try simp (disch := first | assumption | (simp; done) | omega | (simp; omega)) only [push_cast, reduceCtorEq, Nat.reduceEqDiff, Nat.reduceAdd, Nat.reduceSub, Nat.reduceMul, Nat.reduceLeDiff, Nat.reduceLT, Int.reduceEq, Int.reduceNe, Int.reduceLT, Int.reduceLE, Int.reduceGT, Int.reduceGE, Int.reduceBEq, Int.reduceBNe, ↓reduceIte] at h273
          obtain ⟨h274, h⟩ := F_gd h
          try simp (disch := first | assumption | (simp; done) | omega | (simp; omega)) only [push_cast, reduceCtorEq, Nat.reduceEqDiff, Nat.reduceAdd, Nat.reduceSub, Nat.reduceMul, Nat.reduceLeDiff, Nat.reduceLT, Int.reduceEq, Int.reduceNe, Int.reduceLT, Int.reduceLE, Int.reduceGT, Int.reduceGE, Int.reduceBEq, Int.reduceBNe, ↓reduceIte] at h274
          obtain rfl := Option.some.inj h
          simp (config := { maxSteps := 1000000 }) (disch := first | assumption | (simp; done) | omega | (simp; omega)) only [push_cast, reduceCtorEq, Nat.reduceEqDiff, Nat.reduceAdd, Nat.reduceSub, Nat.reduceMul, Nat.reduceLeDiff, Nat.reduceLT, Int.reduceEq, Int.reduceNe, Int.reduceLT, Int.reduceLE, Int.reduceGT, Int.reduceGE, Int.reduceBEq, Int.reduceBNe, ↓reduceIte, h266, h269, h270, h271, h272, h273, h274]
          refine e_ret (.inr rfl) ?_
          simp (config := { maxSteps := 1000000 }) (disch := first | assumption | (simp; done) | omega | (simp; omega)) only [push_cast, reduceCtorEq, Nat.reduceEqDiff, Nat.reduceAdd, Nat.reduceSub, Nat.reduceMul, Nat.reduceLeDiff, Nat.reduceLT, Int.reduceEq, Int.reduceNe, Int.reduceLT, Int.reduceLE, Int.reduceGT, Int.reduceGE, Int.reduceBEq, Int.reduceBNe, ↓reduceIte, aret, aresults, aresult, h266, h269, h270, h271, h272, h273, h274]
          refine ⟨_, rfl, ?_⟩
          first | (simp (config := { maxSteps := 1000000 }) (disch := first | assumption | (simp; done) | omega | (simp; omega)) only [push_cast, reduceCtorEq, Nat.reduceEqDiff, Nat.reduceAdd, Nat.reduceSub, Nat.reduceMul, Nat.reduceLeDiff, Nat.reduceLT, Int.reduceEq, Int.reduceNe, Int.reduceLT, Int.reduceLE, Int.reduceGT, Int.reduceGE, Int.reduceBEq, Int.reduceBNe, ↓reduceIte, h266, h269, h270, h271, h272, h273, h274] <;> rfl) | rfl
        · try simp (disch := first | assumption | (simp; done) | omega | (simp; omega)) only [push_cast, reduceCtorEq, Nat.reduceEqDiff, Nat.reduceAdd, Nat.reduceSub, Nat.reduceMul, Nat.reduceLeDiff, Nat.reduceLT, Int.reduceEq, Int.reduceNe, Int.reduceLT, Int.reduceLE, Int.reduceGT, Int.reduceGE, Int.reduceBEq, Int.reduceBNe, ↓reduceIte] at h271
          obtain rfl := Option.some.inj h
          simp (config := { maxSteps := 1000000 }) (disch := first | assumption | (simp; done) | omega | (simp; omega)) only [push_cast, reduceCtorEq, Nat.reduceEqDiff, Nat.reduceAdd, Nat.reduceSub, Nat.reduceMul, Nat.reduceLeDiff, Nat.reduceLT, Int.reduceEq, Int.reduceNe, Int.reduceLT, Int.reduceLE, Int.reduceGT, Int.reduceGE, Int.reduceBEq, Int.reduceBNe, ↓reduceIte, h266, h269, h270, h271]
          refine e_ret (.inr rfl) ?_
          simp (config := { maxSteps := 1000000 }) (disch := first | assumption | (simp; done) | omega | (simp; omega)) only [push_cast, reduceCtorEq, Nat.reduceEqDiff, Nat.reduceAdd, Nat.reduceSub, Nat.reduceMul, Nat.reduceLeDiff, Nat.reduceLT, Int.reduceEq, Int.reduceNe, Int.reduceLT, Int.reduceLE, Int.reduceGT, Int.reduceGE, Int.reduceBEq, Int.reduceBNe, ↓reduceIte, aret, aresults, aresult, h266, h269, h270, h271]
          refine ⟨_, rfl, ?_⟩
          first | (simp (config := { maxSteps := 1000000 }) (disch := first | assumption | (simp; done) | omega | (simp; omega)) only [push_cast, reduceCtorEq, Nat.reduceEqDiff, Nat.reduceAdd, Nat.reduceSub, Nat.reduceMul, Nat.reduceLeDiff, Nat.reduceLT, Int.reduceEq, Int.reduceNe, Int.reduceLT, Int.reduceLE, Int.reduceGT, Int.reduceGE, Int.reduceBEq, Int.reduceBNe, ↓reduceIte, h266, h269, h270, h271] <;> rfl) | rfl
    · try simp (disch := first | assumption | (simp; done) | omega | (simp; omega)) only [push_cast, reduceCtorEq, Nat.reduceEqDiff, Nat.reduceAdd, Nat.reduceSub, Nat.reduceMul, Nat.reduceLeDiff, Nat.reduceLT, Int.reduceEq, Int.reduceNe, Int.reduceLT, Int.reduceLE, Int.reduceGT, Int.reduceGE, Int.reduceBEq, Int.reduceBNe, ↓reduceIte] at h269
      obtain rfl := Option.some.inj h
      simp (config := { maxSteps := 1000000 }) (disch := first | assumption | (simp; done) | omega | (simp; omega)) only [push_cast, reduceCtorEq, Nat.reduceEqDiff, Nat.reduceAdd, Nat.reduceSub, Nat.reduceMul, Nat.reduceLeDiff, Nat.reduceLT, Int.reduceEq, Int.reduceNe, Int.reduceLT, Int.reduceLE, Int.reduceGT, Int.reduceGE, Int.reduceBEq, Int.reduceBNe, ↓reduceIte, h266, h269]
      refine e_ret (.inr rfl) ?_
      simp (config := { maxSteps := 1000000 }) (disch := first | assumption | (simp; done) | omega | (simp; omega)) only [push_cast, reduceCtorEq, Nat.reduceEqDiff, Nat.reduceAdd, Nat.reduceSub, Nat.reduceMul, Nat.reduceLeDiff, Nat.reduceLT, Int.reduceEq, Int.reduceNe, Int.reduceLT, Int.reduceLE, Int.reduceGT, Int.reduceGE, Int.reduceBEq, Int.reduceBNe, ↓reduceIte, aret, aresults, aresult, h266, h269]
      refine ⟨_, rfl, ?_⟩
      first | (simp (config := { maxSteps := 1000000 }) (disch := first | assumption | (simp; done) | omega | (simp; omega)) only [push_cast, reduceCtorEq, Nat.reduceEqDiff, Nat.reduceAdd, Nat.reduceSub, Nat.reduceMul, Nat.reduceLeDiff, Nat.reduceLT, Int.reduceEq, Int.reduceNe, Int.reduceLT, Int.reduceLE, Int.reduceGT, Int.reduceGE, Int.reduceBEq, Int.reduceBNe, ↓reduceIte, h266, h269] <;> rfl) | rfl
  · try simp (disch := first | assumption | (simp; done) | omega | (simp; omega)) only [push_cast, reduceCtorEq, Nat.reduceEqDiff, Nat.reduceAdd, Nat.reduceSub, Nat.reduceMul, Nat.reduceLeDiff, Nat.reduceLT, Int.reduceEq, Int.reduceNe, Int.reduceLT, Int.reduceLE, Int.reduceGT, Int.reduceGE, Int.reduceBEq, Int.reduceBNe, ↓reduceIte] at h266
    obtain rfl := Option.some.inj h
    simp (config := { maxSteps := 1000000 }) (disch := first | assumption | (simp; done) | omega | (simp; omega)) only [push_cast, reduceCtorEq, Nat.reduceEqDiff, Nat.reduceAdd, Nat.reduceSub, Nat.reduceMul, Nat.reduceLeDiff, Nat.reduceLT, Int.reduceEq, Int.reduceNe, Int.reduceLT, Int.reduceLE, Int.reduceGT, Int.reduceGE, Int.reduceBEq, Int.reduceBNe, ↓reduceIte, h266]
    refine e_ret (.inr rfl) ?_
    simp (config := { maxSteps := 1000000 }) (disch := first | assumption | (simp; done) | omega | (simp; omega)) only [push_cast, reduceCtorEq, Nat.reduceEqDiff, Nat.reduceAdd, Nat.reduceSub, Nat.reduceMul, Nat.reduceLeDiff, Nat.reduceLT, Int.reduceEq, Int.reduceNe, Int.reduceLT, Int.reduceLE, Int.reduceGT, Int.reduceGE, Int.reduceBEq, Int.reduceBNe, ↓reduceIte, aret, aresults, aresult, h266]
    refine ⟨_, rfl, ?_⟩
    first | (simp (config := { maxSteps := 1000000 }) (disch := first | assumption | (simp; done) | omega | (simp; omega)) only [push_cast, reduceCtorEq, Nat.reduceEqDiff, Nat.reduceAdd, Nat.reduceSub, Nat.reduceMul, Nat.reduceLeDiff, Nat.reduceLT, Int.reduceEq, Int.reduceNe, Int.reduceLT, Int.reduceLE, Int.reduceGT, Int.reduceGE, Int.reduceBEq, Int.reduceBNe, ↓reduceIte, h266] <;> rfl) | rfl

/-! ## 11 rivermark.link.Fold -/
def f11g0 : List RO :=
  [⟨(.some 3), (.box (.tmp 0)), .none⟩,
   ⟨(.some 6), (.new [(.D (.I .i64 0)), (.D (.I .i64 0)), (.D (.S [])), (.fl [])]), .none⟩,
   ⟨(.some 7), (.mv (.const (.int .i64 0))), .none⟩]
def f11g1 : List RO :=
  [⟨(.some 8), (.load (.some 4) (.tmp 3)), .none⟩,
   ⟨(.some 9), (.call (.func 18) [(.tmp 8)]), .none⟩,
   ⟨(.some 10), (.un .not (.tmp 9)), .none⟩,
   ⟨(.some 11), (.mv (.tmp 10)), .none⟩,
   ⟨(.some 12), (.mv (.tmp 1)), (.some (11, .false))⟩,
   ⟨(.some 13), (.faddr 0 (.tmp 3)), (.some (11, .false))⟩,
   ⟨(.some 14), (.load .none (.tmp 13)), (.some (11, .false))⟩,
   ⟨(.some 15), (.bin .lss (.tmp 12) (.tmp 14)), (.some (11, .false))⟩,
   ⟨(.some 16), (.pick (.tmp 11) (.const (.bool .true)) (.tmp 15)), .none⟩,
   ⟨(.some 17), (.mv (.tmp 16)), .none⟩,
   ⟨(.some 18), (.mv (.tmp 1)), (.some (17, .false))⟩,
   ⟨(.some 19), (.load (.some 4) (.tmp 3)), (.some (17, .false))⟩,
   ⟨(.some 20), (.call (.func 32) [(.tmp 19)]), (.some (17, .false))⟩,
   ⟨(.some 21), (.bin .gtr (.tmp 18) (.tmp 20)), (.some (17, .false))⟩,
   ⟨(.some 22), (.pick (.tmp 17) (.const (.bool .true)) (.tmp 21)), .none⟩,
   ⟨(.some 23), (.mv (.tmp 22)), .none⟩,
   ⟨(.some 24), (.mv (.tmp 2)), (.some (23, .false))⟩,
   ⟨(.some 25), (.call (.func 31) [(.tmp 24)]), (.some (23, .false))⟩,
   ⟨(.some 26), (.un .not (.tmp 25)), (.some (23, .false))⟩,
   ⟨(.some 27), (.pick (.tmp 23) (.const (.bool .true)) (.tmp 26)), .none⟩]
def f11g2 : List RO :=
  [⟨(.some 28), (.build [(.D (.I .i64 0)), (.D (.I .i64 0)), (.D (.S [])), (.fl [])] []), .none⟩,
   ⟨.none, (.store 4 (.tmp 6) (.tmp 28)), .none⟩,
   ⟨(.some 7), (.mv (.const (.int .i64 1))), .none⟩]
def f11g3 : List RO :=
  [⟨(.some 29), (.faddr 3 (.tmp 3)), .none⟩,
   ⟨(.some 30), (.load .none (.tmp 29)), .none⟩,
   ⟨(.some 31), (.mv (.tmp 1)), .none⟩,
   ⟨(.some 32), (.faddr 0 (.tmp 3)), .none⟩,
   ⟨(.some 33), (.load .none (.tmp 32)), .none⟩,
   ⟨(.some 34), (.bin .sub (.tmp 31) (.tmp 33)), .none⟩,
   ⟨(.some 35), (.sll 1 (.tmp 30) (.some (.tmp 34)) .none .none), .none⟩,
   ⟨(.some 36), (.mv (.tmp 1)), .none⟩,
   ⟨(.some 37), (.mv (.tmp 2)), .none⟩,
   ⟨(.some 38), (.faddr 3 (.tmp 3)), .none⟩,
   ⟨.none, (.store 1 (.tmp 38) (.tmp 35)), .none⟩,
   ⟨(.some 39), (.faddr 0 (.tmp 3)), .none⟩,
   ⟨.none, (.store 1 (.tmp 39) (.tmp 36)), .none⟩,
   ⟨(.some 40), (.faddr 2 (.tmp 3)), .none⟩,
   ⟨.none, (.store 1 (.tmp 40) (.tmp 37)), .none⟩]
def f11g4 : List RO :=
  [⟨(.some 41), (.load (.some 4) (.tmp 3)), .none⟩,
   ⟨.none, (.store 4 (.tmp 6) (.tmp 41)), .none⟩,
   ⟨(.some 7), (.mv (.const (.int .i64 0))), .none⟩]
def f11c : RCode := (.seq (.reg .false f11g0) (.seq (.seq (.reg .false f11g1) (.cond (.tmp 27) (.seq (.reg .false f11g2) .ret) .skip)) (.seq (.reg .false f11g3) (.seq (.reg .false f11g4) .ret))))
def f11r : List RRes := [(.cell (.some 4) 6), (.tmp 7)]
attribute [push_cast] f11g0 f11g1 f11g2 f11g3 f11g4
def F11 (N : Nat) (p0 : Outbox) (p1 : Int) (p2 : Str) : Option (Outbox × Int) := bd? (F18 N p0) fun v1 => if? (v1) (if? (decide (p1 < p0.Base)) (some ((Outbox.mk 0 0 ([] : Str) []), 1)) (bd? (F32 N p0) fun v2 => if? (decide (p1 > v2)) (some ((Outbox.mk 0 0 ([] : Str) []), 1)) (bd? (F31 N p2) fun v3 => if? (v3) (ck .i64 (p1 - p0.Base) (gd? (0 ≤ (p1 - p0.Base)) (gd? ((p1 - p0.Base).toNat ≤ p0.Queue.length) (some ((Outbox.mk p1 p0.Acked p2 ((p0.Queue.drop (p1 - p0.Base).toNat).take (p0.Queue.length - (p1 - p0.Base).toNat))), 0))))) (some ((Outbox.mk 0 0 ([] : Str) []), 1))))) (some ((Outbox.mk 0 0 ([] : Str) []), 1))
theorem c11 (N : Nat) (p0 : Outbox) (p1 : Int) (p2 : Str) (r : (Outbox × Int)) (h : F11 N p0 p1 p2 = some r) : ACall Try.prog 11 [.agg [.D (.I .i64 p0.Base), .D (.I .i64 p0.Acked), .D (.S p0.Summary), .D (.L (p0.Queue.map rS))], .D (.I .i64 p1), .D (.S p2)] [] (.tup [.agg [.D (.I .i64 r.1.Base), .D (.I .i64 r.1.Acked), .D (.S r.1.Summary), .D (.L (r.1.Queue.map rS))], .D (.I .i64 r.2)]) [] [] := by
  refine ACall.of_bodyW [] (fn := Try.f11) (rc := f11c) (rs := f11r) Try.func11 rfl rfl (by kernel_rfl) (by kernel_rfl) (by kernel_rfl) (by rw [Try.ntmps11]; simp) ?_
  unfold F11 at h
  unfold f11c f11r
  rw [entry_eq _ _]
  obtain ⟨v1, h275, h⟩ := F_bd h
  simp (config := { maxSteps := 1000000 }) (disch := first | assumption | (simp; done) | omega | (simp; omega)) only [push_cast, reduceCtorEq, Nat.reduceEqDiff, Nat.reduceAdd, Nat.reduceSub, Nat.reduceMul, Nat.reduceLeDiff, Nat.reduceLT, Int.reduceEq, Int.reduceNe, Int.reduceLT, Int.reduceLE, Int.reduceGT, Int.reduceGE, Int.reduceBEq, Int.reduceBNe, ↓reduceIte]
  refine call_flat (by rfl) (c18 N _ _ h275) ?_ rfl ?_
  · simp (config := { maxSteps := 1000000 }) (disch := first | assumption | (simp; done) | omega | (simp; omega)) only [push_cast, reduceCtorEq, Nat.reduceEqDiff, Nat.reduceAdd, Nat.reduceSub, Nat.reduceMul, Nat.reduceLeDiff, Nat.reduceLT, Int.reduceEq, Int.reduceNe, Int.reduceLT, Int.reduceLE, Int.reduceGT, Int.reduceGE, Int.reduceBEq, Int.reduceBNe, ↓reduceIte] <;> rfl
  rcases F_if h with ⟨h276, h⟩ | ⟨h276, h⟩
  · try simp (disch := first | assumption | (simp; done) | omega | (simp; omega)) only [push_cast, reduceCtorEq, Nat.reduceEqDiff, Nat.reduceAdd, Nat.reduceSub, Nat.reduceMul, Nat.reduceLeDiff, Nat.reduceLT, Int.reduceEq, Int.reduceNe, Int.reduceLT, Int.reduceLE, Int.reduceGT, Int.reduceGE, Int.reduceBEq, Int.reduceBNe, ↓reduceIte] at h276
    rcases F_if h with ⟨h277, h⟩ | ⟨h277, h⟩
    · try simp (disch := first | assumption | (simp; done) | omega | (simp; omega)) only [push_cast, reduceCtorEq, Nat.reduceEqDiff, Nat.reduceAdd, Nat.reduceSub, Nat.reduceMul, Nat.reduceLeDiff, Nat.reduceLT, Int.reduceEq, Int.reduceNe, Int.reduceLT, Int.reduceLE, Int.reduceGT, Int.reduceGE, Int.reduceBEq, Int.reduceBNe, ↓reduceIte] at h277
      obtain rfl := Option.some.inj h
      simp (config := { maxSteps := 1000000 }) (disch := first | assumption | (simp; done) | omega | (simp; omega)) only [push_cast, reduceCtorEq, Nat.reduceEqDiff, Nat.reduceAdd, Nat.reduceSub, Nat.reduceMul, Nat.reduceLeDiff, Nat.reduceLT, Int.reduceEq, Int.reduceNe, Int.reduceLT, Int.reduceLE, Int.reduceGT, Int.reduceGE, Int.reduceBEq, Int.reduceBNe, ↓reduceIte, h276, h277]
      refine e_ret (.inr rfl) ?_
      simp (config := { maxSteps := 1000000 }) (disch := first | assumption | (simp; done) | omega | (simp; omega)) only [push_cast, reduceCtorEq, Nat.reduceEqDiff, Nat.reduceAdd, Nat.reduceSub, Nat.reduceMul, Nat.reduceLeDiff, Nat.reduceLT, Int.reduceEq, Int.reduceNe, Int.reduceLT, Int.reduceLE, Int.reduceGT, Int.reduceGE, Int.reduceBEq, Int.reduceBNe, ↓reduceIte, aret, aresults, aresult, h276, h277]
      refine ⟨_, rfl, ?_⟩
      first | (simp (config := { maxSteps := 1000000 }) (disch := first | assumption | (simp; done) | omega | (simp; omega)) only [push_cast, reduceCtorEq, Nat.reduceEqDiff, Nat.reduceAdd, Nat.reduceSub, Nat.reduceMul, Nat.reduceLeDiff, Nat.reduceLT, Int.reduceEq, Int.reduceNe, Int.reduceLT, Int.reduceLE, Int.reduceGT, Int.reduceGE, Int.reduceBEq, Int.reduceBNe, ↓reduceIte, h276, h277] <;> rfl) | rfl
    · try simp (disch := first | assumption | (simp; done) | omega | (simp; omega)) only [push_cast, reduceCtorEq, Nat.reduceEqDiff, Nat.reduceAdd, Nat.reduceSub, Nat.reduceMul, Nat.reduceLeDiff, Nat.reduceLT, Int.reduceEq, Int.reduceNe, Int.reduceLT, Int.reduceLE, Int.reduceGT, Int.reduceGE, Int.reduceBEq, Int.reduceBNe, ↓reduceIte] at h277
      obtain ⟨v2, h278, h⟩ := F_bd h
      simp (config := { maxSteps := 1000000 }) (disch := first | assumption | (simp; done) | omega | (simp; omega)) only [push_cast, reduceCtorEq, Nat.reduceEqDiff, Nat.reduceAdd, Nat.reduceSub, Nat.reduceMul, Nat.reduceLeDiff, Nat.reduceLT, Int.reduceEq, Int.reduceNe, Int.reduceLT, Int.reduceLE, Int.reduceGT, Int.reduceGE, Int.reduceBEq, Int.reduceBNe, ↓reduceIte, h276, h277]
      refine call_flat (by rfl) (c32 N _ _ h278) ?_ rfl ?_
      · simp (config := { maxSteps := 1000000 }) (disch := first | assumption | (simp; done) | omega | (simp; omega)) only [push_cast, reduceCtorEq, Nat.reduceEqDiff, Nat.reduceAdd, Nat.reduceSub, Nat.reduceMul, Nat.reduceLeDiff, Nat.reduceLT, Int.reduceEq, Int.reduceNe, Int.reduceLT, Int.reduceLE, Int.reduceGT, Int.reduceGE, Int.reduceBEq, Int.reduceBNe, ↓reduceIte, h276, h277] <;> rfl
      rcases F_if h with ⟨h279, h⟩ | ⟨h279, h⟩
      · try simp (disch := first | assumption | (simp; done) | omega | (simp; omega)) only [push_cast, reduceCtorEq, Nat.reduceEqDiff, Nat.reduceAdd, Nat.reduceSub, Nat.reduceMul, Nat.reduceLeDiff, Nat.reduceLT, Int.reduceEq, Int.reduceNe, Int.reduceLT, Int.reduceLE, Int.reduceGT, Int.reduceGE, Int.reduceBEq, Int.reduceBNe, ↓reduceIte] at h279
        obtain rfl := Option.some.inj h
        simp (config := { maxSteps := 1000000 }) (disch := first | assumption | (simp; done) | omega | (simp; omega)) only [push_cast, reduceCtorEq, Nat.reduceEqDiff, Nat.reduceAdd, Nat.reduceSub, Nat.reduceMul, Nat.reduceLeDiff, Nat.reduceLT, Int.reduceEq, Int.reduceNe, Int.reduceLT, Int.reduceLE, Int.reduceGT, Int.reduceGE, Int.reduceBEq, Int.reduceBNe, ↓reduceIte, h276, h277, h279]
        refine e_ret (.inr rfl) ?_
        simp (config := { maxSteps := 1000000 }) (disch := first | assumption | (simp; done) | omega | (simp; omega)) only [push_cast, reduceCtorEq, Nat.reduceEqDiff, Nat.reduceAdd, Nat.reduceSub, Nat.reduceMul, Nat.reduceLeDiff, Nat.reduceLT, Int.reduceEq, Int.reduceNe, Int.reduceLT, Int.reduceLE, Int.reduceGT, Int.reduceGE, Int.reduceBEq, Int.reduceBNe, ↓reduceIte, aret, aresults, aresult, h276, h277, h279]
        refine ⟨_, rfl, ?_⟩
        first | (simp (config := { maxSteps := 1000000 }) (disch := first | assumption | (simp; done) | omega | (simp; omega)) only [push_cast, reduceCtorEq, Nat.reduceEqDiff, Nat.reduceAdd, Nat.reduceSub, Nat.reduceMul, Nat.reduceLeDiff, Nat.reduceLT, Int.reduceEq, Int.reduceNe, Int.reduceLT, Int.reduceLE, Int.reduceGT, Int.reduceGE, Int.reduceBEq, Int.reduceBNe, ↓reduceIte, h276, h277, h279] <;> rfl) | rfl
      · try simp (disch := first | assumption | (simp; done) | omega | (simp; omega)) only [push_cast, reduceCtorEq, Nat.reduceEqDiff, Nat.reduceAdd, Nat.reduceSub, Nat.reduceMul, Nat.reduceLeDiff, Nat.reduceLT, Int.reduceEq, Int.reduceNe, Int.reduceLT, Int.reduceLE, Int.reduceGT, Int.reduceGE, Int.reduceBEq, Int.reduceBNe, ↓reduceIte] at h279
        obtain ⟨v3, h280, h⟩ := F_bd h
        simp (config := { maxSteps := 1000000 }) (disch := first | assumption | (simp; done) | omega | (simp; omega)) only [push_cast, reduceCtorEq, Nat.reduceEqDiff, Nat.reduceAdd, Nat.reduceSub, Nat.reduceMul, Nat.reduceLeDiff, Nat.reduceLT, Int.reduceEq, Int.reduceNe, Int.reduceLT, Int.reduceLE, Int.reduceGT, Int.reduceGE, Int.reduceBEq, Int.reduceBNe, ↓reduceIte, h276, h277, h279]
        refine call_flat (by rfl) (c31 N _ _ h280) ?_ rfl ?_
        · simp (config := { maxSteps := 1000000 }) (disch := first | assumption | (simp; done) | omega | (simp; omega)) only [push_cast, reduceCtorEq, Nat.reduceEqDiff, Nat.reduceAdd, Nat.reduceSub, Nat.reduceMul, Nat.reduceLeDiff, Nat.reduceLT, Int.reduceEq, Int.reduceNe, Int.reduceLT, Int.reduceLE, Int.reduceGT, Int.reduceGE, Int.reduceBEq, Int.reduceBNe, ↓reduceIte, h276, h277, h279] <;> rfl
        rcases F_if h with ⟨h281, h⟩ | ⟨h281, h⟩
        · try simp (disch := first | assumption | (simp; done) | omega | (simp; omega)) only [push_cast, reduceCtorEq, Nat.reduceEqDiff, Nat.reduceAdd, Nat.reduceSub, Nat.reduceMul, Nat.reduceLeDiff, Nat.reduceLT, Int.reduceEq, Int.reduceNe, Int.reduceLT, Int.reduceLE, Int.reduceGT, Int.reduceGE, Int.reduceBEq, Int.reduceBNe, ↓reduceIte] at h281
          obtain ⟨h282, h⟩ := F_ck h
          try simp (disch := first | assumption | (simp; done) | omega | (simp; omega)) only [push_cast, reduceCtorEq, Nat.reduceEqDiff, Nat.reduceAdd, Nat.reduceSub, Nat.reduceMul, Nat.reduceLeDiff, Nat.reduceLT, Int.reduceEq, Int.reduceNe, Int.reduceLT, Int.reduceLE, Int.reduceGT, Int.reduceGE, Int.reduceBEq, Int.reduceBNe, ↓reduceIte] at h282
          obtain ⟨h283, h⟩ := F_gd h
          try simp (disch := first | assumption | (simp; done) | omega | (simp; omega)) only [push_cast, reduceCtorEq, Nat.reduceEqDiff, Nat.reduceAdd, Nat.reduceSub, Nat.reduceMul, Nat.reduceLeDiff, Nat.reduceLT, Int.reduceEq, Int.reduceNe, Int.reduceLT, Int.reduceLE, Int.reduceGT, Int.reduceGE, Int.reduceBEq, Int.reduceBNe, ↓reduceIte] at h283
          obtain ⟨h284, h⟩ := F_gd h
          try simp (disch := first | assumption | (simp; done) | omega | (simp; omega)) only [push_cast, reduceCtorEq, Nat.reduceEqDiff, Nat.reduceAdd, Nat.reduceSub, Nat.reduceMul, Nat.reduceLeDiff, Nat.reduceLT, Int.reduceEq, Int.reduceNe, Int.reduceLT, Int.reduceLE, Int.reduceGT, Int.reduceGE, Int.reduceBEq, Int.reduceBNe, ↓reduceIte] at h284
          obtain rfl := Option.some.inj h
          simp (config := { maxSteps := 1000000 }) (disch := first | assumption | (simp; done) | omega | (simp; omega)) only [push_cast, reduceCtorEq, Nat.reduceEqDiff, Nat.reduceAdd, Nat.reduceSub, Nat.reduceMul, Nat.reduceLeDiff, Nat.reduceLT, Int.reduceEq, Int.reduceNe, Int.reduceLT, Int.reduceLE, Int.reduceGT, Int.reduceGE, Int.reduceBEq, Int.reduceBNe, ↓reduceIte, h276, h277, h279, h281, h282, h283, h284]
          refine e_ret (.inr rfl) ?_
          simp (config := { maxSteps := 1000000 }) (disch := first | assumption | (simp; done) | omega | (simp; omega)) only [push_cast, reduceCtorEq, Nat.reduceEqDiff, Nat.reduceAdd, Nat.reduceSub, Nat.reduceMul, Nat.reduceLeDiff, Nat.reduceLT, Int.reduceEq, Int.reduceNe, Int.reduceLT, Int.reduceLE, Int.reduceGT, Int.reduceGE, Int.reduceBEq, Int.reduceBNe, ↓reduceIte, aret, aresults, aresult, h276, h277, h279, h281, h282, h283, h284]
          refine ⟨_, rfl, ?_⟩
          first | (simp (config := { maxSteps := 1000000 }) (disch := first | assumption | (simp; done) | omega | (simp; omega)) only [push_cast, reduceCtorEq, Nat.reduceEqDiff, Nat.reduceAdd, Nat.reduceSub, Nat.reduceMul, Nat.reduceLeDiff, Nat.reduceLT, Int.reduceEq, Int.reduceNe, Int.reduceLT, Int.reduceLE, Int.reduceGT, Int.reduceGE, Int.reduceBEq, Int.reduceBNe, ↓reduceIte, h276, h277, h279, h281, h282, h283, h284] <;> rfl) | rfl
        · try simp (disch := first | assumption | (simp; done) | omega | (simp; omega)) only [push_cast, reduceCtorEq, Nat.reduceEqDiff, Nat.reduceAdd, Nat.reduceSub, Nat.reduceMul, Nat.reduceLeDiff, Nat.reduceLT, Int.reduceEq, Int.reduceNe, Int.reduceLT, Int.reduceLE, Int.reduceGT, Int.reduceGE, Int.reduceBEq, Int.reduceBNe, ↓reduceIte] at h281
          obtain rfl := Option.some.inj h
          simp (config := { maxSteps := 1000000 }) (disch := first | assumption | (simp; done) | omega | (simp; omega)) only [push_cast, reduceCtorEq, Nat.reduceEqDiff, Nat.reduceAdd, Nat.reduceSub, Nat.reduceMul, Nat.reduceLeDiff, Nat.reduceLT, Int.reduceEq, Int.reduceNe, Int.reduceLT, Int.reduceLE, Int.reduceGT, Int.reduceGE, Int.reduceBEq, Int.reduceBNe, ↓reduceIte, h276, h277, h279, h281]
          refine e_ret (.inr rfl) ?_
          simp (config := { maxSteps := 1000000 }) (disch := first | assumption | (simp; done) | omega | (simp; omega)) only [push_cast, reduceCtorEq, Nat.reduceEqDiff, Nat.reduceAdd, Nat.reduceSub, Nat.reduceMul, Nat.reduceLeDiff, Nat.reduceLT, Int.reduceEq, Int.reduceNe, Int.reduceLT, Int.reduceLE, Int.reduceGT, Int.reduceGE, Int.reduceBEq, Int.reduceBNe, ↓reduceIte, aret, aresults, aresult, h276, h277, h279, h281]
          refine ⟨_, rfl, ?_⟩
          first | (simp (config := { maxSteps := 1000000 }) (disch := first | assumption | (simp; done) | omega | (simp; omega)) only [push_cast, reduceCtorEq, Nat.reduceEqDiff, Nat.reduceAdd, Nat.reduceSub, Nat.reduceMul, Nat.reduceLeDiff, Nat.reduceLT, Int.reduceEq, Int.reduceNe, Int.reduceLT, Int.reduceLE, Int.reduceGT, Int.reduceGE, Int.reduceBEq, Int.reduceBNe, ↓reduceIte, h276, h277, h279, h281] <;> rfl) | rfl
  · try simp (disch := first | assumption | (simp; done) | omega | (simp; omega)) only [push_cast, reduceCtorEq, Nat.reduceEqDiff, Nat.reduceAdd, Nat.reduceSub, Nat.reduceMul, Nat.reduceLeDiff, Nat.reduceLT, Int.reduceEq, Int.reduceNe, Int.reduceLT, Int.reduceLE, Int.reduceGT, Int.reduceGE, Int.reduceBEq, Int.reduceBNe, ↓reduceIte] at h276
    obtain rfl := Option.some.inj h
    simp (config := { maxSteps := 1000000 }) (disch := first | assumption | (simp; done) | omega | (simp; omega)) only [push_cast, reduceCtorEq, Nat.reduceEqDiff, Nat.reduceAdd, Nat.reduceSub, Nat.reduceMul, Nat.reduceLeDiff, Nat.reduceLT, Int.reduceEq, Int.reduceNe, Int.reduceLT, Int.reduceLE, Int.reduceGT, Int.reduceGE, Int.reduceBEq, Int.reduceBNe, ↓reduceIte, h276]
    refine e_ret (.inr rfl) ?_
    simp (config := { maxSteps := 1000000 }) (disch := first | assumption | (simp; done) | omega | (simp; omega)) only [push_cast, reduceCtorEq, Nat.reduceEqDiff, Nat.reduceAdd, Nat.reduceSub, Nat.reduceMul, Nat.reduceLeDiff, Nat.reduceLT, Int.reduceEq, Int.reduceNe, Int.reduceLT, Int.reduceLE, Int.reduceGT, Int.reduceGE, Int.reduceBEq, Int.reduceBNe, ↓reduceIte, aret, aresults, aresult, h276]
    refine ⟨_, rfl, ?_⟩
    first | (simp (config := { maxSteps := 1000000 }) (disch := first | assumption | (simp; done) | omega | (simp; omega)) only [push_cast, reduceCtorEq, Nat.reduceEqDiff, Nat.reduceAdd, Nat.reduceSub, Nat.reduceMul, Nat.reduceLeDiff, Nat.reduceLT, Int.reduceEq, Int.reduceNe, Int.reduceLT, Int.reduceLE, Int.reduceGT, Int.reduceGE, Int.reduceBEq, Int.reduceBNe, ↓reduceIte, h276] <;> rfl) | rfl

/-! ## 21 rivermark.rivermarkref11.SameFrames -/
def f21g0 : List RO :=
  [⟨(.some 4), (.mv (.const (.bool .false))), .none⟩]
def f21g1 : List RO :=
  [⟨(.some 6), (.mv (.tmp 0)), .none⟩,
   ⟨(.some 7), (.len .false (.tmp 6)), .none⟩,
   ⟨(.some 8), (.mv (.tmp 1)), .none⟩,
   ⟨(.some 9), (.len .false (.tmp 8)), .none⟩,
   ⟨(.some 10), (.bin .neq (.tmp 7) (.tmp 9)), .none⟩]
def f21g2 : List RO :=
  [⟨(.some 4), (.mv (.const (.bool .false))), .none⟩]
def f21g3 : List RO :=
  [⟨(.some 5), (.mv (.const (.int .i64 0))), .none⟩]
def f21g4 : List RO :=
  [⟨(.some 11), (.mv (.tmp 5)), .none⟩,
   ⟨(.some 12), (.mv (.tmp 0)), .none⟩,
   ⟨(.some 13), (.len .false (.tmp 12)), .none⟩,
   ⟨(.some 14), (.bin .lss (.tmp 11) (.tmp 13)), .none⟩]
def f21g5 : List RO :=
  [⟨(.some 17), (.mv (.tmp 0)), .none⟩,
   ⟨(.some 18), (.mv (.tmp 5)), .none⟩,
   ⟨(.some 19), (.iaddr 3 (.tmp 17) (.tmp 18)), .none⟩,
   ⟨(.some 20), (.load (.some 3) (.tmp 19)), .none⟩,
   ⟨(.some 21), (.mv (.tmp 1)), .none⟩,
   ⟨(.some 22), (.mv (.tmp 5)), .none⟩,
   ⟨(.some 23), (.iaddr 3 (.tmp 21) (.tmp 22)), .none⟩,
   ⟨(.some 24), (.load (.some 3) (.tmp 23)), .none⟩,
   ⟨(.some 25), (.eqs .true [0, 1, 2] (.tmp 20) (.tmp 24)), .none⟩]
def f21g6 : List RO :=
  [⟨(.some 4), (.mv (.const (.bool .false))), .none⟩]
def f21g7 : List RO :=
  [⟨(.some 15), (.mv (.tmp 5)), .none⟩,
   ⟨(.some 16), (.bin .add (.tmp 15) (.const (.int .i64 1))), .none⟩,
   ⟨(.some 5), (.mv (.tmp 16)), .none⟩]
def f21b8 : RCode := (.seq (.seq (.reg .false f21g4) (.cond (.tmp 14) .skip (.exit 0))) (.seq (.block 1 (.seq (.reg .true f21g5) (.cond (.tmp 25) (.seq (.reg .false f21g6) .ret) .skip))) (.reg .false f21g7)))
def f21g9 : List RO :=
  [⟨(.some 4), (.mv (.const (.bool .true))), .none⟩]
def f21c : RCode := (.seq (.reg .false f21g0) (.seq (.seq (.reg .false f21g1) (.cond (.tmp 10) (.seq (.reg .false f21g2) .ret) .skip)) (.seq (.seq (.reg .false f21g3) (.block 0 (.loop f21b8))) (.seq (.reg .false f21g9) .ret))))
def f21r : List RRes := [(.tmp 4)]
attribute [push_cast] f21g0 f21g1 f21g2 f21g3 f21g4 f21g5 f21g6 f21g7 f21g9
def L21_0 (N : Nat) (p0 : (List Frame)) (p1 : (List Frame)) : Nat → Int → Option Bool
  | 0, _ => none
  | m1+1, a1 => if? (decide (a1 < (p0.length : Int))) (get? p0 (a1) fun x2 => get? p1 (a1) fun x3 => if? (((x2.Sum == x3.Sum) && ((x2.Seq == x3.Seq) && (x2.Body == x3.Body)))) (ck .i64 (a1 + 1) (L21_0 N p0 p1 m1 (a1 + 1))) (some (false))) (some (true))
def I21_0 (N : Nat) (p0 : (List Frame)) (p1 : (List Frame)) (r : Bool) (n : Nat) (s : AState) : Prop := ∃ (a1 : Int), L21_0 N p0 p1 n a1 = some r ∧ s = ⟨envL [(0, .D (.L (p0.map Frame.row))), (1, .D (.L (p1.map Frame.row))), (5, .D (.I .i64 a1))], ownL [], ownL [], 0⟩
def F21 (N : Nat) (p0 : (List Frame)) (p1 : (List Frame)) : Option Bool := if? (((p0.length : Int) != (p1.length : Int))) (some (false)) (L21_0 N p0 p1 N 0)
theorem c21 (N : Nat) (p0 : (List Frame)) (p1 : (List Frame)) (r : Bool) (h : F21 N p0 p1 = some r) : ACall Try.prog 21 [.D (.L (p0.map Frame.row)), .D (.L (p1.map Frame.row))] [] (.D (.B r)) [] [] := by
  refine ACall.of_bodyW [] (fn := Try.f21) (rc := f21c) (rs := f21r) Try.func21 rfl rfl (by kernel_rfl) (by kernel_rfl) (by kernel_rfl) (by rw [Try.ntmps21]; simp) ?_
  unfold F21 at h
  unfold f21c f21r
  rw [entry_eq _ _]
  rcases F_if h with ⟨h285, h⟩ | ⟨h285, h⟩
  · try simp (disch := first | assumption | (simp; done) | omega | (simp; omega)) only [push_cast, reduceCtorEq, Nat.reduceEqDiff, Nat.reduceAdd, Nat.reduceSub, Nat.reduceMul, Nat.reduceLeDiff, Nat.reduceLT, Int.reduceEq, Int.reduceNe, Int.reduceLT, Int.reduceLE, Int.reduceGT, Int.reduceGE, Int.reduceBEq, Int.reduceBNe, ↓reduceIte] at h285
    obtain rfl := Option.some.inj h
    simp (config := { maxSteps := 1000000 }) (disch := first | assumption | (simp; done) | omega | (simp; omega)) only [push_cast, reduceCtorEq, Nat.reduceEqDiff, Nat.reduceAdd, Nat.reduceSub, Nat.reduceMul, Nat.reduceLeDiff, Nat.reduceLT, Int.reduceEq, Int.reduceNe, Int.reduceLT, Int.reduceLE, Int.reduceGT, Int.reduceGE, Int.reduceBEq, Int.reduceBNe, ↓reduceIte, h285]
    refine e_ret (.inr rfl) ?_
    simp (config := { maxSteps := 1000000 }) (disch := first | assumption | (simp; done) | omega | (simp; omega)) only [push_cast, reduceCtorEq, Nat.reduceEqDiff, Nat.reduceAdd, Nat.reduceSub, Nat.reduceMul, Nat.reduceLeDiff, Nat.reduceLT, Int.reduceEq, Int.reduceNe, Int.reduceLT, Int.reduceLE, Int.reduceGT, Int.reduceGE, Int.reduceBEq, Int.reduceBNe, ↓reduceIte, aret, aresults, aresult, h285]
    refine ⟨_, rfl, ?_⟩
    first | (simp (config := { maxSteps := 1000000 }) (disch := first | assumption | (simp; done) | omega | (simp; omega)) only [push_cast, reduceCtorEq, Nat.reduceEqDiff, Nat.reduceAdd, Nat.reduceSub, Nat.reduceMul, Nat.reduceLeDiff, Nat.reduceLT, Int.reduceEq, Int.reduceNe, Int.reduceLT, Int.reduceLE, Int.reduceGT, Int.reduceGE, Int.reduceBEq, Int.reduceBNe, ↓reduceIte, h285] <;> rfl) | rfl
  · try simp (disch := first | assumption | (simp; done) | omega | (simp; omega)) only [push_cast, reduceCtorEq, Nat.reduceEqDiff, Nat.reduceAdd, Nat.reduceSub, Nat.reduceMul, Nat.reduceLeDiff, Nat.reduceLT, Int.reduceEq, Int.reduceNe, Int.reduceLT, Int.reduceLE, Int.reduceGT, Int.reduceGE, Int.reduceBEq, Int.reduceBNe, ↓reduceIte] at h285
    simp (config := { maxSteps := 1000000 }) (disch := first | assumption | (simp; done) | omega | (simp; omega)) only [push_cast, reduceCtorEq, Nat.reduceEqDiff, Nat.reduceAdd, Nat.reduceSub, Nat.reduceMul, Nat.reduceLeDiff, Nat.reduceLT, Int.reduceEq, Int.reduceNe, Int.reduceLT, Int.reduceLE, Int.reduceGT, Int.reduceGE, Int.reduceBEq, Int.reduceBNe, ↓reduceIte, h285]
    refine loop_of (I21_0 N p0 p1 _) N [0, 1, 5] [] (by decide) ⟨0, h, ?_⟩ ?_
    · rw [wk_mk]
      simp (config := { maxSteps := 1000000 }) (disch := first | assumption | (simp; done) | omega | (simp; omega)) only [push_cast, reduceCtorEq, Nat.reduceEqDiff, Nat.reduceAdd, Nat.reduceSub, Nat.reduceMul, Nat.reduceLeDiff, Nat.reduceLT, Int.reduceEq, Int.reduceNe, Int.reduceLT, Int.reduceLE, Int.reduceGT, Int.reduceGE, Int.reduceBEq, Int.reduceBNe, ↓reduceIte, h285] <;> rfl
    · rintro n s ⟨a1, h, rfl⟩
      cases n with
      | zero => exact absurd h (by simp [L21_0])
      | succ m1 =>
        rw [L21_0] at h
        unfold f21b8
        rcases F_if h with ⟨h286, h⟩ | ⟨h286, h⟩
        · try simp (disch := first | assumption | (simp; done) | omega | (simp; omega)) only [push_cast, reduceCtorEq, Nat.reduceEqDiff, Nat.reduceAdd, Nat.reduceSub, Nat.reduceMul, Nat.reduceLeDiff, Nat.reduceLT, Int.reduceEq, Int.reduceNe, Int.reduceLT, Int.reduceLE, Int.reduceGT, Int.reduceGE, Int.reduceBEq, Int.reduceBNe, ↓reduceIte] at h286
          obtain ⟨x2, h287, h288, h⟩ := F_get h
          have h290 := get_lt h287 h288
          have h289 := map_get Frame.row h288
          try simp (disch := first | assumption | (simp; done) | omega | (simp; omega)) only [push_cast, reduceCtorEq, Nat.reduceEqDiff, Nat.reduceAdd, Nat.reduceSub, Nat.reduceMul, Nat.reduceLeDiff, Nat.reduceLT, Int.reduceEq, Int.reduceNe, Int.reduceLT, Int.reduceLE, Int.reduceGT, Int.reduceGE, Int.reduceBEq, Int.reduceBNe, ↓reduceIte] at h289
          try simp (disch := first | assumption | (simp; done) | omega | (simp; omega)) only [push_cast, reduceCtorEq, Nat.reduceEqDiff, Nat.reduceAdd, Nat.reduceSub, Nat.reduceMul, Nat.reduceLeDiff, Nat.reduceLT, Int.reduceEq, Int.reduceNe, Int.reduceLT, Int.reduceLE, Int.reduceGT, Int.reduceGE, Int.reduceBEq, Int.reduceBNe, ↓reduceIte] at h290
          obtain ⟨x3, h291, h292, h⟩ := F_get h
          have h294 := get_lt h291 h292
          have h293 := map_get Frame.row h292
          try simp (disch := first | assumption | (simp; done) | omega | (simp; omega)) only [push_cast, reduceCtorEq, Nat.reduceEqDiff, Nat.reduceAdd, Nat.reduceSub, Nat.reduceMul, Nat.reduceLeDiff, Nat.reduceLT, Int.reduceEq, Int.reduceNe, Int.reduceLT, Int.reduceLE, Int.reduceGT, Int.reduceGE, Int.reduceBEq, Int.reduceBNe, ↓reduceIte] at h293
          try simp (disch := first | assumption | (simp; done) | omega | (simp; omega)) only [push_cast, reduceCtorEq, Nat.reduceEqDiff, Nat.reduceAdd, Nat.reduceSub, Nat.reduceMul, Nat.reduceLeDiff, Nat.reduceLT, Int.reduceEq, Int.reduceNe, Int.reduceLT, Int.reduceLE, Int.reduceGT, Int.reduceGE, Int.reduceBEq, Int.reduceBNe, ↓reduceIte] at h294
          rcases F_if h with ⟨h295, h⟩ | ⟨h295, h⟩
          · try simp (disch := first | assumption | (simp; done) | omega | (simp; omega)) only [push_cast, reduceCtorEq, Nat.reduceEqDiff, Nat.reduceAdd, Nat.reduceSub, Nat.reduceMul, Nat.reduceLeDiff, Nat.reduceLT, Int.reduceEq, Int.reduceNe, Int.reduceLT, Int.reduceLE, Int.reduceGT, Int.reduceGE, Int.reduceBEq, Int.reduceBNe, ↓reduceIte] at h295
            obtain ⟨h296, h⟩ := F_ck h
            try simp (disch := first | assumption | (simp; done) | omega | (simp; omega)) only [push_cast, reduceCtorEq, Nat.reduceEqDiff, Nat.reduceAdd, Nat.reduceSub, Nat.reduceMul, Nat.reduceLeDiff, Nat.reduceLT, Int.reduceEq, Int.reduceNe, Int.reduceLT, Int.reduceLE, Int.reduceGT, Int.reduceGE, Int.reduceBEq, Int.reduceBNe, ↓reduceIte] at h296
            simp (config := { maxSteps := 1000000 }) (disch := first | assumption | (simp; done) | omega | (simp; omega)) only [push_cast, reduceCtorEq, Nat.reduceEqDiff, Nat.reduceAdd, Nat.reduceSub, Nat.reduceMul, Nat.reduceLeDiff, Nat.reduceLT, Int.reduceEq, Int.reduceNe, Int.reduceLT, Int.reduceLE, Int.reduceGT, Int.reduceGE, Int.reduceBEq, Int.reduceBNe, ↓reduceIte, h285, h286, h287, h289, h290, h291, h293, h294, h295, h296]
            refine lpK_of m1 [0, 1, 5] [] (by omega) (by decide) ⟨(a1 + 1), h, ?_⟩
            rw [wk_mk]
            simp (config := { maxSteps := 1000000 }) (disch := first | assumption | (simp; done) | omega | (simp; omega)) only [push_cast, reduceCtorEq, Nat.reduceEqDiff, Nat.reduceAdd, Nat.reduceSub, Nat.reduceMul, Nat.reduceLeDiff, Nat.reduceLT, Int.reduceEq, Int.reduceNe, Int.reduceLT, Int.reduceLE, Int.reduceGT, Int.reduceGE, Int.reduceBEq, Int.reduceBNe, ↓reduceIte, h285, h286, h287, h289, h290, h291, h293, h294, h295, h296] <;> rfl
          · try simp (disch := first | assumption | (simp; done) | omega | (simp; omega)) only [push_cast, reduceCtorEq, Nat.reduceEqDiff, Nat.reduceAdd, Nat.reduceSub, Nat.reduceMul, Nat.reduceLeDiff, Nat.reduceLT, Int.reduceEq, Int.reduceNe, Int.reduceLT, Int.reduceLE, Int.reduceGT, Int.reduceGE, Int.reduceBEq, Int.reduceBNe, ↓reduceIte] at h295
            obtain rfl := Option.some.inj h
            simp (config := { maxSteps := 1000000 }) (disch := first | assumption | (simp; done) | omega | (simp; omega)) only [push_cast, reduceCtorEq, Nat.reduceEqDiff, Nat.reduceAdd, Nat.reduceSub, Nat.reduceMul, Nat.reduceLeDiff, Nat.reduceLT, Int.reduceEq, Int.reduceNe, Int.reduceLT, Int.reduceLE, Int.reduceGT, Int.reduceGE, Int.reduceBEq, Int.reduceBNe, ↓reduceIte, h285, h286, h287, h289, h290, h291, h293, h294, h295]
            refine e_ret (.inr rfl) ?_
            simp (config := { maxSteps := 1000000 }) (disch := first | assumption | (simp; done) | omega | (simp; omega)) only [push_cast, reduceCtorEq, Nat.reduceEqDiff, Nat.reduceAdd, Nat.reduceSub, Nat.reduceMul, Nat.reduceLeDiff, Nat.reduceLT, Int.reduceEq, Int.reduceNe, Int.reduceLT, Int.reduceLE, Int.reduceGT, Int.reduceGE, Int.reduceBEq, Int.reduceBNe, ↓reduceIte, aret, aresults, aresult, h285, h286, h287, h289, h290, h291, h293, h294, h295]
            refine ⟨_, rfl, ?_⟩
            first | (simp (config := { maxSteps := 1000000 }) (disch := first | assumption | (simp; done) | omega | (simp; omega)) only [push_cast, reduceCtorEq, Nat.reduceEqDiff, Nat.reduceAdd, Nat.reduceSub, Nat.reduceMul, Nat.reduceLeDiff, Nat.reduceLT, Int.reduceEq, Int.reduceNe, Int.reduceLT, Int.reduceLE, Int.reduceGT, Int.reduceGE, Int.reduceBEq, Int.reduceBNe, ↓reduceIte, h285, h286, h287, h289, h290, h291, h293, h294, h295] <;> rfl) | rfl
        · try simp (disch := first | assumption | (simp; done) | omega | (simp; omega)) only [push_cast, reduceCtorEq, Nat.reduceEqDiff, Nat.reduceAdd, Nat.reduceSub, Nat.reduceMul, Nat.reduceLeDiff, Nat.reduceLT, Int.reduceEq, Int.reduceNe, Int.reduceLT, Int.reduceLE, Int.reduceGT, Int.reduceGE, Int.reduceBEq, Int.reduceBNe, ↓reduceIte] at h286
          obtain rfl := Option.some.inj h
          simp (config := { maxSteps := 1000000 }) (disch := first | assumption | (simp; done) | omega | (simp; omega)) only [push_cast, reduceCtorEq, Nat.reduceEqDiff, Nat.reduceAdd, Nat.reduceSub, Nat.reduceMul, Nat.reduceLeDiff, Nat.reduceLT, Int.reduceEq, Int.reduceNe, Int.reduceLT, Int.reduceLE, Int.reduceGT, Int.reduceGE, Int.reduceBEq, Int.reduceBNe, ↓reduceIte, h285, h286]
          refine e_ret (.inr rfl) ?_
          simp (config := { maxSteps := 1000000 }) (disch := first | assumption | (simp; done) | omega | (simp; omega)) only [push_cast, reduceCtorEq, Nat.reduceEqDiff, Nat.reduceAdd, Nat.reduceSub, Nat.reduceMul, Nat.reduceLeDiff, Nat.reduceLT, Int.reduceEq, Int.reduceNe, Int.reduceLT, Int.reduceLE, Int.reduceGT, Int.reduceGE, Int.reduceBEq, Int.reduceBNe, ↓reduceIte, aret, aresults, aresult, h285, h286]
          refine ⟨_, rfl, ?_⟩
          first | (simp (config := { maxSteps := 1000000 }) (disch := first | assumption | (simp; done) | omega | (simp; omega)) only [push_cast, reduceCtorEq, Nat.reduceEqDiff, Nat.reduceAdd, Nat.reduceSub, Nat.reduceMul, Nat.reduceLeDiff, Nat.reduceLT, Int.reduceEq, Int.reduceNe, Int.reduceLT, Int.reduceLE, Int.reduceGT, Int.reduceGE, Int.reduceBEq, Int.reduceBNe, ↓reduceIte, h285, h286] <;> rfl) | rfl

/-! ## 9 rivermark.rivermarklaw11.sanity -/
def f9g0 : List RO :=
  [⟨(.some 0), (.mv (.const (.bool .false))), .none⟩]
def f9g1 : List RO :=
  [⟨(.some 25), (.call (.func 30) []), .none⟩,
   ⟨(.some 24), (.mv (.tmp 25)), .none⟩,
   ⟨(.some 26), (.ext (.tmp 24) 0), .none⟩,
   ⟨(.some 27), (.ext (.tmp 24) 1), .none⟩,
   ⟨(.some 1), (.new [(.D (.I .i64 0)), (.D (.I .i64 0)), (.D (.S [])), (.fl [])]), .none⟩,
   ⟨.none, (.store 4 (.tmp 1) (.tmp 26)), .none⟩,
   ⟨(.some 2), (.mv (.tmp 27)), .none⟩]
def f9g2 : List RO :=
  [⟨(.some 29), (.load (.some 4) (.tmp 1)), .none⟩,
   ⟨(.some 30), (.call (.func 12) [(.tmp 29), (.const (.int .i64 2))]), .none⟩,
   ⟨(.some 28), (.mv (.tmp 30)), .none⟩,
   ⟨(.some 31), (.ext (.tmp 28) 0), .none⟩,
   ⟨(.some 32), (.ext (.tmp 28) 1), .none⟩,
   ⟨(.some 3), (.mv (.tmp 31)), .none⟩,
   ⟨(.some 4), (.mv (.tmp 32)), .none⟩]
def f9g3 : List RO :=
  [⟨(.some 33), (.mv (.tmp 2)), .none⟩,
   ⟨(.some 34), (.un .not (.tmp 33)), .none⟩,
   ⟨(.some 35), (.mv (.tmp 34)), .none⟩,
   ⟨(.some 36), (.mv (.tmp 4)), (.some (35, .false))⟩,
   ⟨(.some 37), (.bin .neq (.tmp 36) (.const (.int .i64 0))), (.some (35, .false))⟩,
   ⟨(.some 38), (.pick (.tmp 35) (.const (.bool .true)) (.tmp 37)), .none⟩,
   ⟨(.some 39), (.mv (.tmp 38)), .none⟩,
   ⟨(.some 40), (.mv (.tmp 3)), (.some (39, .false))⟩,
   ⟨(.some 41), (.len .false (.tmp 40)), (.some (39, .false))⟩,
   ⟨(.some 42), (.bin .neq (.tmp 41) (.const (.int .i64 2))), (.some (39, .false))⟩,
   ⟨(.some 43), (.pick (.tmp 39) (.const (.bool .true)) (.tmp 42)), .none⟩,
   ⟨(.some 44), (.mv (.tmp 43)), .none⟩,
   ⟨(.some 45), (.mv (.tmp 3)), (.some (44, .false))⟩,
   ⟨(.some 46), (.iaddr 3 (.tmp 45) (.const (.int .i64 0))), (.some (44, .false))⟩,
   ⟨(.some 47), (.load (.some 3) (.tmp 46)), (.some (44, .false))⟩,
   ⟨(.some 48), (.build [(.D (.B .false)), (.D (.I .i64 0)), (.D (.S []))] [(2, (1, (.const (.string ⟨#[97]⟩))))]), (.some (44, .false))⟩,
   ⟨(.some 49), (.eqs .true [0, 1, 2] (.tmp 47) (.tmp 48)), (.some (44, .false))⟩,
   ⟨(.some 50), (.pick (.tmp 44) (.const (.bool .true)) (.tmp 49)), .none⟩,
   ⟨(.some 51), (.mv (.tmp 50)), .none⟩,
   ⟨(.some 52), (.mv (.tmp 3)), (.some (51, .false))⟩,
   ⟨(.some 53), (.iaddr 3 (.tmp 52) (.const (.int .i64 1))), (.some (51, .false))⟩,
   ⟨(.some 54), (.load (.some 3) (.tmp 53)), (.some (51, .false))⟩,
   ⟨(.some 55), (.build [(.D (.B .false)), (.D (.I .i64 0)), (.D (.S []))] [(1, (1, (.const (.int .i64 1)))), (2, (1, (.const (.string ⟨#[98]⟩))))]), (.some (51, .false))⟩,
   ⟨(.some 56), (.eqs .true [0, 1, 2] (.tmp 54) (.tmp 55)), (.some (51, .false))⟩,
   ⟨(.some 57), (.pick (.tmp 51) (.const (.bool .true)) (.tmp 56)), .none⟩]
def f9g4 : List RO :=
  [⟨(.some 0), (.mv (.const (.bool .false))), .none⟩]
def f9g5 : List RO :=
  [⟨(.some 5), (.new [(.D (.I .i64 0)), (.fl [])]), .none⟩]
def f9g6 : List RO :=
  [⟨(.some 59), (.load (.some 2) (.tmp 5)), .none⟩,
   ⟨(.some 60), (.mv (.tmp 3)), .none⟩,
   ⟨(.some 61), (.iaddr 3 (.tmp 60) (.const (.int .i64 1))), .none⟩,
   ⟨(.some 62), (.load (.some 3) (.tmp 61)), .none⟩,
   ⟨(.some 63), (.call (.func 23) [(.tmp 59), (.tmp 62)]), .none⟩,
   ⟨(.some 58), (.mv (.tmp 63)), .none⟩,
   ⟨(.some 64), (.ext (.tmp 58) 0), .none⟩,
   ⟨(.some 65), (.ext (.tmp 58) 1), .none⟩,
   ⟨(.some 66), (.ext (.tmp 58) 2), .none⟩,
   ⟨.none, (.store 2 (.tmp 5) (.tmp 64)), .none⟩,
   ⟨(.some 6), (.mv (.tmp 65)), .none⟩,
   ⟨(.some 7), (.mv (.tmp 66)), .none⟩]
def f9g7 : List RO :=
  [⟨(.some 68), (.load (.some 2) (.tmp 5)), .none⟩,
   ⟨(.some 69), (.mv (.tmp 3)), .none⟩,
   ⟨(.some 70), (.iaddr 3 (.tmp 69) (.const (.int .i64 0))), .none⟩,
   ⟨(.some 71), (.load (.some 3) (.tmp 70)), .none⟩,
   ⟨(.some 72), (.call (.func 23) [(.tmp 68), (.tmp 71)]), .none⟩,
   ⟨(.some 67), (.mv (.tmp 72)), .none⟩,
   ⟨(.some 73), (.ext (.tmp 67) 0), .none⟩,
   ⟨(.some 74), (.ext (.tmp 67) 1), .none⟩,
   ⟨(.some 75), (.ext (.tmp 67) 2), .none⟩,
   ⟨.none, (.store 2 (.tmp 5) (.tmp 73)), .none⟩,
   ⟨(.some 8), (.mv (.tmp 74)), .none⟩,
   ⟨(.some 9), (.mv (.tmp 75)), .none⟩]
def f9g8 : List RO :=
  [⟨(.some 77), (.load (.some 4) (.tmp 1)), .none⟩,
   ⟨(.some 78), (.call (.func 13) [(.tmp 77), (.const (.int .i64 2))]), .none⟩,
   ⟨(.some 76), (.mv (.tmp 78)), .none⟩,
   ⟨(.some 79), (.ext (.tmp 76) 0), .none⟩,
   ⟨(.some 80), (.ext (.tmp 76) 1), .none⟩,
   ⟨(.some 10), (.new [(.D (.I .i64 0)), (.D (.I .i64 0)), (.D (.S [])), (.fl [])]), .none⟩,
   ⟨.none, (.store 4 (.tmp 10) (.tmp 79)), .none⟩,
   ⟨(.some 11), (.mv (.tmp 80)), .none⟩]
def f9g9 : List RO :=
  [⟨(.some 82), (.load (.some 4) (.tmp 10)), .none⟩,
   ⟨(.some 83), (.call (.func 12) [(.tmp 82), (.const (.int .i64 9))]), .none⟩,
   ⟨(.some 81), (.mv (.tmp 83)), .none⟩,
   ⟨(.some 84), (.ext (.tmp 81) 0), .none⟩,
   ⟨(.some 85), (.ext (.tmp 81) 1), .none⟩,
   ⟨(.some 12), (.mv (.tmp 84)), .none⟩,
   ⟨(.some 13), (.mv (.tmp 85)), .none⟩]
def f9g10 : List RO :=
  [⟨(.some 87), (.load (.some 4) (.tmp 1)), .none⟩,
   ⟨(.some 88), (.call (.func 11) [(.tmp 87), (.const (.int .i64 2)), (.const (.string ⟨#[97, 98]⟩))]), .none⟩,
   ⟨(.some 86), (.mv (.tmp 88)), .none⟩,
   ⟨(.some 89), (.ext (.tmp 86) 0), .none⟩,
   ⟨(.some 90), (.ext (.tmp 86) 1), .none⟩,
   ⟨(.some 14), (.new [(.D (.I .i64 0)), (.D (.I .i64 0)), (.D (.S [])), (.fl [])]), .none⟩,
   ⟨.none, (.store 4 (.tmp 14) (.tmp 89)), .none⟩,
   ⟨(.some 15), (.mv (.tmp 90)), .none⟩]
def f9g11 : List RO :=
  [⟨(.some 92), (.load (.some 4) (.tmp 14)), .none⟩,
   ⟨(.some 93), (.call (.func 12) [(.tmp 92), (.const (.int .i64 9))]), .none⟩,
   ⟨(.some 91), (.mv (.tmp 93)), .none⟩,
   ⟨(.some 94), (.ext (.tmp 91) 0), .none⟩,
   ⟨(.some 95), (.ext (.tmp 91) 1), .none⟩,
   ⟨(.some 16), (.mv (.tmp 94)), .none⟩,
   ⟨(.some 17), (.mv (.tmp 95)), .none⟩]
def f9g12 : List RO :=
  [⟨(.some 96), (.mv (.tmp 7)), .none⟩,
   ⟨(.some 97), (.bin .neq (.tmp 96) (.const (.int .i64 0))), .none⟩,
   ⟨(.some 98), (.mv (.tmp 97)), .none⟩,
   ⟨(.some 99), (.mv (.tmp 9)), (.some (98, .false))⟩,
   ⟨(.some 100), (.bin .neq (.tmp 99) (.const (.int .i64 0))), (.some (98, .false))⟩,
   ⟨(.some 101), (.pick (.tmp 98) (.const (.bool .true)) (.tmp 100)), .none⟩,
   ⟨(.some 102), (.mv (.tmp 101)), .none⟩,
   ⟨(.some 103), (.mv (.tmp 11)), (.some (102, .false))⟩,
   ⟨(.some 104), (.bin .neq (.tmp 103) (.const (.int .i64 0))), (.some (102, .false))⟩,
   ⟨(.some 105), (.pick (.tmp 102) (.const (.bool .true)) (.tmp 104)), .none⟩,
   ⟨(.some 106), (.mv (.tmp 105)), .none⟩,
   ⟨(.some 107), (.mv (.tmp 13)), (.some (106, .false))⟩,
   ⟨(.some 108), (.bin .neq (.tmp 107) (.const (.int .i64 0))), (.some (106, .false))⟩,
   ⟨(.some 109), (.pick (.tmp 106) (.const (.bool .true)) (.tmp 108)), .none⟩,
   ⟨(.some 110), (.mv (.tmp 109)), .none⟩,
   ⟨(.some 111), (.mv (.tmp 15)), (.some (110, .false))⟩,
   ⟨(.some 112), (.bin .neq (.tmp 111) (.const (.int .i64 0))), (.some (110, .false))⟩,
   ⟨(.some 113), (.pick (.tmp 110) (.const (.bool .true)) (.tmp 112)), .none⟩,
   ⟨(.some 114), (.mv (.tmp 113)), .none⟩,
   ⟨(.some 115), (.mv (.tmp 17)), (.some (114, .false))⟩,
   ⟨(.some 116), (.bin .neq (.tmp 115) (.const (.int .i64 0))), (.some (114, .false))⟩,
   ⟨(.some 117), (.pick (.tmp 114) (.const (.bool .true)) (.tmp 116)), .none⟩,
   ⟨(.some 118), (.mv (.tmp 117)), .none⟩,
   ⟨(.some 119), (.mv (.tmp 16)), (.some (118, .false))⟩,
   ⟨(.some 120), (.len .false (.tmp 119)), (.some (118, .false))⟩,
   ⟨(.some 121), (.bin .neq (.tmp 120) (.const (.int .i64 2))), (.some (118, .false))⟩,
   ⟨(.some 122), (.pick (.tmp 118) (.const (.bool .true)) (.tmp 121)), .none⟩]
def f9g13 : List RO :=
  [⟨(.some 0), (.mv (.const (.bool .false))), .none⟩]
def f9g14 : List RO :=
  [⟨(.some 18), (.new [(.D (.I .i64 0)), (.fl [])]), .none⟩]
def f9g15 : List RO :=
  [⟨(.some 124), (.load (.some 2) (.tmp 18)), .none⟩,
   ⟨(.some 125), (.mv (.tmp 16)), .none⟩,
   ⟨(.some 126), (.iaddr 3 (.tmp 125) (.const (.int .i64 1))), .none⟩,
   ⟨(.some 127), (.load (.some 3) (.tmp 126)), .none⟩,
   ⟨(.some 128), (.call (.func 23) [(.tmp 124), (.tmp 127)]), .none⟩,
   ⟨(.some 123), (.mv (.tmp 128)), .none⟩,
   ⟨(.some 129), (.ext (.tmp 123) 0), .none⟩,
   ⟨(.some 130), (.ext (.tmp 123) 1), .none⟩,
   ⟨(.some 131), (.ext (.tmp 123) 2), .none⟩,
   ⟨.none, (.store 2 (.tmp 18) (.tmp 129)), .none⟩,
   ⟨(.some 19), (.mv (.tmp 130)), .none⟩,
   ⟨(.some 20), (.mv (.tmp 131)), .none⟩]
def f9g16 : List RO :=
  [⟨(.some 133), (.load (.some 2) (.tmp 18)), .none⟩,
   ⟨(.some 134), (.mv (.tmp 16)), .none⟩,
   ⟨(.some 135), (.iaddr 3 (.tmp 134) (.const (.int .i64 0))), .none⟩,
   ⟨(.some 136), (.load (.some 3) (.tmp 135)), .none⟩,
   ⟨(.some 137), (.call (.func 23) [(.tmp 133), (.tmp 136)]), .none⟩,
   ⟨(.some 132), (.mv (.tmp 137)), .none⟩,
   ⟨(.some 138), (.ext (.tmp 132) 0), .none⟩,
   ⟨(.some 139), (.ext (.tmp 132) 1), .none⟩,
   ⟨(.some 140), (.ext (.tmp 132) 2), .none⟩,
   ⟨.none, (.store 2 (.tmp 18) (.tmp 138)), .none⟩,
   ⟨(.some 21), (.mv (.tmp 139)), .none⟩,
   ⟨(.some 22), (.mv (.tmp 140)), .none⟩]
def f9g17 : List RO :=
  [⟨(.some 141), (.mv (.tmp 6)), .none⟩,
   ⟨(.some 142), (.len .false (.tmp 141)), .none⟩,
   ⟨(.some 143), (.bin .eql (.tmp 142) (.const (.int .i64 0))), .none⟩,
   ⟨(.some 144), (.mv (.tmp 143)), .none⟩,
   ⟨(.some 145), (.mv (.tmp 8)), (.some (144, .true))⟩,
   ⟨(.some 146), (.mv (.tmp 3)), (.some (144, .true))⟩,
   ⟨(.some 147), (.call (.func 21) [(.tmp 145), (.tmp 146)]), (.some (144, .true))⟩,
   ⟨(.some 148), (.pick (.tmp 144) (.tmp 147) (.const (.bool .false))), .none⟩,
   ⟨(.some 149), (.mv (.tmp 148)), .none⟩,
   ⟨(.some 150), (.faddr 0 (.tmp 5)), (.some (149, .true))⟩,
   ⟨(.some 151), (.load .none (.tmp 150)), (.some (149, .true))⟩,
   ⟨(.some 152), (.bin .eql (.tmp 151) (.const (.int .i64 2))), (.some (149, .true))⟩,
   ⟨(.some 153), (.pick (.tmp 149) (.tmp 152) (.const (.bool .false))), .none⟩,
   ⟨(.some 154), (.mv (.tmp 153)), .none⟩,
   ⟨(.some 155), (.faddr 0 (.tmp 10)), (.some (154, .true))⟩,
   ⟨(.some 156), (.load .none (.tmp 155)), (.some (154, .true))⟩,
   ⟨(.some 157), (.bin .eql (.tmp 156) (.const (.int .i64 2))), (.some (154, .true))⟩,
   ⟨(.some 158), (.pick (.tmp 154) (.tmp 157) (.const (.bool .false))), .none⟩,
   ⟨(.some 159), (.mv (.tmp 158)), .none⟩,
   ⟨(.some 160), (.mv (.tmp 12)), (.some (159, .true))⟩,
   ⟨(.some 161), (.build [(.D (.B .false)), (.D (.I .i64 0)), (.D (.S []))] [(1, (1, (.const (.int .i64 2)))), (2, (1, (.const (.string ⟨#[99]⟩))))]), (.some (159, .true))⟩,
   ⟨(.some 162), (.bslice 3 [(.tmp 161)]), (.some (159, .true))⟩,
   ⟨(.some 163), (.call (.func 21) [(.tmp 160), (.tmp 162)]), (.some (159, .true))⟩,
   ⟨(.some 164), (.pick (.tmp 159) (.tmp 163) (.const (.bool .false))), .none⟩,
   ⟨(.some 165), (.mv (.tmp 164)), .none⟩,
   ⟨(.some 166), (.mv (.tmp 16)), (.some (165, .true))⟩,
   ⟨(.some 167), (.iaddr 3 (.tmp 166) (.const (.int .i64 0))), (.some (165, .true))⟩,
   ⟨(.some 168), (.load (.some 3) (.tmp 167)), (.some (165, .true))⟩,
   ⟨(.some 169), (.build [(.D (.B .false)), (.D (.I .i64 0)), (.D (.S []))] [(0, (1, (.const (.bool .true)))), (1, (1, (.const (.int .i64 2)))), (2, (1, (.const (.string ⟨#[97, 98]⟩))))]), (.some (165, .true))⟩,
   ⟨(.some 170), (.eqs .false [0, 1, 2] (.tmp 168) (.tmp 169)), (.some (165, .true))⟩,
   ⟨(.some 171), (.pick (.tmp 165) (.tmp 170) (.const (.bool .false))), .none⟩,
   ⟨(.some 23), (.mv (.tmp 171)), .none⟩]
def f9g18 : List RO :=
  [⟨(.some 172), (.mv (.tmp 23)), .none⟩,
   ⟨(.some 173), (.mv (.tmp 172)), .none⟩,
   ⟨(.some 174), (.mv (.tmp 20)), (.some (173, .true))⟩,
   ⟨(.some 175), (.bin .eql (.tmp 174) (.const (.int .i64 0))), (.some (173, .true))⟩,
   ⟨(.some 176), (.pick (.tmp 173) (.tmp 175) (.const (.bool .false))), .none⟩,
   ⟨(.some 177), (.mv (.tmp 176)), .none⟩,
   ⟨(.some 178), (.mv (.tmp 22)), (.some (177, .true))⟩,
   ⟨(.some 179), (.bin .eql (.tmp 178) (.const (.int .i64 0))), (.some (177, .true))⟩,
   ⟨(.some 180), (.pick (.tmp 177) (.tmp 179) (.const (.bool .false))), .none⟩,
   ⟨(.some 181), (.mv (.tmp 180)), .none⟩,
   ⟨(.some 182), (.mv (.tmp 19)), (.some (181, .true))⟩,
   ⟨(.some 183), (.len .false (.tmp 182)), (.some (181, .true))⟩,
   ⟨(.some 184), (.bin .eql (.tmp 183) (.const (.int .i64 0))), (.some (181, .true))⟩,
   ⟨(.some 185), (.pick (.tmp 181) (.tmp 184) (.const (.bool .false))), .none⟩,
   ⟨(.some 186), (.mv (.tmp 185)), .none⟩,
   ⟨(.some 187), (.mv (.tmp 21)), (.some (186, .true))⟩,
   ⟨(.some 188), (.mv (.tmp 16)), (.some (186, .true))⟩,
   ⟨(.some 189), (.call (.func 21) [(.tmp 187), (.tmp 188)]), (.some (186, .true))⟩,
   ⟨(.some 190), (.pick (.tmp 186) (.tmp 189) (.const (.bool .false))), .none⟩,
   ⟨(.some 191), (.mv (.tmp 190)), .none⟩,
   ⟨(.some 192), (.faddr 0 (.tmp 18)), (.some (191, .true))⟩,
   ⟨(.some 193), (.load .none (.tmp 192)), (.some (191, .true))⟩,
   ⟨(.some 194), (.bin .eql (.tmp 193) (.const (.int .i64 3))), (.some (191, .true))⟩,
   ⟨(.some 195), (.pick (.tmp 191) (.tmp 194) (.const (.bool .false))), .none⟩,
   ⟨(.some 0), (.mv (.tmp 195)), .none⟩]
def f9c : RCode := (.seq (.reg .false f9g0) (.seq (.reg .false f9g1) (.seq (.reg .false f9g2) (.seq (.seq (.reg .false f9g3) (.cond (.tmp 57) (.seq (.reg .false f9g4) .ret) .skip)) (.seq (.reg .false f9g5) (.seq (.reg .true f9g6) (.seq (.reg .true f9g7) (.seq (.reg .false f9g8) (.seq (.reg .false f9g9) (.seq (.reg .false f9g10) (.seq (.reg .false f9g11) (.seq (.seq (.reg .false f9g12) (.cond (.tmp 122) (.seq (.reg .false f9g13) .ret) .skip)) (.seq (.reg .false f9g14) (.seq (.reg .true f9g15) (.seq (.reg .true f9g16) (.seq (.reg .false f9g17) (.seq (.reg .false f9g18) .ret)))))))))))))))))
def f9r : List RRes := [(.tmp 0)]
attribute [push_cast] f9g0 f9g1 f9g2 f9g3 f9g4 f9g5 f9g6 f9g7 f9g8 f9g9 f9g10 f9g11 f9g12 f9g13 f9g14 f9g15 f9g16 f9g17 f9g18
def F9 (N : Nat) : Option Bool := bd? (F30 N ) fun v1 => bd? (F12 N v1.1 2) fun v2 => if? (v1.2) (if? ((v2.2 != 0)) (some (false)) (if? (((v2.1.length : Int) != 2)) (some (false)) (get? v2.1 (0) fun x3 => if? (((x3.Sum == false) && ((x3.Seq == 0) && (x3.Body == ([97] : Str))))) (get? v2.1 (1) fun x4 => if? (((x4.Sum == false) && ((x4.Seq == 1) && (x4.Body == ([98] : Str))))) (bd? (F23 N (Inbox.mk 0 []) x4) fun v5 => bd? (F23 N v5.1 x3) fun v6 => bd? (F13 N v1.1 2) fun v7 => bd? (F12 N v7.1 9) fun v8 => bd? (F11 N v1.1 2 ([97, 98] : Str)) fun v9 => bd? (F12 N v9.1 9) fun v10 => if? ((v5.2.2 != 0)) (some (false)) (if? ((v6.2.2 != 0)) (some (false)) (if? ((v7.2 != 0)) (some (false)) (if? ((v8.2 != 0)) (some (false)) (if? ((v9.2 != 0)) (some (false)) (if? ((v10.2 != 0)) (some (false)) (if? (((v10.1.length : Int) != 2)) (some (false)) (get? v10.1 (1) fun x11 => bd? (F23 N (Inbox.mk 0 []) x11) fun v12 => get? v10.1 (0) fun x13 => bd? (F23 N v12.1 x13) fun v14 => if? (((v5.2.1.length : Int) == 0)) (bd? (F21 N v6.2.1 v2.1) fun v15 => if? (v15) (if? ((v6.1.Next == 2)) (if? ((v7.1.Base == 2)) (bd? (F21 N v8.1 [(Frame.mk false 2 ([99] : Str))]) fun v16 => if? (v16) (if? (((x13.Sum == true) && ((x13.Seq == 2) && (x13.Body == ([97, 98] : Str))))) (if? ((v12.2.2 == 0)) (if? ((v14.2.2 == 0)) (if? (((v12.2.1.length : Int) == 0)) (bd? (F21 N v14.2.1 v10.1) fun v17 => if? (v17) (some ((v14.1.Next == 3))) (some (false))) (some (false))) (some (false))) (some (false))) (some (false))) (some (false))) (some (false))) (some (false))) (some (false))) (some (false)))))))))) (some (false))) (some (false))))) (some (false))
theorem c9 (N : Nat) (r : Bool) (h : F9 N = some r) : ACall Try.prog 9 [] [] (.D (.B r)) [] [] := by
  refine ACall.of_bodyW [] (fn := Try.f9) (rc := f9c) (rs := f9r) Try.func9 rfl rfl (by kernel_rfl) (by kernel_rfl) (by kernel_rfl) (by rw [Try.ntmps9]; simp) ?_
  unfold F9 at h
  unfold f9c f9r
  rw [entry_eq _ _]
  obtain ⟨v1, h297, h⟩ := F_bd h
  simp (config := { maxSteps := 1000000 }) (disch := first | assumption | (simp; done) | omega | (simp; omega)) only [push_cast, reduceCtorEq, Nat.reduceEqDiff, Nat.reduceAdd, Nat.reduceSub, Nat.reduceMul, Nat.reduceLeDiff, Nat.reduceLT, Int.reduceEq, Int.reduceNe, Int.reduceLT, Int.reduceLE, Int.reduceGT, Int.reduceGE, Int.reduceBEq, Int.reduceBNe, ↓reduceIte]
  refine call_new (by rfl) (c30 N _ h297) ?_ rfl ?_
  · simp (config := { maxSteps := 1000000 }) (disch := first | assumption | (simp; done) | omega | (simp; omega)) only [push_cast, reduceCtorEq, Nat.reduceEqDiff, Nat.reduceAdd, Nat.reduceSub, Nat.reduceMul, Nat.reduceLeDiff, Nat.reduceLT, Int.reduceEq, Int.reduceNe, Int.reduceLT, Int.reduceLE, Int.reduceGT, Int.reduceGE, Int.reduceBEq, Int.reduceBNe, ↓reduceIte] <;> rfl
  obtain ⟨v2, h298, h⟩ := F_bd h
  simp (config := { maxSteps := 1000000 }) (disch := first | assumption | (simp; done) | omega | (simp; omega)) only [push_cast, reduceCtorEq, Nat.reduceEqDiff, Nat.reduceAdd, Nat.reduceSub, Nat.reduceMul, Nat.reduceLeDiff, Nat.reduceLT, Int.reduceEq, Int.reduceNe, Int.reduceLT, Int.reduceLE, Int.reduceGT, Int.reduceGE, Int.reduceBEq, Int.reduceBNe, ↓reduceIte]
  refine call_new (by rfl) (c12 N _ _ _ h298) ?_ rfl ?_
  · simp (config := { maxSteps := 1000000 }) (disch := first | assumption | (simp; done) | omega | (simp; omega)) only [push_cast, reduceCtorEq, Nat.reduceEqDiff, Nat.reduceAdd, Nat.reduceSub, Nat.reduceMul, Nat.reduceLeDiff, Nat.reduceLT, Int.reduceEq, Int.reduceNe, Int.reduceLT, Int.reduceLE, Int.reduceGT, Int.reduceGE, Int.reduceBEq, Int.reduceBNe, ↓reduceIte] <;> rfl
  rcases F_if h with ⟨h299, h⟩ | ⟨h299, h⟩
  · try simp (disch := first | assumption | (simp; done) | omega | (simp; omega)) only [push_cast, reduceCtorEq, Nat.reduceEqDiff, Nat.reduceAdd, Nat.reduceSub, Nat.reduceMul, Nat.reduceLeDiff, Nat.reduceLT, Int.reduceEq, Int.reduceNe, Int.reduceLT, Int.reduceLE, Int.reduceGT, Int.reduceGE, Int.reduceBEq, Int.reduceBNe, ↓reduceIte] at h299
    rcases F_if h with ⟨h300, h⟩ | ⟨h300, h⟩
    · try simp (disch := first | assumption | (simp; done) | omega | (simp; omega)) only [push_cast, reduceCtorEq, Nat.reduceEqDiff, Nat.reduceAdd, Nat.reduceSub, Nat.reduceMul, Nat.reduceLeDiff, Nat.reduceLT, Int.reduceEq, Int.reduceNe, Int.reduceLT, Int.reduceLE, Int.reduceGT, Int.reduceGE, Int.reduceBEq, Int.reduceBNe, ↓reduceIte] at h300
      obtain rfl := Option.some.inj h
      simp (config := { maxSteps := 1000000 }) (disch := first | assumption | (simp; done) | omega | (simp; omega)) only [push_cast, reduceCtorEq, Nat.reduceEqDiff, Nat.reduceAdd, Nat.reduceSub, Nat.reduceMul, Nat.reduceLeDiff, Nat.reduceLT, Int.reduceEq, Int.reduceNe, Int.reduceLT, Int.reduceLE, Int.reduceGT, Int.reduceGE, Int.reduceBEq, Int.reduceBNe, ↓reduceIte, h299, h300]
      refine e_ret (.inr rfl) ?_
      simp (config := { maxSteps := 1000000 }) (disch := first | assumption | (simp; done) | omega | (simp; omega)) only [push_cast, reduceCtorEq, Nat.reduceEqDiff, Nat.reduceAdd, Nat.reduceSub, Nat.reduceMul, Nat.reduceLeDiff, Nat.reduceLT, Int.reduceEq, Int.reduceNe, Int.reduceLT, Int.reduceLE, Int.reduceGT, Int.reduceGE, Int.reduceBEq, Int.reduceBNe, ↓reduceIte, aret, aresults, aresult, h299, h300]
      refine ⟨_, rfl, ?_⟩
      first | (simp (config := { maxSteps := 1000000 }) (disch := first | assumption | (simp; done) | omega | (simp; omega)) only [push_cast, reduceCtorEq, Nat.reduceEqDiff, Nat.reduceAdd, Nat.reduceSub, Nat.reduceMul, Nat.reduceLeDiff, Nat.reduceLT, Int.reduceEq, Int.reduceNe, Int.reduceLT, Int.reduceLE, Int.reduceGT, Int.reduceGE, Int.reduceBEq, Int.reduceBNe, ↓reduceIte, h299, h300] <;> rfl) | rfl
    · try simp (disch := first | assumption | (simp; done) | omega | (simp; omega)) only [push_cast, reduceCtorEq, Nat.reduceEqDiff, Nat.reduceAdd, Nat.reduceSub, Nat.reduceMul, Nat.reduceLeDiff, Nat.reduceLT, Int.reduceEq, Int.reduceNe, Int.reduceLT, Int.reduceLE, Int.reduceGT, Int.reduceGE, Int.reduceBEq, Int.reduceBNe, ↓reduceIte] at h300
      rcases F_if h with ⟨h301, h⟩ | ⟨h301, h⟩
      · try simp (disch := first | assumption | (simp; done) | omega | (simp; omega)) only [push_cast, reduceCtorEq, Nat.reduceEqDiff, Nat.reduceAdd, Nat.reduceSub, Nat.reduceMul, Nat.reduceLeDiff, Nat.reduceLT, Int.reduceEq, Int.reduceNe, Int.reduceLT, Int.reduceLE, Int.reduceGT, Int.reduceGE, Int.reduceBEq, Int.reduceBNe, ↓reduceIte] at h301
        obtain rfl := Option.some.inj h
        simp (config := { maxSteps := 1000000 }) (disch := first | assumption | (simp; done) | omega | (simp; omega)) only [push_cast, reduceCtorEq, Nat.reduceEqDiff, Nat.reduceAdd, Nat.reduceSub, Nat.reduceMul, Nat.reduceLeDiff, Nat.reduceLT, Int.reduceEq, Int.reduceNe, Int.reduceLT, Int.reduceLE, Int.reduceGT, Int.reduceGE, Int.reduceBEq, Int.reduceBNe, ↓reduceIte, h299, h300, h301]
        refine e_ret (.inr rfl) ?_
        simp (config := { maxSteps := 1000000 }) (disch := first | assumption | (simp; done) | omega | (simp; omega)) only [push_cast, reduceCtorEq, Nat.reduceEqDiff, Nat.reduceAdd, Nat.reduceSub, Nat.reduceMul, Nat.reduceLeDiff, Nat.reduceLT, Int.reduceEq, Int.reduceNe, Int.reduceLT, Int.reduceLE, Int.reduceGT, Int.reduceGE, Int.reduceBEq, Int.reduceBNe, ↓reduceIte, aret, aresults, aresult, h299, h300, h301]
        refine ⟨_, rfl, ?_⟩
        first | (simp (config := { maxSteps := 1000000 }) (disch := first | assumption | (simp; done) | omega | (simp; omega)) only [push_cast, reduceCtorEq, Nat.reduceEqDiff, Nat.reduceAdd, Nat.reduceSub, Nat.reduceMul, Nat.reduceLeDiff, Nat.reduceLT, Int.reduceEq, Int.reduceNe, Int.reduceLT, Int.reduceLE, Int.reduceGT, Int.reduceGE, Int.reduceBEq, Int.reduceBNe, ↓reduceIte, h299, h300, h301] <;> rfl) | rfl
      · try simp (disch := first | assumption | (simp; done) | omega | (simp; omega)) only [push_cast, reduceCtorEq, Nat.reduceEqDiff, Nat.reduceAdd, Nat.reduceSub, Nat.reduceMul, Nat.reduceLeDiff, Nat.reduceLT, Int.reduceEq, Int.reduceNe, Int.reduceLT, Int.reduceLE, Int.reduceGT, Int.reduceGE, Int.reduceBEq, Int.reduceBNe, ↓reduceIte] at h301
        obtain ⟨x3, h302, h303, h⟩ := F_get h
        have h305 := get_lt h302 h303
        have h304 := map_get Frame.row h303
        try simp (disch := first | assumption | (simp; done) | omega | (simp; omega)) only [push_cast, reduceCtorEq, Nat.reduceEqDiff, Nat.reduceAdd, Nat.reduceSub, Nat.reduceMul, Nat.reduceLeDiff, Nat.reduceLT, Int.reduceEq, Int.reduceNe, Int.reduceLT, Int.reduceLE, Int.reduceGT, Int.reduceGE, Int.reduceBEq, Int.reduceBNe, ↓reduceIte] at h304
        try simp (disch := first | assumption | (simp; done) | omega | (simp; omega)) only [push_cast, reduceCtorEq, Nat.reduceEqDiff, Nat.reduceAdd, Nat.reduceSub, Nat.reduceMul, Nat.reduceLeDiff, Nat.reduceLT, Int.reduceEq, Int.reduceNe, Int.reduceLT, Int.reduceLE, Int.reduceGT, Int.reduceGE, Int.reduceBEq, Int.reduceBNe, ↓reduceIte] at h305
        rcases F_if h with ⟨h306, h⟩ | ⟨h306, h⟩
        · try simp (disch := first | assumption | (simp; done) | omega | (simp; omega)) only [push_cast, reduceCtorEq, Nat.reduceEqDiff, Nat.reduceAdd, Nat.reduceSub, Nat.reduceMul, Nat.reduceLeDiff, Nat.reduceLT, Int.reduceEq, Int.reduceNe, Int.reduceLT, Int.reduceLE, Int.reduceGT, Int.reduceGE, Int.reduceBEq, Int.reduceBNe, ↓reduceIte] at h306
          obtain ⟨x4, h307, h308, h⟩ := F_get h
          have h310 := get_lt h307 h308
          have h309 := map_get Frame.row h308
          try simp (disch := first | assumption | (simp; done) | omega | (simp; omega)) only [push_cast, reduceCtorEq, Nat.reduceEqDiff, Nat.reduceAdd, Nat.reduceSub, Nat.reduceMul, Nat.reduceLeDiff, Nat.reduceLT, Int.reduceEq, Int.reduceNe, Int.reduceLT, Int.reduceLE, Int.reduceGT, Int.reduceGE, Int.reduceBEq, Int.reduceBNe, ↓reduceIte] at h309
          try simp (disch := first | assumption | (simp; done) | omega | (simp; omega)) only [push_cast, reduceCtorEq, Nat.reduceEqDiff, Nat.reduceAdd, Nat.reduceSub, Nat.reduceMul, Nat.reduceLeDiff, Nat.reduceLT, Int.reduceEq, Int.reduceNe, Int.reduceLT, Int.reduceLE, Int.reduceGT, Int.reduceGE, Int.reduceBEq, Int.reduceBNe, ↓reduceIte] at h310
          rcases F_if h with ⟨h311, h⟩ | ⟨h311, h⟩
          · try simp (disch := first | assumption | (simp; done) | omega | (simp; omega)) only [push_cast, reduceCtorEq, Nat.reduceEqDiff, Nat.reduceAdd, Nat.reduceSub, Nat.reduceMul, Nat.reduceLeDiff, Nat.reduceLT, Int.reduceEq, Int.reduceNe, Int.reduceLT, Int.reduceLE, Int.reduceGT, Int.reduceGE, Int.reduceBEq, Int.reduceBNe, ↓reduceIte] at h311
            obtain ⟨v5, h312, h⟩ := F_bd h
            simp (config := { maxSteps := 1000000 }) (disch := first | assumption | (simp; done) | omega | (simp; omega)) only [push_cast, reduceCtorEq, Nat.reduceEqDiff, Nat.reduceAdd, Nat.reduceSub, Nat.reduceMul, Nat.reduceLeDiff, Nat.reduceLT, Int.reduceEq, Int.reduceNe, Int.reduceLT, Int.reduceLE, Int.reduceGT, Int.reduceGE, Int.reduceBEq, Int.reduceBNe, ↓reduceIte, h299, h300, h301, h302, h304, h305, h306, h307, h309, h310, h311]
            refine call_new (by rfl) (c23 N _ _ _ h312) ?_ rfl ?_
            · simp (config := { maxSteps := 1000000 }) (disch := first | assumption | (simp; done) | omega | (simp; omega)) only [push_cast, reduceCtorEq, Nat.reduceEqDiff, Nat.reduceAdd, Nat.reduceSub, Nat.reduceMul, Nat.reduceLeDiff, Nat.reduceLT, Int.reduceEq, Int.reduceNe, Int.reduceLT, Int.reduceLE, Int.reduceGT, Int.reduceGE, Int.reduceBEq, Int.reduceBNe, ↓reduceIte, h299, h300, h301, h302, h304, h305, h306, h307, h309, h310, h311] <;> rfl
            obtain ⟨v6, h313, h⟩ := F_bd h
            simp (config := { maxSteps := 1000000 }) (disch := first | assumption | (simp; done) | omega | (simp; omega)) only [push_cast, reduceCtorEq, Nat.reduceEqDiff, Nat.reduceAdd, Nat.reduceSub, Nat.reduceMul, Nat.reduceLeDiff, Nat.reduceLT, Int.reduceEq, Int.reduceNe, Int.reduceLT, Int.reduceLE, Int.reduceGT, Int.reduceGE, Int.reduceBEq, Int.reduceBNe, ↓reduceIte, h299, h300, h301, h302, h304, h305, h306, h307, h309, h310, h311]
            refine call_new (by rfl) (c23 N _ _ _ h313) ?_ rfl ?_
            · simp (config := { maxSteps := 1000000 }) (disch := first | assumption | (simp; done) | omega | (simp; omega)) only [push_cast, reduceCtorEq, Nat.reduceEqDiff, Nat.reduceAdd, Nat.reduceSub, Nat.reduceMul, Nat.reduceLeDiff, Nat.reduceLT, Int.reduceEq, Int.reduceNe, Int.reduceLT, Int.reduceLE, Int.reduceGT, Int.reduceGE, Int.reduceBEq, Int.reduceBNe, ↓reduceIte, h299, h300, h301, h302, h304, h305, h306, h307, h309, h310, h311] <;> rfl
            obtain ⟨v7, h314, h⟩ := F_bd h
            simp (config := { maxSteps := 1000000 }) (disch := first | assumption | (simp; done) | omega | (simp; omega)) only [push_cast, reduceCtorEq, Nat.reduceEqDiff, Nat.reduceAdd, Nat.reduceSub, Nat.reduceMul, Nat.reduceLeDiff, Nat.reduceLT, Int.reduceEq, Int.reduceNe, Int.reduceLT, Int.reduceLE, Int.reduceGT, Int.reduceGE, Int.reduceBEq, Int.reduceBNe, ↓reduceIte, h299, h300, h301, h302, h304, h305, h306, h307, h309, h310, h311]
            refine call_new (by rfl) (c13 N _ _ _ h314) ?_ rfl ?_
            · simp (config := { maxSteps := 1000000 }) (disch := first | assumption | (simp; done) | omega | (simp; omega)) only [push_cast, reduceCtorEq, Nat.reduceEqDiff, Nat.reduceAdd, Nat.reduceSub, Nat.reduceMul, Nat.reduceLeDiff, Nat.reduceLT, Int.reduceEq, Int.reduceNe, Int.reduceLT, Int.reduceLE, Int.reduceGT, Int.reduceGE, Int.reduceBEq, Int.reduceBNe, ↓reduceIte, h299, h300, h301, h302, h304, h305, h306, h307, h309, h310, h311] <;> rfl
            obtain ⟨v8, h315, h⟩ := F_bd h
            simp (config := { maxSteps := 1000000 }) (disch := first | assumption | (simp; done) | omega | (simp; omega)) only [push_cast, reduceCtorEq, Nat.reduceEqDiff, Nat.reduceAdd, Nat.reduceSub, Nat.reduceMul, Nat.reduceLeDiff, Nat.reduceLT, Int.reduceEq, Int.reduceNe, Int.reduceLT, Int.reduceLE, Int.reduceGT, Int.reduceGE, Int.reduceBEq, Int.reduceBNe, ↓reduceIte, h299, h300, h301, h302, h304, h305, h306, h307, h309, h310, h311]
            refine call_new (by rfl) (c12 N _ _ _ h315) ?_ rfl ?_
            · simp (config := { maxSteps := 1000000 }) (disch := first | assumption | (simp; done) | omega | (simp; omega)) only [push_cast, reduceCtorEq, Nat.reduceEqDiff, Nat.reduceAdd, Nat.reduceSub, Nat.reduceMul, Nat.reduceLeDiff, Nat.reduceLT, Int.reduceEq, Int.reduceNe, Int.reduceLT, Int.reduceLE, Int.reduceGT, Int.reduceGE, Int.reduceBEq, Int.reduceBNe, ↓reduceIte, h299, h300, h301, h302, h304, h305, h306, h307, h309, h310, h311] <;> rfl
            obtain ⟨v9, h316, h⟩ := F_bd h
            simp (config := { maxSteps := 1000000 }) (disch := first | assumption | (simp; done) | omega | (simp; omega)) only [push_cast, reduceCtorEq, Nat.reduceEqDiff, Nat.reduceAdd, Nat.reduceSub, Nat.reduceMul, Nat.reduceLeDiff, Nat.reduceLT, Int.reduceEq, Int.reduceNe, Int.reduceLT, Int.reduceLE, Int.reduceGT, Int.reduceGE, Int.reduceBEq, Int.reduceBNe, ↓reduceIte, h299, h300, h301, h302, h304, h305, h306, h307, h309, h310, h311]
            refine call_new (by rfl) (c11 N _ _ _ _ h316) ?_ rfl ?_
            · simp (config := { maxSteps := 1000000 }) (disch := first | assumption | (simp; done) | omega | (simp; omega)) only [push_cast, reduceCtorEq, Nat.reduceEqDiff, Nat.reduceAdd, Nat.reduceSub, Nat.reduceMul, Nat.reduceLeDiff, Nat.reduceLT, Int.reduceEq, Int.reduceNe, Int.reduceLT, Int.reduceLE, Int.reduceGT, Int.reduceGE, Int.reduceBEq, Int.reduceBNe, ↓reduceIte, h299, h300, h301, h302, h304, h305, h306, h307, h309, h310, h311] <;> rfl
            obtain ⟨v10, h317, h⟩ := F_bd h
            simp (config := { maxSteps := 1000000 }) (disch := first | assumption | (simp; done) | omega | (simp; omega)) only [push_cast, reduceCtorEq, Nat.reduceEqDiff, Nat.reduceAdd, Nat.reduceSub, Nat.reduceMul, Nat.reduceLeDiff, Nat.reduceLT, Int.reduceEq, Int.reduceNe, Int.reduceLT, Int.reduceLE, Int.reduceGT, Int.reduceGE, Int.reduceBEq, Int.reduceBNe, ↓reduceIte, h299, h300, h301, h302, h304, h305, h306, h307, h309, h310, h311]
            refine call_new (by rfl) (c12 N _ _ _ h317) ?_ rfl ?_
            · simp (config := { maxSteps := 1000000 }) (disch := first | assumption | (simp; done) | omega | (simp; omega)) only [push_cast, reduceCtorEq, Nat.reduceEqDiff, Nat.reduceAdd, Nat.reduceSub, Nat.reduceMul, Nat.reduceLeDiff, Nat.reduceLT, Int.reduceEq, Int.reduceNe, Int.reduceLT, Int.reduceLE, Int.reduceGT, Int.reduceGE, Int.reduceBEq, Int.reduceBNe, ↓reduceIte, h299, h300, h301, h302, h304, h305, h306, h307, h309, h310, h311] <;> rfl
            rcases F_if h with ⟨h318, h⟩ | ⟨h318, h⟩
            · try simp (disch := first | assumption | (simp; done) | omega | (simp; omega)) only [push_cast, reduceCtorEq, Nat.reduceEqDiff, Nat.reduceAdd, Nat.reduceSub, Nat.reduceMul, Nat.reduceLeDiff, Nat.reduceLT, Int.reduceEq, Int.reduceNe, Int.reduceLT, Int.reduceLE, Int.reduceGT, Int.reduceGE, Int.reduceBEq, Int.reduceBNe, ↓reduceIte] at h318
              obtain rfl := Option.some.inj h
              simp (config := { maxSteps := 1000000 }) (disch := first | assumption | (simp; done) | omega | (simp; omega)) only [push_cast, reduceCtorEq, Nat.reduceEqDiff, Nat.reduceAdd, Nat.reduceSub, Nat.reduceMul, Nat.reduceLeDiff, Nat.reduceLT, Int.reduceEq, Int.reduceNe, Int.reduceLT, Int.reduceLE, Int.reduceGT, Int.reduceGE, Int.reduceBEq, Int.reduceBNe, ↓reduceIte, h299, h300, h301, h302, h304, h305, h306, h307, h309, h310, h311, h318]
              refine e_ret (.inr rfl) ?_
              simp (config := { maxSteps := 1000000 }) (disch := first | assumption | (simp; done) | omega | (simp; omega)) only [push_cast, reduceCtorEq, Nat.reduceEqDiff, Nat.reduceAdd, Nat.reduceSub, Nat.reduceMul, Nat.reduceLeDiff, Nat.reduceLT, Int.reduceEq, Int.reduceNe, Int.reduceLT, Int.reduceLE, Int.reduceGT, Int.reduceGE, Int.reduceBEq, Int.reduceBNe, ↓reduceIte, aret, aresults, aresult, h299, h300, h301, h302, h304, h305, h306, h307, h309, h310, h311, h318]
              refine ⟨_, rfl, ?_⟩
              first | (simp (config := { maxSteps := 1000000 }) (disch := first | assumption | (simp; done) | omega | (simp; omega)) only [push_cast, reduceCtorEq, Nat.reduceEqDiff, Nat.reduceAdd, Nat.reduceSub, Nat.reduceMul, Nat.reduceLeDiff, Nat.reduceLT, Int.reduceEq, Int.reduceNe, Int.reduceLT, Int.reduceLE, Int.reduceGT, Int.reduceGE, Int.reduceBEq, Int.reduceBNe, ↓reduceIte, h299, h300, h301, h302, h304, h305, h306, h307, h309, h310, h311, h318] <;> rfl) | rfl
            · try simp (disch := first | assumption | (simp; done) | omega | (simp; omega)) only [push_cast, reduceCtorEq, Nat.reduceEqDiff, Nat.reduceAdd, Nat.reduceSub, Nat.reduceMul, Nat.reduceLeDiff, Nat.reduceLT, Int.reduceEq, Int.reduceNe, Int.reduceLT, Int.reduceLE, Int.reduceGT, Int.reduceGE, Int.reduceBEq, Int.reduceBNe, ↓reduceIte] at h318
              rcases F_if h with ⟨h319, h⟩ | ⟨h319, h⟩
              · try simp (disch := first | assumption | (simp; done) | omega | (simp; omega)) only [push_cast, reduceCtorEq, Nat.reduceEqDiff, Nat.reduceAdd, Nat.reduceSub, Nat.reduceMul, Nat.reduceLeDiff, Nat.reduceLT, Int.reduceEq, Int.reduceNe, Int.reduceLT, Int.reduceLE, Int.reduceGT, Int.reduceGE, Int.reduceBEq, Int.reduceBNe, ↓reduceIte] at h319
                obtain rfl := Option.some.inj h
                simp (config := { maxSteps := 1000000 }) (disch := first | assumption | (simp; done) | omega | (simp; omega)) only [push_cast, reduceCtorEq, Nat.reduceEqDiff, Nat.reduceAdd, Nat.reduceSub, Nat.reduceMul, Nat.reduceLeDiff, Nat.reduceLT, Int.reduceEq, Int.reduceNe, Int.reduceLT, Int.reduceLE, Int.reduceGT, Int.reduceGE, Int.reduceBEq, Int.reduceBNe, ↓reduceIte, h299, h300, h301, h302, h304, h305, h306, h307, h309, h310, h311, h318, h319]
                refine e_ret (.inr rfl) ?_
                simp (config := { maxSteps := 1000000 }) (disch := first | assumption | (simp; done) | omega | (simp; omega)) only [push_cast, reduceCtorEq, Nat.reduceEqDiff, Nat.reduceAdd, Nat.reduceSub, Nat.reduceMul, Nat.reduceLeDiff, Nat.reduceLT, Int.reduceEq, Int.reduceNe, Int.reduceLT, Int.reduceLE, Int.reduceGT, Int.reduceGE, Int.reduceBEq, Int.reduceBNe, ↓reduceIte, aret, aresults, aresult, h299, h300, h301, h302, h304, h305, h306, h307, h309, h310, h311, h318, h319]
                refine ⟨_, rfl, ?_⟩
                first | (simp (config := { maxSteps := 1000000 }) (disch := first | assumption | (simp; done) | omega | (simp; omega)) only [push_cast, reduceCtorEq, Nat.reduceEqDiff, Nat.reduceAdd, Nat.reduceSub, Nat.reduceMul, Nat.reduceLeDiff, Nat.reduceLT, Int.reduceEq, Int.reduceNe, Int.reduceLT, Int.reduceLE, Int.reduceGT, Int.reduceGE, Int.reduceBEq, Int.reduceBNe, ↓reduceIte, h299, h300, h301, h302, h304, h305, h306, h307, h309, h310, h311, h318, h319] <;> rfl) | rfl
              · try simp (disch := first | assumption | (simp; done) | omega | (simp; omega)) only [push_cast, reduceCtorEq, Nat.reduceEqDiff, Nat.reduceAdd, Nat.reduceSub, Nat.reduceMul, Nat.reduceLeDiff, Nat.reduceLT, Int.reduceEq, Int.reduceNe, Int.reduceLT, Int.reduceLE, Int.reduceGT, Int.reduceGE, Int.reduceBEq, Int.reduceBNe, ↓reduceIte] at h319
                rcases F_if h with ⟨h320, h⟩ | ⟨h320, h⟩
                · try simp (disch := first | assumption | (simp; done) | omega | (simp; omega)) only [push_cast, reduceCtorEq, Nat.reduceEqDiff, Nat.reduceAdd, Nat.reduceSub, Nat.reduceMul, Nat.reduceLeDiff, Nat.reduceLT, Int.reduceEq, Int.reduceNe, Int.reduceLT, Int.reduceLE, Int.reduceGT, Int.reduceGE, Int.reduceBEq, Int.reduceBNe, ↓reduceIte] at h320
                  obtain rfl := Option.some.inj h
                  simp (config := { maxSteps := 1000000 }) (disch := first | assumption | (simp; done) | omega | (simp; omega)) only [push_cast, reduceCtorEq, Nat.reduceEqDiff, Nat.reduceAdd, Nat.reduceSub, Nat.reduceMul, Nat.reduceLeDiff, Nat.reduceLT, Int.reduceEq, Int.reduceNe, Int.reduceLT, Int.reduceLE, Int.reduceGT, Int.reduceGE, Int.reduceBEq, Int.reduceBNe, ↓reduceIte, h299, h300, h301, h302, h304, h305, h306, h307, h309, h310, h311, h318, h319, h320]
                  refine e_ret (.inr rfl) ?_
                  simp (config := { maxSteps := 1000000 }) (disch := first | assumption | (simp; done) | omega | (simp; omega)) only [push_cast, reduceCtorEq, Nat.reduceEqDiff, Nat.reduceAdd, Nat.reduceSub, Nat.reduceMul, Nat.reduceLeDiff, Nat.reduceLT, Int.reduceEq, Int.reduceNe, Int.reduceLT, Int.reduceLE, Int.reduceGT, Int.reduceGE, Int.reduceBEq, Int.reduceBNe, ↓reduceIte, aret, aresults, aresult, h299, h300, h301, h302, h304, h305, h306, h307, h309, h310, h311, h318, h319, h320]
                  refine ⟨_, rfl, ?_⟩
                  first | (simp (config := { maxSteps := 1000000 }) (disch := first | assumption | (simp; done) | omega | (simp; omega)) only [push_cast, reduceCtorEq, Nat.reduceEqDiff, Nat.reduceAdd, Nat.reduceSub, Nat.reduceMul, Nat.reduceLeDiff, Nat.reduceLT, Int.reduceEq, Int.reduceNe, Int.reduceLT, Int.reduceLE, Int.reduceGT, Int.reduceGE, Int.reduceBEq, Int.reduceBNe, ↓reduceIte, h299, h300, h301, h302, h304, h305, h306, h307, h309, h310, h311, h318, h319, h320] <;> rfl) | rfl
                · try simp (disch := first | assumption | (simp; done) | omega | (simp; omega)) only [push_cast, reduceCtorEq, Nat.reduceEqDiff, Nat.reduceAdd, Nat.reduceSub, Nat.reduceMul, Nat.reduceLeDiff, Nat.reduceLT, Int.reduceEq, Int.reduceNe, Int.reduceLT, Int.reduceLE, Int.reduceGT, Int.reduceGE, Int.reduceBEq, Int.reduceBNe, ↓reduceIte] at h320
                  rcases F_if h with ⟨h321, h⟩ | ⟨h321, h⟩
                  · try simp (disch := first | assumption | (simp; done) | omega | (simp; omega)) only [push_cast, reduceCtorEq, Nat.reduceEqDiff, Nat.reduceAdd, Nat.reduceSub, Nat.reduceMul, Nat.reduceLeDiff, Nat.reduceLT, Int.reduceEq, Int.reduceNe, Int.reduceLT, Int.reduceLE, Int.reduceGT, Int.reduceGE, Int.reduceBEq, Int.reduceBNe, ↓reduceIte] at h321
                    obtain rfl := Option.some.inj h
                    simp (config := { maxSteps := 1000000 }) (disch := first | assumption | (simp; done) | omega | (simp; omega)) only [push_cast, reduceCtorEq, Nat.reduceEqDiff, Nat.reduceAdd, Nat.reduceSub, Nat.reduceMul, Nat.reduceLeDiff, Nat.reduceLT, Int.reduceEq, Int.reduceNe, Int.reduceLT, Int.reduceLE, Int.reduceGT, Int.reduceGE, Int.reduceBEq, Int.reduceBNe, ↓reduceIte, h299, h300, h301, h302, h304, h305, h306, h307, h309, h310, h311, h318, h319, h320, h321]
                    refine e_ret (.inr rfl) ?_
                    simp (config := { maxSteps := 1000000 }) (disch := first | assumption | (simp; done) | omega | (simp; omega)) only [push_cast, reduceCtorEq, Nat.reduceEqDiff, Nat.reduceAdd, Nat.reduceSub, Nat.reduceMul, Nat.reduceLeDiff, Nat.reduceLT, Int.reduceEq, Int.reduceNe, Int.reduceLT, Int.reduceLE, Int.reduceGT, Int.reduceGE, Int.reduceBEq, Int.reduceBNe, ↓reduceIte, aret, aresults, aresult, h299, h300, h301, h302, h304, h305, h306, h307, h309, h310, h311, h318, h319, h320, h321]
                    refine ⟨_, rfl, ?_⟩
                    first | (simp (config := { maxSteps := 1000000 }) (disch := first | assumption | (simp; done) | omega | (simp; omega)) only [push_cast, reduceCtorEq, Nat.reduceEqDiff, Nat.reduceAdd, Nat.reduceSub, Nat.reduceMul, Nat.reduceLeDiff, Nat.reduceLT, Int.reduceEq, Int.reduceNe, Int.reduceLT, Int.reduceLE, Int.reduceGT, Int.reduceGE, Int.reduceBEq, Int.reduceBNe, ↓reduceIte, h299, h300, h301, h302, h304, h305, h306, h307, h309, h310, h311, h318, h319, h320, h321] <;> rfl) | rfl
                  · try simp (disch := first | assumption | (simp; done) | omega | (simp; omega)) only [push_cast, reduceCtorEq, Nat.reduceEqDiff, Nat.reduceAdd, Nat.reduceSub, Nat.reduceMul, Nat.reduceLeDiff, Nat.reduceLT, Int.reduceEq, Int.reduceNe, Int.reduceLT, Int.reduceLE, Int.reduceGT, Int.reduceGE, Int.reduceBEq, Int.reduceBNe, ↓reduceIte] at h321
                    rcases F_if h with ⟨h322, h⟩ | ⟨h322, h⟩
                    · try simp (disch := first | assumption | (simp; done) | omega | (simp; omega)) only [push_cast, reduceCtorEq, Nat.reduceEqDiff, Nat.reduceAdd, Nat.reduceSub, Nat.reduceMul, Nat.reduceLeDiff, Nat.reduceLT, Int.reduceEq, Int.reduceNe, Int.reduceLT, Int.reduceLE, Int.reduceGT, Int.reduceGE, Int.reduceBEq, Int.reduceBNe, ↓reduceIte] at h322
                      obtain rfl := Option.some.inj h
                      simp (config := { maxSteps := 1000000 }) (disch := first | assumption | (simp; done) | omega | (simp; omega)) only [push_cast, reduceCtorEq, Nat.reduceEqDiff, Nat.reduceAdd, Nat.reduceSub, Nat.reduceMul, Nat.reduceLeDiff, Nat.reduceLT, Int.reduceEq, Int.reduceNe, Int.reduceLT, Int.reduceLE, Int.reduceGT, Int.reduceGE, Int.reduceBEq, Int.reduceBNe, ↓reduceIte, h299, h300, h301, h302, h304, h305, h306, h307, h309, h310, h311, h318, h319, h320, h321, h322]
                      refine e_ret (.inr rfl) ?_
                      simp (config := { maxSteps := 1000000 }) (disch := first | assumption | (simp; done) | omega | (simp; omega)) only [push_cast, reduceCtorEq, Nat.reduceEqDiff, Nat.reduceAdd, Nat.reduceSub, Nat.reduceMul, Nat.reduceLeDiff, Nat.reduceLT, Int.reduceEq, Int.reduceNe, Int.reduceLT, Int.reduceLE, Int.reduceGT, Int.reduceGE, Int.reduceBEq, Int.reduceBNe, ↓reduceIte, aret, aresults, aresult, h299, h300, h301, h302, h304, h305, h306, h307, h309, h310, h311, h318, h319, h320, h321, h322]
                      refine ⟨_, rfl, ?_⟩
                      first | (simp (config := { maxSteps := 1000000 }) (disch := first | assumption | (simp; done) | omega | (simp; omega)) only [push_cast, reduceCtorEq, Nat.reduceEqDiff, Nat.reduceAdd, Nat.reduceSub, Nat.reduceMul, Nat.reduceLeDiff, Nat.reduceLT, Int.reduceEq, Int.reduceNe, Int.reduceLT, Int.reduceLE, Int.reduceGT, Int.reduceGE, Int.reduceBEq, Int.reduceBNe, ↓reduceIte, h299, h300, h301, h302, h304, h305, h306, h307, h309, h310, h311, h318, h319, h320, h321, h322] <;> rfl) | rfl
                    · try simp (disch := first | assumption | (simp; done) | omega | (simp; omega)) only [push_cast, reduceCtorEq, Nat.reduceEqDiff, Nat.reduceAdd, Nat.reduceSub, Nat.reduceMul, Nat.reduceLeDiff, Nat.reduceLT, Int.reduceEq, Int.reduceNe, Int.reduceLT, Int.reduceLE, Int.reduceGT, Int.reduceGE, Int.reduceBEq, Int.reduceBNe, ↓reduceIte] at h322
                      rcases F_if h with ⟨h323, h⟩ | ⟨h323, h⟩
                      · try simp (disch := first | assumption | (simp; done) | omega | (simp; omega)) only [push_cast, reduceCtorEq, Nat.reduceEqDiff, Nat.reduceAdd, Nat.reduceSub, Nat.reduceMul, Nat.reduceLeDiff, Nat.reduceLT, Int.reduceEq, Int.reduceNe, Int.reduceLT, Int.reduceLE, Int.reduceGT, Int.reduceGE, Int.reduceBEq, Int.reduceBNe, ↓reduceIte] at h323
                        obtain rfl := Option.some.inj h
                        simp (config := { maxSteps := 1000000 }) (disch := first | assumption | (simp; done) | omega | (simp; omega)) only [push_cast, reduceCtorEq, Nat.reduceEqDiff, Nat.reduceAdd, Nat.reduceSub, Nat.reduceMul, Nat.reduceLeDiff, Nat.reduceLT, Int.reduceEq, Int.reduceNe, Int.reduceLT, Int.reduceLE, Int.reduceGT, Int.reduceGE, Int.reduceBEq, Int.reduceBNe, ↓reduceIte, h299, h300, h301, h302, h304, h305, h306, h307, h309, h310, h311, h318, h319, h320, h321, h322, h323]
                        refine e_ret (.inr rfl) ?_
                        simp (config := { maxSteps := 1000000 }) (disch := first | assumption | (simp; done) | omega | (simp; omega)) only [push_cast, reduceCtorEq, Nat.reduceEqDiff, Nat.reduceAdd, Nat.reduceSub, Nat.reduceMul, Nat.reduceLeDiff, Nat.reduceLT, Int.reduceEq, Int.reduceNe, Int.reduceLT, Int.reduceLE, Int.reduceGT, Int.reduceGE, Int.reduceBEq, Int.reduceBNe, ↓reduceIte, aret, aresults, aresult, h299, h300, h301, h302, h304, h305, h306, h307, h309, h310, h311, h318, h319, h320, h321, h322, h323]
                        refine ⟨_, rfl, ?_⟩
                        first | (simp (config := { maxSteps := 1000000 }) (disch := first | assumption | (simp; done) | omega | (simp; omega)) only [push_cast, reduceCtorEq, Nat.reduceEqDiff, Nat.reduceAdd, Nat.reduceSub, Nat.reduceMul, Nat.reduceLeDiff, Nat.reduceLT, Int.reduceEq, Int.reduceNe, Int.reduceLT, Int.reduceLE, Int.reduceGT, Int.reduceGE, Int.reduceBEq, Int.reduceBNe, ↓reduceIte, h299, h300, h301, h302, h304, h305, h306, h307, h309, h310, h311, h318, h319, h320, h321, h322, h323] <;> rfl) | rfl
                      · try simp (disch := first | assumption | (simp; done) | omega | (simp; omega)) only [push_cast, reduceCtorEq, Nat.reduceEqDiff, Nat.reduceAdd, Nat.reduceSub, Nat.reduceMul, Nat.reduceLeDiff, Nat.reduceLT, Int.reduceEq, Int.reduceNe, Int.reduceLT, Int.reduceLE, Int.reduceGT, Int.reduceGE, Int.reduceBEq, Int.reduceBNe, ↓reduceIte] at h323
                        rcases F_if h with ⟨h324, h⟩ | ⟨h324, h⟩
                        · try simp (disch := first | assumption | (simp; done) | omega | (simp; omega)) only [push_cast, reduceCtorEq, Nat.reduceEqDiff, Nat.reduceAdd, Nat.reduceSub, Nat.reduceMul, Nat.reduceLeDiff, Nat.reduceLT, Int.reduceEq, Int.reduceNe, Int.reduceLT, Int.reduceLE, Int.reduceGT, Int.reduceGE, Int.reduceBEq, Int.reduceBNe, ↓reduceIte] at h324
                          obtain rfl := Option.some.inj h
                          simp (config := { maxSteps := 1000000 }) (disch := first | assumption | (simp; done) | omega | (simp; omega)) only [push_cast, reduceCtorEq, Nat.reduceEqDiff, Nat.reduceAdd, Nat.reduceSub, Nat.reduceMul, Nat.reduceLeDiff, Nat.reduceLT, Int.reduceEq, Int.reduceNe, Int.reduceLT, Int.reduceLE, Int.reduceGT, Int.reduceGE, Int.reduceBEq, Int.reduceBNe, ↓reduceIte, h299, h300, h301, h302, h304, h305, h306, h307, h309, h310, h311, h318, h319, h320, h321, h322, h323, h324]
                          refine e_ret (.inr rfl) ?_
                          simp (config := { maxSteps := 1000000 }) (disch := first | assumption | (simp; done) | omega | (simp; omega)) only [push_cast, reduceCtorEq, Nat.reduceEqDiff, Nat.reduceAdd, Nat.reduceSub, Nat.reduceMul, Nat.reduceLeDiff, Nat.reduceLT, Int.reduceEq, Int.reduceNe, Int.reduceLT, Int.reduceLE, Int.reduceGT, Int.reduceGE, Int.reduceBEq, Int.reduceBNe, ↓reduceIte, aret, aresults, aresult, h299, h300, h301, h302, h304, h305, h306, h307, h309, h310, h311, h318, h319, h320, h321, h322, h323, h324]
                          refine ⟨_, rfl, ?_⟩
                          first | (simp (config := { maxSteps := 1000000 }) (disch := first | assumption | (simp; done) | omega | (simp; omega)) only [push_cast, reduceCtorEq, Nat.reduceEqDiff, Nat.reduceAdd, Nat.reduceSub, Nat.reduceMul, Nat.reduceLeDiff, Nat.reduceLT, Int.reduceEq, Int.reduceNe, Int.reduceLT, Int.reduceLE, Int.reduceGT, Int.reduceGE, Int.reduceBEq, Int.reduceBNe, ↓reduceIte, h299, h300, h301, h302, h304, h305, h306, h307, h309, h310, h311, h318, h319, h320, h321, h322, h323, h324] <;> rfl) | rfl
                        · try simp (disch := first | assumption | (simp; done) | omega | (simp; omega)) only [push_cast, reduceCtorEq, Nat.reduceEqDiff, Nat.reduceAdd, Nat.reduceSub, Nat.reduceMul, Nat.reduceLeDiff, Nat.reduceLT, Int.reduceEq, Int.reduceNe, Int.reduceLT, Int.reduceLE, Int.reduceGT, Int.reduceGE, Int.reduceBEq, Int.reduceBNe, ↓reduceIte] at h324
                          obtain ⟨x11, h325, h326, h⟩ := F_get h
                          have h328 := get_lt h325 h326
                          have h327 := map_get Frame.row h326
                          try simp (disch := first | assumption | (simp; done) | omega | (simp; omega)) only [push_cast, reduceCtorEq, Nat.reduceEqDiff, Nat.reduceAdd, Nat.reduceSub, Nat.reduceMul, Nat.reduceLeDiff, Nat.reduceLT, Int.reduceEq, Int.reduceNe, Int.reduceLT, Int.reduceLE, Int.reduceGT, Int.reduceGE, Int.reduceBEq, Int.reduceBNe, ↓reduceIte] at h327
                          try simp (disch := first | assumption | (simp; done) | omega | (simp; omega)) only [push_cast, reduceCtorEq, Nat.reduceEqDiff, Nat.reduceAdd, Nat.reduceSub, Nat.reduceMul, Nat.reduceLeDiff, Nat.reduceLT, Int.reduceEq, Int.reduceNe, Int.reduceLT, Int.reduceLE, Int.reduceGT, Int.reduceGE, Int.reduceBEq, Int.reduceBNe, ↓reduceIte] at h328
                          obtain ⟨v12, h329, h⟩ := F_bd h
                          simp (config := { maxSteps := 1000000 }) (disch := first | assumption | (simp; done) | omega | (simp; omega)) only [push_cast, reduceCtorEq, Nat.reduceEqDiff, Nat.reduceAdd, Nat.reduceSub, Nat.reduceMul, Nat.reduceLeDiff, Nat.reduceLT, Int.reduceEq, Int.reduceNe, Int.reduceLT, Int.reduceLE, Int.reduceGT, Int.reduceGE, Int.reduceBEq, Int.reduceBNe, ↓reduceIte, h299, h300, h301, h302, h304, h305, h306, h307, h309, h310, h311, h318, h319, h320, h321, h322, h323, h324, h325, h327, h328]
                          refine call_new (by rfl) (c23 N _ _ _ h329) ?_ rfl ?_
                          · simp (config := { maxSteps := 1000000 }) (disch := first | assumption | (simp; done) | omega | (simp; omega)) only [push_cast, reduceCtorEq, Nat.reduceEqDiff, Nat.reduceAdd, Nat.reduceSub, Nat.reduceMul, Nat.reduceLeDiff, Nat.reduceLT, Int.reduceEq, Int.reduceNe, Int.reduceLT, Int.reduceLE, Int.reduceGT, Int.reduceGE, Int.reduceBEq, Int.reduceBNe, ↓reduceIte, h299, h300, h301, h302, h304, h305, h306, h307, h309, h310, h311, h318, h319, h320, h321, h322, h323, h324, h325, h327, h328] <;> rfl
                          obtain ⟨x13, h330, h331, h⟩ := F_get h
                          have h333 := get_lt h330 h331
                          have h332 := map_get Frame.row h331
                          try simp (disch := first | assumption | (simp; done) | omega | (simp; omega)) only [push_cast, reduceCtorEq, Nat.reduceEqDiff, Nat.reduceAdd, Nat.reduceSub, Nat.reduceMul, Nat.reduceLeDiff, Nat.reduceLT, Int.reduceEq, Int.reduceNe, Int.reduceLT, Int.reduceLE, Int.reduceGT, Int.reduceGE, Int.reduceBEq, Int.reduceBNe, ↓reduceIte] at h332
                          try simp (disch := first | assumption | (simp; done) | omega | (simp; omega)) only [push_cast, reduceCtorEq, Nat.reduceEqDiff, Nat.reduceAdd, Nat.reduceSub, Nat.reduceMul, Nat.reduceLeDiff, Nat.reduceLT, Int.reduceEq, Int.reduceNe, Int.reduceLT, Int.reduceLE, Int.reduceGT, Int.reduceGE, Int.reduceBEq, Int.reduceBNe, ↓reduceIte] at h333
                          obtain ⟨v14, h334, h⟩ := F_bd h
                          simp (config := { maxSteps := 1000000 }) (disch := first | assumption | (simp; done) | omega | (simp; omega)) only [push_cast, reduceCtorEq, Nat.reduceEqDiff, Nat.reduceAdd, Nat.reduceSub, Nat.reduceMul, Nat.reduceLeDiff, Nat.reduceLT, Int.reduceEq, Int.reduceNe, Int.reduceLT, Int.reduceLE, Int.reduceGT, Int.reduceGE, Int.reduceBEq, Int.reduceBNe, ↓reduceIte, h299, h300, h301, h302, h304, h305, h306, h307, h309, h310, h311, h318, h319, h320, h321, h322, h323, h324, h325, h327, h328, h330, h332, h333]
                          refine call_new (by rfl) (c23 N _ _ _ h334) ?_ rfl ?_
                          · simp (config := { maxSteps := 1000000 }) (disch := first | assumption | (simp; done) | omega | (simp; omega)) only [push_cast, reduceCtorEq, Nat.reduceEqDiff, Nat.reduceAdd, Nat.reduceSub, Nat.reduceMul, Nat.reduceLeDiff, Nat.reduceLT, Int.reduceEq, Int.reduceNe, Int.reduceLT, Int.reduceLE, Int.reduceGT, Int.reduceGE, Int.reduceBEq, Int.reduceBNe, ↓reduceIte, h299, h300, h301, h302, h304, h305, h306, h307, h309, h310, h311, h318, h319, h320, h321, h322, h323, h324, h325, h327, h328, h330, h332, h333] <;> rfl
                          rcases F_if h with ⟨h335, h⟩ | ⟨h335, h⟩
                          · try simp (disch := first | assumption | (simp; done) | omega | (simp; omega)) only [push_cast, reduceCtorEq, Nat.reduceEqDiff, Nat.reduceAdd, Nat.reduceSub, Nat.reduceMul, Nat.reduceLeDiff, Nat.reduceLT, Int.reduceEq, Int.reduceNe, Int.reduceLT, Int.reduceLE, Int.reduceGT, Int.reduceGE, Int.reduceBEq, Int.reduceBNe, ↓reduceIte] at h335
                            obtain ⟨v15, h336, h⟩ := F_bd h
                            simp (config := { maxSteps := 1000000 }) (disch := first | assumption | (simp; done) | omega | (simp; omega)) only [push_cast, reduceCtorEq, Nat.reduceEqDiff, Nat.reduceAdd, Nat.reduceSub, Nat.reduceMul, Nat.reduceLeDiff, Nat.reduceLT, Int.reduceEq, Int.reduceNe, Int.reduceLT, Int.reduceLE, Int.reduceGT, Int.reduceGE, Int.reduceBEq, Int.reduceBNe, ↓reduceIte, h299, h300, h301, h302, h304, h305, h306, h307, h309, h310, h311, h318, h319, h320, h321, h322, h323, h324, h325, h327, h328, h330, h332, h333, h335]
                            refine call_flat (by rfl) (c21 N _ _ _ h336) ?_ rfl ?_
                            · simp (config := { maxSteps := 1000000 }) (disch := first | assumption | (simp; done) | omega | (simp; omega)) only [push_cast, reduceCtorEq, Nat.reduceEqDiff, Nat.reduceAdd, Nat.reduceSub, Nat.reduceMul, Nat.reduceLeDiff, Nat.reduceLT, Int.reduceEq, Int.reduceNe, Int.reduceLT, Int.reduceLE, Int.reduceGT, Int.reduceGE, Int.reduceBEq, Int.reduceBNe, ↓reduceIte, h299, h300, h301, h302, h304, h305, h306, h307, h309, h310, h311, h318, h319, h320, h321, h322, h323, h324, h325, h327, h328, h330, h332, h333, h335] <;> rfl
                            rcases F_if h with ⟨h337, h⟩ | ⟨h337, h⟩
                            · try simp (disch := first | assumption | (simp; done) | omega | (simp; omega)) only [push_cast, reduceCtorEq, Nat.reduceEqDiff, Nat.reduceAdd, Nat.reduceSub, Nat.reduceMul, Nat.reduceLeDiff, Nat.reduceLT, Int.reduceEq, Int.reduceNe, Int.reduceLT, Int.reduceLE, Int.reduceGT, Int.reduceGE, Int.reduceBEq, Int.reduceBNe, ↓reduceIte] at h337
                              rcases F_if h with ⟨h338, h⟩ | ⟨h338, h⟩
                              · try simp (disch := first | assumption | (simp; done) | omega | (simp; omega)) only [push_cast, reduceCtorEq, Nat.reduceEqDiff, Nat.reduceAdd, Nat.reduceSub, Nat.reduceMul, Nat.reduceLeDiff, Nat.reduceLT, Int.reduceEq, Int.reduceNe, Int.reduceLT, Int.reduceLE, Int.reduceGT, Int.reduceGE, Int.reduceBEq, Int.reduceBNe, ↓reduceIte] at h338
                                rcases F_if h with ⟨h339, h⟩ | ⟨h339, h⟩
                                · try simp (disch := first | assumption | (simp; done) | omega | (simp; omega)) only [push_cast, reduceCtorEq, Nat.reduceEqDiff, Nat.reduceAdd, Nat.reduceSub, Nat.reduceMul, Nat.reduceLeDiff, Nat.reduceLT, Int.reduceEq, Int.reduceNe, Int.reduceLT, Int.reduceLE, Int.reduceGT, Int.reduceGE, Int.reduceBEq, Int.reduceBNe, ↓reduceIte] at h339
                                  obtain ⟨v16, h340, h⟩ := F_bd h
                                  simp (config := { maxSteps := 1000000 }) (disch := first | assumption | (simp; done) | omega | (simp; omega)) only [push_cast, reduceCtorEq, Nat.reduceEqDiff, Nat.reduceAdd, Nat.reduceSub, Nat.reduceMul, Nat.reduceLeDiff, Nat.reduceLT, Int.reduceEq, Int.reduceNe, Int.reduceLT, Int.reduceLE, Int.reduceGT, Int.reduceGE, Int.reduceBEq, Int.reduceBNe, ↓reduceIte, h299, h300, h301, h302, h304, h305, h306, h307, h309, h310, h311, h318, h319, h320, h321, h322, h323, h324, h325, h327, h328, h330, h332, h333, h335, h337, h338, h339]
                                  refine call_flat (by rfl) (c21 N _ _ _ h340) ?_ rfl ?_
                                  · simp (config := { maxSteps := 1000000 }) (disch := first | assumption | (simp; done) | omega | (simp; omega)) only [push_cast, reduceCtorEq, Nat.reduceEqDiff, Nat.reduceAdd, Nat.reduceSub, Nat.reduceMul, Nat.reduceLeDiff, Nat.reduceLT, Int.reduceEq, Int.reduceNe, Int.reduceLT, Int.reduceLE, Int.reduceGT, Int.reduceGE, Int.reduceBEq, Int.reduceBNe, ↓reduceIte, h299, h300, h301, h302, h304, h305, h306, h307, h309, h310, h311, h318, h319, h320, h321, h322, h323, h324, h325, h327, h328, h330, h332, h333, h335, h337, h338, h339] <;> rfl
                                  rcases F_if h with ⟨h341, h⟩ | ⟨h341, h⟩
                                  · try simp (disch := first | assumption | (simp; done) | omega | (simp; omega)) only [push_cast, reduceCtorEq, Nat.reduceEqDiff, Nat.reduceAdd, Nat.reduceSub, Nat.reduceMul, Nat.reduceLeDiff, Nat.reduceLT, Int.reduceEq, Int.reduceNe, Int.reduceLT, Int.reduceLE, Int.reduceGT, Int.reduceGE, Int.reduceBEq, Int.reduceBNe, ↓reduceIte] at h341
                                    rcases F_if h with ⟨h342, h⟩ | ⟨h342, h⟩
                                    · try simp (disch := first | assumption | (simp; done) | omega | (simp; omega)) only [push_cast, reduceCtorEq, Nat.reduceEqDiff, Nat.reduceAdd, Nat.reduceSub, Nat.reduceMul, Nat.reduceLeDiff, Nat.reduceLT, Int.reduceEq, Int.reduceNe, Int.reduceLT, Int.reduceLE, Int.reduceGT, Int.reduceGE, Int.reduceBEq, Int.reduceBNe, ↓reduceIte] at h342
                                      rcases F_if h with ⟨h343, h⟩ | ⟨h343, h⟩
                                      · try simp (disch := first | assumption | (simp; done) | omega | (simp; omega)) only [push_cast, reduceCtorEq, Nat.reduceEqDiff, Nat.reduceAdd, Nat.reduceSub, Nat.reduceMul, Nat.reduceLeDiff, Nat.reduceLT, Int.reduceEq, Int.reduceNe, Int.reduceLT, Int.reduceLE, Int.reduceGT, Int.reduceGE, Int.reduceBEq, Int.reduceBNe, ↓reduceIte] at h343
                                        rcases F_if h with ⟨h344, h⟩ | ⟨h344, h⟩
                                        · try simp (disch := first | assumption | (simp; done) | omega | (simp; omega)) only [push_cast, reduceCtorEq, Nat.reduceEqDiff, Nat.reduceAdd, Nat.reduceSub, Nat.reduceMul, Nat.reduceLeDiff, Nat.reduceLT, Int.reduceEq, Int.reduceNe, Int.reduceLT, Int.reduceLE, Int.reduceGT, Int.reduceGE, Int.reduceBEq, Int.reduceBNe, ↓reduceIte] at h344
                                          rcases F_if h with ⟨h345, h⟩ | ⟨h345, h⟩
                                          · try simp (disch := first | assumption | (simp; done) | omega | (simp; omega)) only [push_cast, reduceCtorEq, Nat.reduceEqDiff, Nat.reduceAdd, Nat.reduceSub, Nat.reduceMul, Nat.reduceLeDiff, Nat.reduceLT, Int.reduceEq, Int.reduceNe, Int.reduceLT, Int.reduceLE, Int.reduceGT, Int.reduceGE, Int.reduceBEq, Int.reduceBNe, ↓reduceIte] at h345
                                            obtain ⟨v17, h346, h⟩ := F_bd h
                                            simp (config := { maxSteps := 1000000 }) (disch := first | assumption | (simp; done) | omega | (simp; omega)) only [push_cast, reduceCtorEq, Nat.reduceEqDiff, Nat.reduceAdd, Nat.reduceSub, Nat.reduceMul, Nat.reduceLeDiff, Nat.reduceLT, Int.reduceEq, Int.reduceNe, Int.reduceLT, Int.reduceLE, Int.reduceGT, Int.reduceGE, Int.reduceBEq, Int.reduceBNe, ↓reduceIte, h299, h300, h301, h302, h304, h305, h306, h307, h309, h310, h311, h318, h319, h320, h321, h322, h323, h324, h325, h327, h328, h330, h332, h333, h335, h337, h338, h339, h341, h342, h343, h344, h345]
                                            refine call_flat (by rfl) (c21 N _ _ _ h346) ?_ rfl ?_
                                            · simp (config := { maxSteps := 1000000 }) (disch := first | assumption | (simp; done) | omega | (simp; omega)) only [push_cast, reduceCtorEq, Nat.reduceEqDiff, Nat.reduceAdd, Nat.reduceSub, Nat.reduceMul, Nat.reduceLeDiff, Nat.reduceLT, Int.reduceEq, Int.reduceNe, Int.reduceLT, Int.reduceLE, Int.reduceGT, Int.reduceGE, Int.reduceBEq, Int.reduceBNe, ↓reduceIte, h299, h300, h301, h302, h304, h305, h306, h307, h309, h310, h311, h318, h319, h320, h321, h322, h323, h324, h325, h327, h328, h330, h332, h333, h335, h337, h338, h339, h341, h342, h343, h344, h345] <;> rfl
                                            rcases F_if h with ⟨h347, h⟩ | ⟨h347, h⟩
                                            · try simp (disch := first | assumption | (simp; done) | omega | (simp; omega)) only [push_cast, reduceCtorEq, Nat.reduceEqDiff, Nat.reduceAdd, Nat.reduceSub, Nat.reduceMul, Nat.reduceLeDiff, Nat.reduceLT, Int.reduceEq, Int.reduceNe, Int.reduceLT, Int.reduceLE, Int.reduceGT, Int.reduceGE, Int.reduceBEq, Int.reduceBNe, ↓reduceIte] at h347
                                              obtain rfl := Option.some.inj h
                                              simp (config := { maxSteps := 1000000 }) (disch := first | assumption | (simp; done) | omega | (simp; omega)) only [push_cast, reduceCtorEq, Nat.reduceEqDiff, Nat.reduceAdd, Nat.reduceSub, Nat.reduceMul, Nat.reduceLeDiff, Nat.reduceLT, Int.reduceEq, Int.reduceNe, Int.reduceLT, Int.reduceLE, Int.reduceGT, Int.reduceGE, Int.reduceBEq, Int.reduceBNe, ↓reduceIte, h299, h300, h301, h302, h304, h305, h306, h307, h309, h310, h311, h318, h319, h320, h321, h322, h323, h324, h325, h327, h328, h330, h332, h333, h335, h337, h338, h339, h341, h342, h343, h344, h345, h347]
                                              refine e_ret (.inr rfl) ?_
                                              simp (config := { maxSteps := 1000000 }) (disch := first | assumption | (simp; done) | omega | (simp; omega)) only [push_cast, reduceCtorEq, Nat.reduceEqDiff, Nat.reduceAdd, Nat.reduceSub, Nat.reduceMul, Nat.reduceLeDiff, Nat.reduceLT, Int.reduceEq, Int.reduceNe, Int.reduceLT, Int.reduceLE, Int.reduceGT, Int.reduceGE, Int.reduceBEq, Int.reduceBNe, ↓reduceIte, aret, aresults, aresult, h299, h300, h301, h302, h304, h305, h306, h307, h309, h310, h311, h318, h319, h320, h321, h322, h323, h324, h325, h327, h328, h330, h332, h333, h335, h337, h338, h339, h341, h342, h343, h344, h345, h347]
                                              refine ⟨_, rfl, ?_⟩
                                              first | (simp (config := { maxSteps := 1000000 }) (disch := first | assumption | (simp; done) | omega | (simp; omega)) only [push_cast, reduceCtorEq, Nat.reduceEqDiff, Nat.reduceAdd, Nat.reduceSub, Nat.reduceMul, Nat.reduceLeDiff, Nat.reduceLT, Int.reduceEq, Int.reduceNe, Int.reduceLT, Int.reduceLE, Int.reduceGT, Int.reduceGE, Int.reduceBEq, Int.reduceBNe, ↓reduceIte, h299, h300, h301, h302, h304, h305, h306, h307, h309, h310, h311, h318, h319, h320, h321, h322, h323, h324, h325, h327, h328, h330, h332, h333, h335, h337, h338, h339, h341, h342, h343, h344, h345, h347] <;> rfl) | rfl
                                            · try simp (disch := first | assumption | (simp; done) | omega | (simp; omega)) only [push_cast, reduceCtorEq, Nat.reduceEqDiff, Nat.reduceAdd, Nat.reduceSub, Nat.reduceMul, Nat.reduceLeDiff, Nat.reduceLT, Int.reduceEq, Int.reduceNe, Int.reduceLT, Int.reduceLE, Int.reduceGT, Int.reduceGE, Int.reduceBEq, Int.reduceBNe, ↓reduceIte] at h347
                                              obtain rfl := Option.some.inj h
                                              simp (config := { maxSteps := 1000000 }) (disch := first | assumption | (simp; done) | omega | (simp; omega)) only [push_cast, reduceCtorEq, Nat.reduceEqDiff, Nat.reduceAdd, Nat.reduceSub, Nat.reduceMul, Nat.reduceLeDiff, Nat.reduceLT, Int.reduceEq, Int.reduceNe, Int.reduceLT, Int.reduceLE, Int.reduceGT, Int.reduceGE, Int.reduceBEq, Int.reduceBNe, ↓reduceIte, h299, h300, h301, h302, h304, h305, h306, h307, h309, h310, h311, h318, h319, h320, h321, h322, h323, h324, h325, h327, h328, h330, h332, h333, h335, h337, h338, h339, h341, h342, h343, h344, h345, h347]
                                              refine e_ret (.inr rfl) ?_
                                              simp (config := { maxSteps := 1000000 }) (disch := first | assumption | (simp; done) | omega | (simp; omega)) only [push_cast, reduceCtorEq, Nat.reduceEqDiff, Nat.reduceAdd, Nat.reduceSub, Nat.reduceMul, Nat.reduceLeDiff, Nat.reduceLT, Int.reduceEq, Int.reduceNe, Int.reduceLT, Int.reduceLE, Int.reduceGT, Int.reduceGE, Int.reduceBEq, Int.reduceBNe, ↓reduceIte, aret, aresults, aresult, h299, h300, h301, h302, h304, h305, h306, h307, h309, h310, h311, h318, h319, h320, h321, h322, h323, h324, h325, h327, h328, h330, h332, h333, h335, h337, h338, h339, h341, h342, h343, h344, h345, h347]
                                              refine ⟨_, rfl, ?_⟩
                                              first | (simp (config := { maxSteps := 1000000 }) (disch := first | assumption | (simp; done) | omega | (simp; omega)) only [push_cast, reduceCtorEq, Nat.reduceEqDiff, Nat.reduceAdd, Nat.reduceSub, Nat.reduceMul, Nat.reduceLeDiff, Nat.reduceLT, Int.reduceEq, Int.reduceNe, Int.reduceLT, Int.reduceLE, Int.reduceGT, Int.reduceGE, Int.reduceBEq, Int.reduceBNe, ↓reduceIte, h299, h300, h301, h302, h304, h305, h306, h307, h309, h310, h311, h318, h319, h320, h321, h322, h323, h324, h325, h327, h328, h330, h332, h333, h335, h337, h338, h339, h341, h342, h343, h344, h345, h347] <;> rfl) | rfl
                                          · try simp (disch := first | assumption | (simp; done) | omega | (simp; omega)) only [push_cast, reduceCtorEq, Nat.reduceEqDiff, Nat.reduceAdd, Nat.reduceSub, Nat.reduceMul, Nat.reduceLeDiff, Nat.reduceLT, Int.reduceEq, Int.reduceNe, Int.reduceLT, Int.reduceLE, Int.reduceGT, Int.reduceGE, Int.reduceBEq, Int.reduceBNe, ↓reduceIte] at h345
                                            obtain rfl := Option.some.inj h
                                            simp (config := { maxSteps := 1000000 }) (disch := first | assumption | (simp; done) | omega | (simp; omega)) only [push_cast, reduceCtorEq, Nat.reduceEqDiff, Nat.reduceAdd, Nat.reduceSub, Nat.reduceMul, Nat.reduceLeDiff, Nat.reduceLT, Int.reduceEq, Int.reduceNe, Int.reduceLT, Int.reduceLE, Int.reduceGT, Int.reduceGE, Int.reduceBEq, Int.reduceBNe, ↓reduceIte, h299, h300, h301, h302, h304, h305, h306, h307, h309, h310, h311, h318, h319, h320, h321, h322, h323, h324, h325, h327, h328, h330, h332, h333, h335, h337, h338, h339, h341, h342, h343, h344, h345]
                                            refine e_ret (.inr rfl) ?_
                                            simp (config := { maxSteps := 1000000 }) (disch := first | assumption | (simp; done) | omega | (simp; omega)) only [push_cast, reduceCtorEq, Nat.reduceEqDiff, Nat.reduceAdd, Nat.reduceSub, Nat.reduceMul, Nat.reduceLeDiff, Nat.reduceLT, Int.reduceEq, Int.reduceNe, Int.reduceLT, Int.reduceLE, Int.reduceGT, Int.reduceGE, Int.reduceBEq, Int.reduceBNe, ↓reduceIte, aret, aresults, aresult, h299, h300, h301, h302, h304, h305, h306, h307, h309, h310, h311, h318, h319, h320, h321, h322, h323, h324, h325, h327, h328, h330, h332, h333, h335, h337, h338, h339, h341, h342, h343, h344, h345]
                                            refine ⟨_, rfl, ?_⟩
                                            first | (simp (config := { maxSteps := 1000000 }) (disch := first | assumption | (simp; done) | omega | (simp; omega)) only [push_cast, reduceCtorEq, Nat.reduceEqDiff, Nat.reduceAdd, Nat.reduceSub, Nat.reduceMul, Nat.reduceLeDiff, Nat.reduceLT, Int.reduceEq, Int.reduceNe, Int.reduceLT, Int.reduceLE, Int.reduceGT, Int.reduceGE, Int.reduceBEq, Int.reduceBNe, ↓reduceIte, h299, h300, h301, h302, h304, h305, h306, h307, h309, h310, h311, h318, h319, h320, h321, h322, h323, h324, h325, h327, h328, h330, h332, h333, h335, h337, h338, h339, h341, h342, h343, h344, h345] <;> rfl) | rfl
                                        · try simp (disch := first | assumption | (simp; done) | omega | (simp; omega)) only [push_cast, reduceCtorEq, Nat.reduceEqDiff, Nat.reduceAdd, Nat.reduceSub, Nat.reduceMul, Nat.reduceLeDiff, Nat.reduceLT, Int.reduceEq, Int.reduceNe, Int.reduceLT, Int.reduceLE, Int.reduceGT, Int.reduceGE, Int.reduceBEq, Int.reduceBNe, ↓reduceIte] at h344
                                          obtain rfl := Option.some.inj h
                                          simp (config := { maxSteps := 1000000 }) (disch := first | assumption | (simp; done) | omega | (simp; omega)) only [push_cast, reduceCtorEq, Nat.reduceEqDiff, Nat.reduceAdd, Nat.reduceSub, Nat.reduceMul, Nat.reduceLeDiff, Nat.reduceLT, Int.reduceEq, Int.reduceNe, Int.reduceLT, Int.reduceLE, Int.reduceGT, Int.reduceGE, Int.reduceBEq, Int.reduceBNe, ↓reduceIte, h299, h300, h301, h302, h304, h305, h306, h307, h309, h310, h311, h318, h319, h320, h321, h322, h323, h324, h325, h327, h328, h330, h332, h333, h335, h337, h338, h339, h341, h342, h343, h344]
                                          refine e_ret (.inr rfl) ?_
                                          simp (config := { maxSteps := 1000000 }) (disch := first | assumption | (simp; done) | omega | (simp; omega)) only [push_cast, reduceCtorEq, Nat.reduceEqDiff, Nat.reduceAdd, Nat.reduceSub, Nat.reduceMul, Nat.reduceLeDiff, Nat.reduceLT, Int.reduceEq, Int.reduceNe, Int.reduceLT, Int.reduceLE, Int.reduceGT, Int.reduceGE, Int.reduceBEq, Int.reduceBNe, ↓reduceIte, aret, aresults, aresult, h299, h300, h301, h302, h304, h305, h306, h307, h309, h310, h311, h318, h319, h320, h321, h322, h323, h324, h325, h327, h328, h330, h332, h333, h335, h337, h338, h339, h341, h342, h343, h344]
                                          refine ⟨_, rfl, ?_⟩
                                          first | (simp (config := { maxSteps := 1000000 }) (disch := first | assumption | (simp; done) | omega | (simp; omega)) only [push_cast, reduceCtorEq, Nat.reduceEqDiff, Nat.reduceAdd, Nat.reduceSub, Nat.reduceMul, Nat.reduceLeDiff, Nat.reduceLT, Int.reduceEq, Int.reduceNe, Int.reduceLT, Int.reduceLE, Int.reduceGT, Int.reduceGE, Int.reduceBEq, Int.reduceBNe, ↓reduceIte, h299, h300, h301, h302, h304, h305, h306, h307, h309, h310, h311, h318, h319, h320, h321, h322, h323, h324, h325, h327, h328, h330, h332, h333, h335, h337, h338, h339, h341, h342, h343, h344] <;> rfl) | rfl
                                      · try simp (disch := first | assumption | (simp; done) | omega | (simp; omega)) only [push_cast, reduceCtorEq, Nat.reduceEqDiff, Nat.reduceAdd, Nat.reduceSub, Nat.reduceMul, Nat.reduceLeDiff, Nat.reduceLT, Int.reduceEq, Int.reduceNe, Int.reduceLT, Int.reduceLE, Int.reduceGT, Int.reduceGE, Int.reduceBEq, Int.reduceBNe, ↓reduceIte] at h343
                                        obtain rfl := Option.some.inj h
                                        simp (config := { maxSteps := 1000000 }) (disch := first | assumption | (simp; done) | omega | (simp; omega)) only [push_cast, reduceCtorEq, Nat.reduceEqDiff, Nat.reduceAdd, Nat.reduceSub, Nat.reduceMul, Nat.reduceLeDiff, Nat.reduceLT, Int.reduceEq, Int.reduceNe, Int.reduceLT, Int.reduceLE, Int.reduceGT, Int.reduceGE, Int.reduceBEq, Int.reduceBNe, ↓reduceIte, h299, h300, h301, h302, h304, h305, h306, h307, h309, h310, h311, h318, h319, h320, h321, h322, h323, h324, h325, h327, h328, h330, h332, h333, h335, h337, h338, h339, h341, h342, h343]
                                        refine e_ret (.inr rfl) ?_
                                        simp (config := { maxSteps := 1000000 }) (disch := first | assumption | (simp; done) | omega | (simp; omega)) only [push_cast, reduceCtorEq, Nat.reduceEqDiff, Nat.reduceAdd, Nat.reduceSub, Nat.reduceMul, Nat.reduceLeDiff, Nat.reduceLT, Int.reduceEq, Int.reduceNe, Int.reduceLT, Int.reduceLE, Int.reduceGT, Int.reduceGE, Int.reduceBEq, Int.reduceBNe, ↓reduceIte, aret, aresults, aresult, h299, h300, h301, h302, h304, h305, h306, h307, h309, h310, h311, h318, h319, h320, h321, h322, h323, h324, h325, h327, h328, h330, h332, h333, h335, h337, h338, h339, h341, h342, h343]
                                        refine ⟨_, rfl, ?_⟩
                                        first | (simp (config := { maxSteps := 1000000 }) (disch := first | assumption | (simp; done) | omega | (simp; omega)) only [push_cast, reduceCtorEq, Nat.reduceEqDiff, Nat.reduceAdd, Nat.reduceSub, Nat.reduceMul, Nat.reduceLeDiff, Nat.reduceLT, Int.reduceEq, Int.reduceNe, Int.reduceLT, Int.reduceLE, Int.reduceGT, Int.reduceGE, Int.reduceBEq, Int.reduceBNe, ↓reduceIte, h299, h300, h301, h302, h304, h305, h306, h307, h309, h310, h311, h318, h319, h320, h321, h322, h323, h324, h325, h327, h328, h330, h332, h333, h335, h337, h338, h339, h341, h342, h343] <;> rfl) | rfl
                                    · try simp (disch := first | assumption | (simp; done) | omega | (simp; omega)) only [push_cast, reduceCtorEq, Nat.reduceEqDiff, Nat.reduceAdd, Nat.reduceSub, Nat.reduceMul, Nat.reduceLeDiff, Nat.reduceLT, Int.reduceEq, Int.reduceNe, Int.reduceLT, Int.reduceLE, Int.reduceGT, Int.reduceGE, Int.reduceBEq, Int.reduceBNe, ↓reduceIte] at h342
                                      obtain rfl := Option.some.inj h
                                      simp (config := { maxSteps := 1000000 }) (disch := first | assumption | (simp; done) | omega | (simp; omega)) only [push_cast, reduceCtorEq, Nat.reduceEqDiff, Nat.reduceAdd, Nat.reduceSub, Nat.reduceMul, Nat.reduceLeDiff, Nat.reduceLT, Int.reduceEq, Int.reduceNe, Int.reduceLT, Int.reduceLE, Int.reduceGT, Int.reduceGE, Int.reduceBEq, Int.reduceBNe, ↓reduceIte, h299, h300, h301, h302, h304, h305, h306, h307, h309, h310, h311, h318, h319, h320, h321, h322, h323, h324, h325, h327, h328, h330, h332, h333, h335, h337, h338, h339, h341, h342]
                                      refine e_ret (.inr rfl) ?_
                                      simp (config := { maxSteps := 1000000 }) (disch := first | assumption | (simp; done) | omega | (simp; omega)) only [push_cast, reduceCtorEq, Nat.reduceEqDiff, Nat.reduceAdd, Nat.reduceSub, Nat.reduceMul, Nat.reduceLeDiff, Nat.reduceLT, Int.reduceEq, Int.reduceNe, Int.reduceLT, Int.reduceLE, Int.reduceGT, Int.reduceGE, Int.reduceBEq, Int.reduceBNe, ↓reduceIte, aret, aresults, aresult, h299, h300, h301, h302, h304, h305, h306, h307, h309, h310, h311, h318, h319, h320, h321, h322, h323, h324, h325, h327, h328, h330, h332, h333, h335, h337, h338, h339, h341, h342]
                                      refine ⟨_, rfl, ?_⟩
                                      first | (simp (config := { maxSteps := 1000000 }) (disch := first | assumption | (simp; done) | omega | (simp; omega)) only [push_cast, reduceCtorEq, Nat.reduceEqDiff, Nat.reduceAdd, Nat.reduceSub, Nat.reduceMul, Nat.reduceLeDiff, Nat.reduceLT, Int.reduceEq, Int.reduceNe, Int.reduceLT, Int.reduceLE, Int.reduceGT, Int.reduceGE, Int.reduceBEq, Int.reduceBNe, ↓reduceIte, h299, h300, h301, h302, h304, h305, h306, h307, h309, h310, h311, h318, h319, h320, h321, h322, h323, h324, h325, h327, h328, h330, h332, h333, h335, h337, h338, h339, h341, h342] <;> rfl) | rfl
                                  · try simp (disch := first | assumption | (simp; done) | omega | (simp; omega)) only [push_cast, reduceCtorEq, Nat.reduceEqDiff, Nat.reduceAdd, Nat.reduceSub, Nat.reduceMul, Nat.reduceLeDiff, Nat.reduceLT, Int.reduceEq, Int.reduceNe, Int.reduceLT, Int.reduceLE, Int.reduceGT, Int.reduceGE, Int.reduceBEq, Int.reduceBNe, ↓reduceIte] at h341
                                    obtain rfl := Option.some.inj h
                                    simp (config := { maxSteps := 1000000 }) (disch := first | assumption | (simp; done) | omega | (simp; omega)) only [push_cast, reduceCtorEq, Nat.reduceEqDiff, Nat.reduceAdd, Nat.reduceSub, Nat.reduceMul, Nat.reduceLeDiff, Nat.reduceLT, Int.reduceEq, Int.reduceNe, Int.reduceLT, Int.reduceLE, Int.reduceGT, Int.reduceGE, Int.reduceBEq, Int.reduceBNe, ↓reduceIte, h299, h300, h301, h302, h304, h305, h306, h307, h309, h310, h311, h318, h319, h320, h321, h322, h323, h324, h325, h327, h328, h330, h332, h333, h335, h337, h338, h339, h341]
                                    refine e_ret (.inr rfl) ?_
                                    simp (config := { maxSteps := 1000000 }) (disch := first | assumption | (simp; done) | omega | (simp; omega)) only [push_cast, reduceCtorEq, Nat.reduceEqDiff, Nat.reduceAdd, Nat.reduceSub, Nat.reduceMul, Nat.reduceLeDiff, Nat.reduceLT, Int.reduceEq, Int.reduceNe, Int.reduceLT, Int.reduceLE, Int.reduceGT, Int.reduceGE, Int.reduceBEq, Int.reduceBNe, ↓reduceIte, aret, aresults, aresult, h299, h300, h301, h302, h304, h305, h306, h307, h309, h310, h311, h318, h319, h320, h321, h322, h323, h324, h325, h327, h328, h330, h332, h333, h335, h337, h338, h339, h341]
                                    refine ⟨_, rfl, ?_⟩
                                    first | (simp (config := { maxSteps := 1000000 }) (disch := first | assumption | (simp; done) | omega | (simp; omega)) only [push_cast, reduceCtorEq, Nat.reduceEqDiff, Nat.reduceAdd, Nat.reduceSub, Nat.reduceMul, Nat.reduceLeDiff, Nat.reduceLT, Int.reduceEq, Int.reduceNe, Int.reduceLT, Int.reduceLE, Int.reduceGT, Int.reduceGE, Int.reduceBEq, Int.reduceBNe, ↓reduceIte, h299, h300, h301, h302, h304, h305, h306, h307, h309, h310, h311, h318, h319, h320, h321, h322, h323, h324, h325, h327, h328, h330, h332, h333, h335, h337, h338, h339, h341] <;> rfl) | rfl
                                · try simp (disch := first | assumption | (simp; done) | omega | (simp; omega)) only [push_cast, reduceCtorEq, Nat.reduceEqDiff, Nat.reduceAdd, Nat.reduceSub, Nat.reduceMul, Nat.reduceLeDiff, Nat.reduceLT, Int.reduceEq, Int.reduceNe, Int.reduceLT, Int.reduceLE, Int.reduceGT, Int.reduceGE, Int.reduceBEq, Int.reduceBNe, ↓reduceIte] at h339
                                  obtain rfl := Option.some.inj h
                                  simp (config := { maxSteps := 1000000 }) (disch := first | assumption | (simp; done) | omega | (simp; omega)) only [push_cast, reduceCtorEq, Nat.reduceEqDiff, Nat.reduceAdd, Nat.reduceSub, Nat.reduceMul, Nat.reduceLeDiff, Nat.reduceLT, Int.reduceEq, Int.reduceNe, Int.reduceLT, Int.reduceLE, Int.reduceGT, Int.reduceGE, Int.reduceBEq, Int.reduceBNe, ↓reduceIte, h299, h300, h301, h302, h304, h305, h306, h307, h309, h310, h311, h318, h319, h320, h321, h322, h323, h324, h325, h327, h328, h330, h332, h333, h335, h337, h338, h339]
                                  refine e_ret (.inr rfl) ?_
                                  simp (config := { maxSteps := 1000000 }) (disch := first | assumption | (simp; done) | omega | (simp; omega)) only [push_cast, reduceCtorEq, Nat.reduceEqDiff, Nat.reduceAdd, Nat.reduceSub, Nat.reduceMul, Nat.reduceLeDiff, Nat.reduceLT, Int.reduceEq, Int.reduceNe, Int.reduceLT, Int.reduceLE, Int.reduceGT, Int.reduceGE, Int.reduceBEq, Int.reduceBNe, ↓reduceIte, aret, aresults, aresult, h299, h300, h301, h302, h304, h305, h306, h307, h309, h310, h311, h318, h319, h320, h321, h322, h323, h324, h325, h327, h328, h330, h332, h333, h335, h337, h338, h339]
                                  refine ⟨_, rfl, ?_⟩
                                  first | (simp (config := { maxSteps := 1000000 }) (disch := first | assumption | (simp; done) | omega | (simp; omega)) only [push_cast, reduceCtorEq, Nat.reduceEqDiff, Nat.reduceAdd, Nat.reduceSub, Nat.reduceMul, Nat.reduceLeDiff, Nat.reduceLT, Int.reduceEq, Int.reduceNe, Int.reduceLT, Int.reduceLE, Int.reduceGT, Int.reduceGE, Int.reduceBEq, Int.reduceBNe, ↓reduceIte, h299, h300, h301, h302, h304, h305, h306, h307, h309, h310, h311, h318, h319, h320, h321, h322, h323, h324, h325, h327, h328, h330, h332, h333, h335, h337, h338, h339] <;> rfl) | rfl
                              · try simp (disch := first | assumption | (simp; done) | omega | (simp; omega)) only [push_cast, reduceCtorEq, Nat.reduceEqDiff, Nat.reduceAdd, Nat.reduceSub, Nat.reduceMul, Nat.reduceLeDiff, Nat.reduceLT, Int.reduceEq, Int.reduceNe, Int.reduceLT, Int.reduceLE, Int.reduceGT, Int.reduceGE, Int.reduceBEq, Int.reduceBNe, ↓reduceIte] at h338
                                obtain rfl := Option.some.inj h
                                simp (config := { maxSteps := 1000000 }) (disch := first | assumption | (simp; done) | omega | (simp; omega)) only [push_cast, reduceCtorEq, Nat.reduceEqDiff, Nat.reduceAdd, Nat.reduceSub, Nat.reduceMul, Nat.reduceLeDiff, Nat.reduceLT, Int.reduceEq, Int.reduceNe, Int.reduceLT, Int.reduceLE, Int.reduceGT, Int.reduceGE, Int.reduceBEq, Int.reduceBNe, ↓reduceIte, h299, h300, h301, h302, h304, h305, h306, h307, h309, h310, h311, h318, h319, h320, h321, h322, h323, h324, h325, h327, h328, h330, h332, h333, h335, h337, h338]
                                refine e_ret (.inr rfl) ?_
                                simp (config := { maxSteps := 1000000 }) (disch := first | assumption | (simp; done) | omega | (simp; omega)) only [push_cast, reduceCtorEq, Nat.reduceEqDiff, Nat.reduceAdd, Nat.reduceSub, Nat.reduceMul, Nat.reduceLeDiff, Nat.reduceLT, Int.reduceEq, Int.reduceNe, Int.reduceLT, Int.reduceLE, Int.reduceGT, Int.reduceGE, Int.reduceBEq, Int.reduceBNe, ↓reduceIte, aret, aresults, aresult, h299, h300, h301, h302, h304, h305, h306, h307, h309, h310, h311, h318, h319, h320, h321, h322, h323, h324, h325, h327, h328, h330, h332, h333, h335, h337, h338]
                                refine ⟨_, rfl, ?_⟩
                                first | (simp (config := { maxSteps := 1000000 }) (disch := first | assumption | (simp; done) | omega | (simp; omega)) only [push_cast, reduceCtorEq, Nat.reduceEqDiff, Nat.reduceAdd, Nat.reduceSub, Nat.reduceMul, Nat.reduceLeDiff, Nat.reduceLT, Int.reduceEq, Int.reduceNe, Int.reduceLT, Int.reduceLE, Int.reduceGT, Int.reduceGE, Int.reduceBEq, Int.reduceBNe, ↓reduceIte, h299, h300, h301, h302, h304, h305, h306, h307, h309, h310, h311, h318, h319, h320, h321, h322, h323, h324, h325, h327, h328, h330, h332, h333, h335, h337, h338] <;> rfl) | rfl
                            · try simp (disch := first | assumption | (simp; done) | omega | (simp; omega)) only [push_cast, reduceCtorEq, Nat.reduceEqDiff, Nat.reduceAdd, Nat.reduceSub, Nat.reduceMul, Nat.reduceLeDiff, Nat.reduceLT, Int.reduceEq, Int.reduceNe, Int.reduceLT, Int.reduceLE, Int.reduceGT, Int.reduceGE, Int.reduceBEq, Int.reduceBNe, ↓reduceIte] at h337
                              obtain rfl := Option.some.inj h
                              simp (config := { maxSteps := 1000000 }) (disch := first | assumption | (simp; done) | omega | (simp; omega)) only [push_cast, reduceCtorEq, Nat.reduceEqDiff, Nat.reduceAdd, Nat.reduceSub, Nat.reduceMul, Nat.reduceLeDiff, Nat.reduceLT, Int.reduceEq, Int.reduceNe, Int.reduceLT, Int.reduceLE, Int.reduceGT, Int.reduceGE, Int.reduceBEq, Int.reduceBNe, ↓reduceIte, h299, h300, h301, h302, h304, h305, h306, h307, h309, h310, h311, h318, h319, h320, h321, h322, h323, h324, h325, h327, h328, h330, h332, h333, h335, h337]
                              refine e_ret (.inr rfl) ?_
                              simp (config := { maxSteps := 1000000 }) (disch := first | assumption | (simp; done) | omega | (simp; omega)) only [push_cast, reduceCtorEq, Nat.reduceEqDiff, Nat.reduceAdd, Nat.reduceSub, Nat.reduceMul, Nat.reduceLeDiff, Nat.reduceLT, Int.reduceEq, Int.reduceNe, Int.reduceLT, Int.reduceLE, Int.reduceGT, Int.reduceGE, Int.reduceBEq, Int.reduceBNe, ↓reduceIte, aret, aresults, aresult, h299, h300, h301, h302, h304, h305, h306, h307, h309, h310, h311, h318, h319, h320, h321, h322, h323, h324, h325, h327, h328, h330, h332, h333, h335, h337]
                              refine ⟨_, rfl, ?_⟩
                              first | (simp (config := { maxSteps := 1000000 }) (disch := first | assumption | (simp; done) | omega | (simp; omega)) only [push_cast, reduceCtorEq, Nat.reduceEqDiff, Nat.reduceAdd, Nat.reduceSub, Nat.reduceMul, Nat.reduceLeDiff, Nat.reduceLT, Int.reduceEq, Int.reduceNe, Int.reduceLT, Int.reduceLE, Int.reduceGT, Int.reduceGE, Int.reduceBEq, Int.reduceBNe, ↓reduceIte, h299, h300, h301, h302, h304, h305, h306, h307, h309, h310, h311, h318, h319, h320, h321, h322, h323, h324, h325, h327, h328, h330, h332, h333, h335, h337] <;> rfl) | rfl
                          · try simp (disch := first | assumption | (simp; done) | omega | (simp; omega)) only [push_cast, reduceCtorEq, Nat.reduceEqDiff, Nat.reduceAdd, Nat.reduceSub, Nat.reduceMul, Nat.reduceLeDiff, Nat.reduceLT, Int.reduceEq, Int.reduceNe, Int.reduceLT, Int.reduceLE, Int.reduceGT, Int.reduceGE, Int.reduceBEq, Int.reduceBNe, ↓reduceIte] at h335
                            obtain rfl := Option.some.inj h
                            simp (config := { maxSteps := 1000000 }) (disch := first | assumption | (simp; done) | omega | (simp; omega)) only [push_cast, reduceCtorEq, Nat.reduceEqDiff, Nat.reduceAdd, Nat.reduceSub, Nat.reduceMul, Nat.reduceLeDiff, Nat.reduceLT, Int.reduceEq, Int.reduceNe, Int.reduceLT, Int.reduceLE, Int.reduceGT, Int.reduceGE, Int.reduceBEq, Int.reduceBNe, ↓reduceIte, h299, h300, h301, h302, h304, h305, h306, h307, h309, h310, h311, h318, h319, h320, h321, h322, h323, h324, h325, h327, h328, h330, h332, h333, h335]
                            refine e_ret (.inr rfl) ?_
                            simp (config := { maxSteps := 1000000 }) (disch := first | assumption | (simp; done) | omega | (simp; omega)) only [push_cast, reduceCtorEq, Nat.reduceEqDiff, Nat.reduceAdd, Nat.reduceSub, Nat.reduceMul, Nat.reduceLeDiff, Nat.reduceLT, Int.reduceEq, Int.reduceNe, Int.reduceLT, Int.reduceLE, Int.reduceGT, Int.reduceGE, Int.reduceBEq, Int.reduceBNe, ↓reduceIte, aret, aresults, aresult, h299, h300, h301, h302, h304, h305, h306, h307, h309, h310, h311, h318, h319, h320, h321, h322, h323, h324, h325, h327, h328, h330, h332, h333, h335]
                            refine ⟨_, rfl, ?_⟩
                            first | (simp (config := { maxSteps := 1000000 }) (disch := first | assumption | (simp; done) | omega | (simp; omega)) only [push_cast, reduceCtorEq, Nat.reduceEqDiff, Nat.reduceAdd, Nat.reduceSub, Nat.reduceMul, Nat.reduceLeDiff, Nat.reduceLT, Int.reduceEq, Int.reduceNe, Int.reduceLT, Int.reduceLE, Int.reduceGT, Int.reduceGE, Int.reduceBEq, Int.reduceBNe, ↓reduceIte, h299, h300, h301, h302, h304, h305, h306, h307, h309, h310, h311, h318, h319, h320, h321, h322, h323, h324, h325, h327, h328, h330, h332, h333, h335] <;> rfl) | rfl
          · try simp (disch := first | assumption | (simp; done) | omega | (simp; omega)) only [push_cast, reduceCtorEq, Nat.reduceEqDiff, Nat.reduceAdd, Nat.reduceSub, Nat.reduceMul, Nat.reduceLeDiff, Nat.reduceLT, Int.reduceEq, Int.reduceNe, Int.reduceLT, Int.reduceLE, Int.reduceGT, Int.reduceGE, Int.reduceBEq, Int.reduceBNe, ↓reduceIte] at h311
            obtain rfl := Option.some.inj h
            simp (config := { maxSteps := 1000000 }) (disch := first | assumption | (simp; done) | omega | (simp; omega)) only [push_cast, reduceCtorEq, Nat.reduceEqDiff, Nat.reduceAdd, Nat.reduceSub, Nat.reduceMul, Nat.reduceLeDiff, Nat.reduceLT, Int.reduceEq, Int.reduceNe, Int.reduceLT, Int.reduceLE, Int.reduceGT, Int.reduceGE, Int.reduceBEq, Int.reduceBNe, ↓reduceIte, h299, h300, h301, h302, h304, h305, h306, h307, h309, h310, h311]
            refine e_ret (.inr rfl) ?_
            simp (config := { maxSteps := 1000000 }) (disch := first | assumption | (simp; done) | omega | (simp; omega)) only [push_cast, reduceCtorEq, Nat.reduceEqDiff, Nat.reduceAdd, Nat.reduceSub, Nat.reduceMul, Nat.reduceLeDiff, Nat.reduceLT, Int.reduceEq, Int.reduceNe, Int.reduceLT, Int.reduceLE, Int.reduceGT, Int.reduceGE, Int.reduceBEq, Int.reduceBNe, ↓reduceIte, aret, aresults, aresult, h299, h300, h301, h302, h304, h305, h306, h307, h309, h310, h311]
            refine ⟨_, rfl, ?_⟩
            first | (simp (config := { maxSteps := 1000000 }) (disch := first | assumption | (simp; done) | omega | (simp; omega)) only [push_cast, reduceCtorEq, Nat.reduceEqDiff, Nat.reduceAdd, Nat.reduceSub, Nat.reduceMul, Nat.reduceLeDiff, Nat.reduceLT, Int.reduceEq, Int.reduceNe, Int.reduceLT, Int.reduceLE, Int.reduceGT, Int.reduceGE, Int.reduceBEq, Int.reduceBNe, ↓reduceIte, h299, h300, h301, h302, h304, h305, h306, h307, h309, h310, h311] <;> rfl) | rfl
        · try simp (disch := first | assumption | (simp; done) | omega | (simp; omega)) only [push_cast, reduceCtorEq, Nat.reduceEqDiff, Nat.reduceAdd, Nat.reduceSub, Nat.reduceMul, Nat.reduceLeDiff, Nat.reduceLT, Int.reduceEq, Int.reduceNe, Int.reduceLT, Int.reduceLE, Int.reduceGT, Int.reduceGE, Int.reduceBEq, Int.reduceBNe, ↓reduceIte] at h306
          obtain rfl := Option.some.inj h
          simp (config := { maxSteps := 1000000 }) (disch := first | assumption | (simp; done) | omega | (simp; omega)) only [push_cast, reduceCtorEq, Nat.reduceEqDiff, Nat.reduceAdd, Nat.reduceSub, Nat.reduceMul, Nat.reduceLeDiff, Nat.reduceLT, Int.reduceEq, Int.reduceNe, Int.reduceLT, Int.reduceLE, Int.reduceGT, Int.reduceGE, Int.reduceBEq, Int.reduceBNe, ↓reduceIte, h299, h300, h301, h302, h304, h305, h306]
          refine e_ret (.inr rfl) ?_
          simp (config := { maxSteps := 1000000 }) (disch := first | assumption | (simp; done) | omega | (simp; omega)) only [push_cast, reduceCtorEq, Nat.reduceEqDiff, Nat.reduceAdd, Nat.reduceSub, Nat.reduceMul, Nat.reduceLeDiff, Nat.reduceLT, Int.reduceEq, Int.reduceNe, Int.reduceLT, Int.reduceLE, Int.reduceGT, Int.reduceGE, Int.reduceBEq, Int.reduceBNe, ↓reduceIte, aret, aresults, aresult, h299, h300, h301, h302, h304, h305, h306]
          refine ⟨_, rfl, ?_⟩
          first | (simp (config := { maxSteps := 1000000 }) (disch := first | assumption | (simp; done) | omega | (simp; omega)) only [push_cast, reduceCtorEq, Nat.reduceEqDiff, Nat.reduceAdd, Nat.reduceSub, Nat.reduceMul, Nat.reduceLeDiff, Nat.reduceLT, Int.reduceEq, Int.reduceNe, Int.reduceLT, Int.reduceLE, Int.reduceGT, Int.reduceGE, Int.reduceBEq, Int.reduceBNe, ↓reduceIte, h299, h300, h301, h302, h304, h305, h306] <;> rfl) | rfl
  · try simp (disch := first | assumption | (simp; done) | omega | (simp; omega)) only [push_cast, reduceCtorEq, Nat.reduceEqDiff, Nat.reduceAdd, Nat.reduceSub, Nat.reduceMul, Nat.reduceLeDiff, Nat.reduceLT, Int.reduceEq, Int.reduceNe, Int.reduceLT, Int.reduceLE, Int.reduceGT, Int.reduceGE, Int.reduceBEq, Int.reduceBNe, ↓reduceIte] at h299
    obtain rfl := Option.some.inj h
    simp (config := { maxSteps := 1000000 }) (disch := first | assumption | (simp; done) | omega | (simp; omega)) only [push_cast, reduceCtorEq, Nat.reduceEqDiff, Nat.reduceAdd, Nat.reduceSub, Nat.reduceMul, Nat.reduceLeDiff, Nat.reduceLT, Int.reduceEq, Int.reduceNe, Int.reduceLT, Int.reduceLE, Int.reduceGT, Int.reduceGE, Int.reduceBEq, Int.reduceBNe, ↓reduceIte, h299]
    refine e_ret (.inr rfl) ?_
    simp (config := { maxSteps := 1000000 }) (disch := first | assumption | (simp; done) | omega | (simp; omega)) only [push_cast, reduceCtorEq, Nat.reduceEqDiff, Nat.reduceAdd, Nat.reduceSub, Nat.reduceMul, Nat.reduceLeDiff, Nat.reduceLT, Int.reduceEq, Int.reduceNe, Int.reduceLT, Int.reduceLE, Int.reduceGT, Int.reduceGE, Int.reduceBEq, Int.reduceBNe, ↓reduceIte, aret, aresults, aresult, h299]
    refine ⟨_, rfl, ?_⟩
    first | (simp (config := { maxSteps := 1000000 }) (disch := first | assumption | (simp; done) | omega | (simp; omega)) only [push_cast, reduceCtorEq, Nat.reduceEqDiff, Nat.reduceAdd, Nat.reduceSub, Nat.reduceMul, Nat.reduceLeDiff, Nat.reduceLT, Int.reduceEq, Int.reduceNe, Int.reduceLT, Int.reduceLE, Int.reduceGT, Int.reduceGE, Int.reduceBEq, Int.reduceBNe, ↓reduceIte, h299] <;> rfl) | rfl

/-! ## 36 rivermark.rivermarkref11.End -/
def f36g0 : List RO :=
  [⟨(.some 1), (.box (.tmp 0)), .none⟩,
   ⟨(.some 2), (.mv (.const (.int .i64 0))), .none⟩]
def f36g1 : List RO :=
  [⟨(.some 3), (.faddr 0 (.tmp 1)), .none⟩,
   ⟨(.some 4), (.load .none (.tmp 3)), .none⟩,
   ⟨(.some 5), (.faddr 3 (.tmp 1)), .none⟩,
   ⟨(.some 6), (.load .none (.tmp 5)), .none⟩,
   ⟨(.some 7), (.len .false (.tmp 6)), .none⟩,
   ⟨(.some 8), (.bin .add (.tmp 4) (.tmp 7)), .none⟩,
   ⟨(.some 2), (.mv (.tmp 8)), .none⟩]
def f36c : RCode := (.seq (.reg .false f36g0) (.seq (.reg .false f36g1) .ret))
def f36r : List RRes := [(.tmp 2)]
attribute [push_cast] f36g0 f36g1
def F36 (N : Nat) (p0 : Outbox) : Option Int := ck .i64 (p0.Base + (p0.Queue.length : Int)) (some ((p0.Base + (p0.Queue.length : Int))))
theorem c36 (N : Nat) (p0 : Outbox) (r : Int) (h : F36 N p0 = some r) : ACall Try.prog 36 [.agg [.D (.I .i64 p0.Base), .D (.I .i64 p0.Acked), .D (.S p0.Summary), .D (.L (p0.Queue.map rS))]] [] (.D (.I .i64 r)) [] [] := by
  refine ACall.of_bodyW [] (fn := Try.f36) (rc := f36c) (rs := f36r) Try.func36 rfl rfl (by kernel_rfl) (by kernel_rfl) (by kernel_rfl) (by rw [Try.ntmps36]; simp) ?_
  unfold F36 at h
  unfold f36c f36r
  rw [entry_eq _ _]
  obtain ⟨h348, h⟩ := F_ck h
  try simp (disch := first | assumption | (simp; done) | omega | (simp; omega)) only [push_cast, reduceCtorEq, Nat.reduceEqDiff, Nat.reduceAdd, Nat.reduceSub, Nat.reduceMul, Nat.reduceLeDiff, Nat.reduceLT, Int.reduceEq, Int.reduceNe, Int.reduceLT, Int.reduceLE, Int.reduceGT, Int.reduceGE, Int.reduceBEq, Int.reduceBNe, ↓reduceIte] at h348
  obtain rfl := Option.some.inj h
  simp (config := { maxSteps := 1000000 }) (disch := first | assumption | (simp; done) | omega | (simp; omega)) only [push_cast, reduceCtorEq, Nat.reduceEqDiff, Nat.reduceAdd, Nat.reduceSub, Nat.reduceMul, Nat.reduceLeDiff, Nat.reduceLT, Int.reduceEq, Int.reduceNe, Int.reduceLT, Int.reduceLE, Int.reduceGT, Int.reduceGE, Int.reduceBEq, Int.reduceBNe, ↓reduceIte, h348]
  refine e_ret (.inr rfl) ?_
  simp (config := { maxSteps := 1000000 }) (disch := first | assumption | (simp; done) | omega | (simp; omega)) only [push_cast, reduceCtorEq, Nat.reduceEqDiff, Nat.reduceAdd, Nat.reduceSub, Nat.reduceMul, Nat.reduceLeDiff, Nat.reduceLT, Int.reduceEq, Int.reduceNe, Int.reduceLT, Int.reduceLE, Int.reduceGT, Int.reduceGE, Int.reduceBEq, Int.reduceBNe, ↓reduceIte, aret, aresults, aresult, h348]
  refine ⟨_, rfl, ?_⟩
  first | (simp (config := { maxSteps := 1000000 }) (disch := first | assumption | (simp; done) | omega | (simp; omega)) only [push_cast, reduceCtorEq, Nat.reduceEqDiff, Nat.reduceAdd, Nat.reduceSub, Nat.reduceMul, Nat.reduceLeDiff, Nat.reduceLT, Int.reduceEq, Int.reduceNe, Int.reduceLT, Int.reduceLE, Int.reduceGT, Int.reduceGE, Int.reduceBEq, Int.reduceBNe, ↓reduceIte, h348] <;> rfl) | rfl

/-! ## 19 rivermark.rivermarkref11.ValidOut -/
def f19g0 : List RO :=
  [⟨(.some 1), (.box (.tmp 0)), .none⟩,
   ⟨(.some 2), (.mv (.const (.bool .false))), .none⟩]
def f19g1 : List RO :=
  [⟨(.some 4), (.faddr 0 (.tmp 1)), .none⟩,
   ⟨(.some 5), (.load .none (.tmp 4)), .none⟩,
   ⟨(.some 6), (.bin .lss (.tmp 5) (.const (.int .i64 0))), .none⟩,
   ⟨(.some 7), (.mv (.tmp 6)), .none⟩,
   ⟨(.some 8), (.faddr 0 (.tmp 1)), (.some (7, .false))⟩,
   ⟨(.some 9), (.load .none (.tmp 8)), (.some (7, .false))⟩,
   ⟨(.some 10), (.bin .gtr (.tmp 9) (.const (.int .i64 1099511627776))), (.some (7, .false))⟩,
   ⟨(.some 11), (.pick (.tmp 7) (.const (.bool .true)) (.tmp 10)), .none⟩,
   ⟨(.some 12), (.mv (.tmp 11)), .none⟩,
   ⟨(.some 13), (.faddr 1 (.tmp 1)), (.some (12, .false))⟩,
   ⟨(.some 14), (.load .none (.tmp 13)), (.some (12, .false))⟩,
   ⟨(.some 15), (.bin .lss (.tmp 14) (.const (.int .i64 0))), (.some (12, .false))⟩,
   ⟨(.some 16), (.pick (.tmp 12) (.const (.bool .true)) (.tmp 15)), .none⟩,
   ⟨(.some 17), (.mv (.tmp 16)), .none⟩,
   ⟨(.some 18), (.faddr 1 (.tmp 1)), (.some (17, .false))⟩,
   ⟨(.some 19), (.load .none (.tmp 18)), (.some (17, .false))⟩,
   ⟨(.some 20), (.bin .gtr (.tmp 19) (.const (.int .i64 1099511627776))), (.some (17, .false))⟩,
   ⟨(.some 21), (.pick (.tmp 17) (.const (.bool .true)) (.tmp 20)), .none⟩,
   ⟨(.some 22), (.mv (.tmp 21)), .none⟩,
   ⟨(.some 23), (.faddr 3 (.tmp 1)), (.some (22, .false))⟩,
   ⟨(.some 24), (.load .none (.tmp 23)), (.some (22, .false))⟩,
   ⟨(.some 25), (.len .false (.tmp 24)), (.some (22, .false))⟩,
   ⟨(.some 26), (.bin .gtr (.tmp 25) (.const (.int .i64 1000))), (.some (22, .false))⟩,
   ⟨(.some 27), (.pick (.tmp 22) (.const (.bool .true)) (.tmp 26)), .none⟩,
   ⟨(.some 28), (.mv (.tmp 27)), .none⟩,
   ⟨(.some 29), (.faddr 2 (.tmp 1)), (.some (28, .false))⟩,
   ⟨(.some 30), (.load .none (.tmp 29)), (.some (28, .false))⟩,
   ⟨(.some 31), (.len .true (.tmp 30)), (.some (28, .false))⟩,
   ⟨(.some 32), (.bin .gtr (.tmp 31) (.const (.int .i64 65536))), (.some (28, .false))⟩,
   ⟨(.some 33), (.pick (.tmp 28) (.const (.bool .true)) (.tmp 32)), .none⟩,
   ⟨(.some 34), (.mv (.tmp 33)), .none⟩,
   ⟨(.some 35), (.faddr 1 (.tmp 1)), (.some (34, .false))⟩,
   ⟨(.some 36), (.load .none (.tmp 35)), (.some (34, .false))⟩,
   ⟨(.some 37), (.load (.some 4) (.tmp 1)), (.some (34, .false))⟩,
   ⟨(.some 38), (.call (.func 36) [(.tmp 37)]), (.some (34, .false))⟩,
   ⟨(.some 39), (.bin .gtr (.tmp 36) (.tmp 38)), (.some (34, .false))⟩,
   ⟨(.some 40), (.pick (.tmp 34) (.const (.bool .true)) (.tmp 39)), .none⟩]
def f19g2 : List RO :=
  [⟨(.some 2), (.mv (.const (.bool .false))), .none⟩]
def f19g3 : List RO :=
  [⟨(.some 3), (.mv (.const (.int .i64 0))), .none⟩]
def f19g4 : List RO :=
  [⟨(.some 41), (.mv (.tmp 3)), .none⟩,
   ⟨(.some 42), (.faddr 3 (.tmp 1)), .none⟩,
   ⟨(.some 43), (.load .none (.tmp 42)), .none⟩,
   ⟨(.some 44), (.len .false (.tmp 43)), .none⟩,
   ⟨(.some 45), (.bin .lss (.tmp 41) (.tmp 44)), .none⟩]
def f19g5 : List RO :=
  [⟨(.some 48), (.faddr 3 (.tmp 1)), .none⟩,
   ⟨(.some 49), (.load .none (.tmp 48)), .none⟩,
   ⟨(.some 50), (.mv (.tmp 3)), .none⟩,
   ⟨(.some 51), (.iaddr 1 (.tmp 49) (.tmp 50)), .none⟩,
   ⟨(.some 52), (.load .none (.tmp 51)), .none⟩,
   ⟨(.some 53), (.len .true (.tmp 52)), .none⟩,
   ⟨(.some 54), (.bin .gtr (.tmp 53) (.const (.int .i64 65536))), .none⟩]
def f19g6 : List RO :=
  [⟨(.some 2), (.mv (.const (.bool .false))), .none⟩]
def f19g7 : List RO :=
  [⟨(.some 46), (.mv (.tmp 3)), .none⟩,
   ⟨(.some 47), (.bin .add (.tmp 46) (.const (.int .i64 1))), .none⟩,
   ⟨(.some 3), (.mv (.tmp 47)), .none⟩]
def f19b8 : RCode := (.seq (.seq (.reg .false f19g4) (.cond (.tmp 45) .skip (.exit 0))) (.seq (.block 1 (.seq (.reg .false f19g5) (.cond (.tmp 54) (.seq (.reg .false f19g6) .ret) .skip))) (.reg .false f19g7)))
def f19g9 : List RO :=
  [⟨(.some 2), (.mv (.const (.bool .true))), .none⟩]
def f19c : RCode := (.seq (.reg .false f19g0) (.seq (.seq (.reg .true f19g1) (.cond (.tmp 40) (.seq (.reg .false f19g2) .ret) .skip)) (.seq (.seq (.reg .false f19g3) (.block 0 (.loop f19b8))) (.seq (.reg .false f19g9) .ret))))
def f19r : List RRes := [(.tmp 2)]
attribute [push_cast] f19g0 f19g1 f19g2 f19g3 f19g4 f19g5 f19g6 f19g7 f19g9
def L19_0 (N : Nat) (p0 : Outbox) : Nat → Int → Option Bool
  | 0, _ => none
  | m1+1, a2 => if? (decide (a2 < (p0.Queue.length : Int))) (get? p0.Queue (a2) fun x3 => if? (decide ((x3.length : Int) > 65536)) (some (false)) (ck .i64 (a2 + 1) (L19_0 N p0 m1 (a2 + 1)))) (some (true))
def I19_0 (N : Nat) (p0 : Outbox) (r : Bool) (n : Nat) (s : AState) : Prop := ∃ (a2 : Int), L19_0 N p0 n a2 = some r ∧ s = ⟨envL [(1, .ptr (.O 0) 0), (3, .D (.I .i64 a2))], ownL [], ownL [some (.box [.D (.I .i64 p0.Base), .D (.I .i64 p0.Acked), .D (.S p0.Summary), .D (.L (p0.Queue.map rS))])], 1⟩
def F19 (N : Nat) (p0 : Outbox) : Option Bool := if? (decide (p0.Base < 0)) (some (false)) (if? (decide (p0.Base > 1099511627776)) (some (false)) (if? (decide (p0.Acked < 0)) (some (false)) (if? (decide (p0.Acked > 1099511627776)) (some (false)) (if? (decide ((p0.Queue.length : Int) > 1000)) (some (false)) (if? (decide ((p0.Summary.length : Int) > 65536)) (some (false)) (bd? (F36 N p0) fun v1 => if? (decide (p0.Acked > v1)) (some (false)) (L19_0 N p0 N 0)))))))
theorem c19 (N : Nat) (p0 : Outbox) (r : Bool) (h : F19 N p0 = some r) : ACall Try.prog 19 [.agg [.D (.I .i64 p0.Base), .D (.I .i64 p0.Acked), .D (.S p0.Summary), .D (.L (p0.Queue.map rS))]] [] (.D (.B r)) [] [] := by
  refine ACall.of_bodyW [] (fn := Try.f19) (rc := f19c) (rs := f19r) Try.func19 rfl rfl (by kernel_rfl) (by kernel_rfl) (by kernel_rfl) (by rw [Try.ntmps19]; simp) ?_
  unfold F19 at h
  unfold f19c f19r
  rw [entry_eq _ _]
  rcases F_if h with ⟨h349, h⟩ | ⟨h349, h⟩
  · try simp (disch := first | assumption | (simp; done) | omega | (simp; omega)) only [push_cast, reduceCtorEq, Nat.reduceEqDiff, Nat.reduceAdd, Nat.reduceSub, Nat.reduceMul, Nat.reduceLeDiff, Nat.reduceLT, Int.reduceEq, Int.reduceNe, Int.reduceLT, Int.reduceLE, Int.reduceGT, Int.reduceGE, Int.reduceBEq, Int.reduceBNe, ↓reduceIte] at h349
    obtain rfl := Option.some.inj h
    simp (config := { maxSteps := 1000000 }) (disch := first | assumption | (simp; done) | omega | (simp; omega)) only [push_cast, reduceCtorEq, Nat.reduceEqDiff, Nat.reduceAdd, Nat.reduceSub, Nat.reduceMul, Nat.reduceLeDiff, Nat.reduceLT, Int.reduceEq, Int.reduceNe, Int.reduceLT, Int.reduceLE, Int.reduceGT, Int.reduceGE, Int.reduceBEq, Int.reduceBNe, ↓reduceIte, h349]
    refine e_ret (.inr rfl) ?_
    simp (config := { maxSteps := 1000000 }) (disch := first | assumption | (simp; done) | omega | (simp; omega)) only [push_cast, reduceCtorEq, Nat.reduceEqDiff, Nat.reduceAdd, Nat.reduceSub, Nat.reduceMul, Nat.reduceLeDiff, Nat.reduceLT, Int.reduceEq, Int.reduceNe, Int.reduceLT, Int.reduceLE, Int.reduceGT, Int.reduceGE, Int.reduceBEq, Int.reduceBNe, ↓reduceIte, aret, aresults, aresult, h349]
    refine ⟨_, rfl, ?_⟩
    first | (simp (config := { maxSteps := 1000000 }) (disch := first | assumption | (simp; done) | omega | (simp; omega)) only [push_cast, reduceCtorEq, Nat.reduceEqDiff, Nat.reduceAdd, Nat.reduceSub, Nat.reduceMul, Nat.reduceLeDiff, Nat.reduceLT, Int.reduceEq, Int.reduceNe, Int.reduceLT, Int.reduceLE, Int.reduceGT, Int.reduceGE, Int.reduceBEq, Int.reduceBNe, ↓reduceIte, h349] <;> rfl) | rfl
  · try simp (disch := first | assumption | (simp; done) | omega | (simp; omega)) only [push_cast, reduceCtorEq, Nat.reduceEqDiff, Nat.reduceAdd, Nat.reduceSub, Nat.reduceMul, Nat.reduceLeDiff, Nat.reduceLT, Int.reduceEq, Int.reduceNe, Int.reduceLT, Int.reduceLE, Int.reduceGT, Int.reduceGE, Int.reduceBEq, Int.reduceBNe, ↓reduceIte] at h349
    rcases F_if h with ⟨h350, h⟩ | ⟨h350, h⟩
    · try simp (disch := first | assumption | (simp; done) | omega | (simp; omega)) only [push_cast, reduceCtorEq, Nat.reduceEqDiff, Nat.reduceAdd, Nat.reduceSub, Nat.reduceMul, Nat.reduceLeDiff, Nat.reduceLT, Int.reduceEq, Int.reduceNe, Int.reduceLT, Int.reduceLE, Int.reduceGT, Int.reduceGE, Int.reduceBEq, Int.reduceBNe, ↓reduceIte] at h350
      obtain rfl := Option.some.inj h
      simp (config := { maxSteps := 1000000 }) (disch := first | assumption | (simp; done) | omega | (simp; omega)) only [push_cast, reduceCtorEq, Nat.reduceEqDiff, Nat.reduceAdd, Nat.reduceSub, Nat.reduceMul, Nat.reduceLeDiff, Nat.reduceLT, Int.reduceEq, Int.reduceNe, Int.reduceLT, Int.reduceLE, Int.reduceGT, Int.reduceGE, Int.reduceBEq, Int.reduceBNe, ↓reduceIte, h349, h350]
      refine e_ret (.inr rfl) ?_
      simp (config := { maxSteps := 1000000 }) (disch := first | assumption | (simp; done) | omega | (simp; omega)) only [push_cast, reduceCtorEq, Nat.reduceEqDiff, Nat.reduceAdd, Nat.reduceSub, Nat.reduceMul, Nat.reduceLeDiff, Nat.reduceLT, Int.reduceEq, Int.reduceNe, Int.reduceLT, Int.reduceLE, Int.reduceGT, Int.reduceGE, Int.reduceBEq, Int.reduceBNe, ↓reduceIte, aret, aresults, aresult, h349, h350]
      refine ⟨_, rfl, ?_⟩
      first | (simp (config := { maxSteps := 1000000 }) (disch := first | assumption | (simp; done) | omega | (simp; omega)) only [push_cast, reduceCtorEq, Nat.reduceEqDiff, Nat.reduceAdd, Nat.reduceSub, Nat.reduceMul, Nat.reduceLeDiff, Nat.reduceLT, Int.reduceEq, Int.reduceNe, Int.reduceLT, Int.reduceLE, Int.reduceGT, Int.reduceGE, Int.reduceBEq, Int.reduceBNe, ↓reduceIte, h349, h350] <;> rfl) | rfl
    · try simp (disch := first | assumption | (simp; done) | omega | (simp; omega)) only [push_cast, reduceCtorEq, Nat.reduceEqDiff, Nat.reduceAdd, Nat.reduceSub, Nat.reduceMul, Nat.reduceLeDiff, Nat.reduceLT, Int.reduceEq, Int.reduceNe, Int.reduceLT, Int.reduceLE, Int.reduceGT, Int.reduceGE, Int.reduceBEq, Int.reduceBNe, ↓reduceIte] at h350
      rcases F_if h with ⟨h351, h⟩ | ⟨h351, h⟩
      · try simp (disch := first | assumption | (simp; done) | omega | (simp; omega)) only [push_cast, reduceCtorEq, Nat.reduceEqDiff, Nat.reduceAdd, Nat.reduceSub, Nat.reduceMul, Nat.reduceLeDiff, Nat.reduceLT, Int.reduceEq, Int.reduceNe, Int.reduceLT, Int.reduceLE, Int.reduceGT, Int.reduceGE, Int.reduceBEq, Int.reduceBNe, ↓reduceIte] at h351
        obtain rfl := Option.some.inj h
        simp (config := { maxSteps := 1000000 }) (disch := first | assumption | (simp; done) | omega | (simp; omega)) only [push_cast, reduceCtorEq, Nat.reduceEqDiff, Nat.reduceAdd, Nat.reduceSub, Nat.reduceMul, Nat.reduceLeDiff, Nat.reduceLT, Int.reduceEq, Int.reduceNe, Int.reduceLT, Int.reduceLE, Int.reduceGT, Int.reduceGE, Int.reduceBEq, Int.reduceBNe, ↓reduceIte, h349, h350, h351]
        refine e_ret (.inr rfl) ?_
        simp (config := { maxSteps := 1000000 }) (disch := first | assumption | (simp; done) | omega | (simp; omega)) only [push_cast, reduceCtorEq, Nat.reduceEqDiff, Nat.reduceAdd, Nat.reduceSub, Nat.reduceMul, Nat.reduceLeDiff, Nat.reduceLT, Int.reduceEq, Int.reduceNe, Int.reduceLT, Int.reduceLE, Int.reduceGT, Int.reduceGE, Int.reduceBEq, Int.reduceBNe, ↓reduceIte, aret, aresults, aresult, h349, h350, h351]
        refine ⟨_, rfl, ?_⟩
        first | (simp (config := { maxSteps := 1000000 }) (disch := first | assumption | (simp; done) | omega | (simp; omega)) only [push_cast, reduceCtorEq, Nat.reduceEqDiff, Nat.reduceAdd, Nat.reduceSub, Nat.reduceMul, Nat.reduceLeDiff, Nat.reduceLT, Int.reduceEq, Int.reduceNe, Int.reduceLT, Int.reduceLE, Int.reduceGT, Int.reduceGE, Int.reduceBEq, Int.reduceBNe, ↓reduceIte, h349, h350, h351] <;> rfl) | rfl
      · try simp (disch := first | assumption | (simp; done) | omega | (simp; omega)) only [push_cast, reduceCtorEq, Nat.reduceEqDiff, Nat.reduceAdd, Nat.reduceSub, Nat.reduceMul, Nat.reduceLeDiff, Nat.reduceLT, Int.reduceEq, Int.reduceNe, Int.reduceLT, Int.reduceLE, Int.reduceGT, Int.reduceGE, Int.reduceBEq, Int.reduceBNe, ↓reduceIte] at h351
        rcases F_if h with ⟨h352, h⟩ | ⟨h352, h⟩
        · try simp (disch := first | assumption | (simp; done) | omega | (simp; omega)) only [push_cast, reduceCtorEq, Nat.reduceEqDiff, Nat.reduceAdd, Nat.reduceSub, Nat.reduceMul, Nat.reduceLeDiff, Nat.reduceLT, Int.reduceEq, Int.reduceNe, Int.reduceLT, Int.reduceLE, Int.reduceGT, Int.reduceGE, Int.reduceBEq, Int.reduceBNe, ↓reduceIte] at h352
          obtain rfl := Option.some.inj h
          simp (config := { maxSteps := 1000000 }) (disch := first | assumption | (simp; done) | omega | (simp; omega)) only [push_cast, reduceCtorEq, Nat.reduceEqDiff, Nat.reduceAdd, Nat.reduceSub, Nat.reduceMul, Nat.reduceLeDiff, Nat.reduceLT, Int.reduceEq, Int.reduceNe, Int.reduceLT, Int.reduceLE, Int.reduceGT, Int.reduceGE, Int.reduceBEq, Int.reduceBNe, ↓reduceIte, h349, h350, h351, h352]
          refine e_ret (.inr rfl) ?_
          simp (config := { maxSteps := 1000000 }) (disch := first | assumption | (simp; done) | omega | (simp; omega)) only [push_cast, reduceCtorEq, Nat.reduceEqDiff, Nat.reduceAdd, Nat.reduceSub, Nat.reduceMul, Nat.reduceLeDiff, Nat.reduceLT, Int.reduceEq, Int.reduceNe, Int.reduceLT, Int.reduceLE, Int.reduceGT, Int.reduceGE, Int.reduceBEq, Int.reduceBNe, ↓reduceIte, aret, aresults, aresult, h349, h350, h351, h352]
          refine ⟨_, rfl, ?_⟩
          first | (simp (config := { maxSteps := 1000000 }) (disch := first | assumption | (simp; done) | omega | (simp; omega)) only [push_cast, reduceCtorEq, Nat.reduceEqDiff, Nat.reduceAdd, Nat.reduceSub, Nat.reduceMul, Nat.reduceLeDiff, Nat.reduceLT, Int.reduceEq, Int.reduceNe, Int.reduceLT, Int.reduceLE, Int.reduceGT, Int.reduceGE, Int.reduceBEq, Int.reduceBNe, ↓reduceIte, h349, h350, h351, h352] <;> rfl) | rfl
        · try simp (disch := first | assumption | (simp; done) | omega | (simp; omega)) only [push_cast, reduceCtorEq, Nat.reduceEqDiff, Nat.reduceAdd, Nat.reduceSub, Nat.reduceMul, Nat.reduceLeDiff, Nat.reduceLT, Int.reduceEq, Int.reduceNe, Int.reduceLT, Int.reduceLE, Int.reduceGT, Int.reduceGE, Int.reduceBEq, Int.reduceBNe, ↓reduceIte] at h352
          rcases F_if h with ⟨h353, h⟩ | ⟨h353, h⟩
          · try simp (disch := first | assumption | (simp; done) | omega | (simp; omega)) only [push_cast, reduceCtorEq, Nat.reduceEqDiff, Nat.reduceAdd, Nat.reduceSub, Nat.reduceMul, Nat.reduceLeDiff, Nat.reduceLT, Int.reduceEq, Int.reduceNe, Int.reduceLT, Int.reduceLE, Int.reduceGT, Int.reduceGE, Int.reduceBEq, Int.reduceBNe, ↓reduceIte] at h353
            obtain rfl := Option.some.inj h
            simp (config := { maxSteps := 1000000 }) (disch := first | assumption | (simp; done) | omega | (simp; omega)) only [push_cast, reduceCtorEq, Nat.reduceEqDiff, Nat.reduceAdd, Nat.reduceSub, Nat.reduceMul, Nat.reduceLeDiff, Nat.reduceLT, Int.reduceEq, Int.reduceNe, Int.reduceLT, Int.reduceLE, Int.reduceGT, Int.reduceGE, Int.reduceBEq, Int.reduceBNe, ↓reduceIte, h349, h350, h351, h352, h353]
            refine e_ret (.inr rfl) ?_
            simp (config := { maxSteps := 1000000 }) (disch := first | assumption | (simp; done) | omega | (simp; omega)) only [push_cast, reduceCtorEq, Nat.reduceEqDiff, Nat.reduceAdd, Nat.reduceSub, Nat.reduceMul, Nat.reduceLeDiff, Nat.reduceLT, Int.reduceEq, Int.reduceNe, Int.reduceLT, Int.reduceLE, Int.reduceGT, Int.reduceGE, Int.reduceBEq, Int.reduceBNe, ↓reduceIte, aret, aresults, aresult, h349, h350, h351, h352, h353]
            refine ⟨_, rfl, ?_⟩
            first | (simp (config := { maxSteps := 1000000 }) (disch := first | assumption | (simp; done) | omega | (simp; omega)) only [push_cast, reduceCtorEq, Nat.reduceEqDiff, Nat.reduceAdd, Nat.reduceSub, Nat.reduceMul, Nat.reduceLeDiff, Nat.reduceLT, Int.reduceEq, Int.reduceNe, Int.reduceLT, Int.reduceLE, Int.reduceGT, Int.reduceGE, Int.reduceBEq, Int.reduceBNe, ↓reduceIte, h349, h350, h351, h352, h353] <;> rfl) | rfl
          · try simp (disch := first | assumption | (simp; done) | omega | (simp; omega)) only [push_cast, reduceCtorEq, Nat.reduceEqDiff, Nat.reduceAdd, Nat.reduceSub, Nat.reduceMul, Nat.reduceLeDiff, Nat.reduceLT, Int.reduceEq, Int.reduceNe, Int.reduceLT, Int.reduceLE, Int.reduceGT, Int.reduceGE, Int.reduceBEq, Int.reduceBNe, ↓reduceIte] at h353
            rcases F_if h with ⟨h354, h⟩ | ⟨h354, h⟩
            · try simp (disch := first | assumption | (simp; done) | omega | (simp; omega)) only [push_cast, reduceCtorEq, Nat.reduceEqDiff, Nat.reduceAdd, Nat.reduceSub, Nat.reduceMul, Nat.reduceLeDiff, Nat.reduceLT, Int.reduceEq, Int.reduceNe, Int.reduceLT, Int.reduceLE, Int.reduceGT, Int.reduceGE, Int.reduceBEq, Int.reduceBNe, ↓reduceIte] at h354
              obtain rfl := Option.some.inj h
              simp (config := { maxSteps := 1000000 }) (disch := first | assumption | (simp; done) | omega | (simp; omega)) only [push_cast, reduceCtorEq, Nat.reduceEqDiff, Nat.reduceAdd, Nat.reduceSub, Nat.reduceMul, Nat.reduceLeDiff, Nat.reduceLT, Int.reduceEq, Int.reduceNe, Int.reduceLT, Int.reduceLE, Int.reduceGT, Int.reduceGE, Int.reduceBEq, Int.reduceBNe, ↓reduceIte, h349, h350, h351, h352, h353, h354]
              refine e_ret (.inr rfl) ?_
              simp (config := { maxSteps := 1000000 }) (disch := first | assumption | (simp; done) | omega | (simp; omega)) only [push_cast, reduceCtorEq, Nat.reduceEqDiff, Nat.reduceAdd, Nat.reduceSub, Nat.reduceMul, Nat.reduceLeDiff, Nat.reduceLT, Int.reduceEq, Int.reduceNe, Int.reduceLT, Int.reduceLE, Int.reduceGT, Int.reduceGE, Int.reduceBEq, Int.reduceBNe, ↓reduceIte, aret, aresults, aresult, h349, h350, h351, h352, h353, h354]
              refine ⟨_, rfl, ?_⟩
              first | (simp (config := { maxSteps := 1000000 }) (disch := first | assumption | (simp; done) | omega | (simp; omega)) only [push_cast, reduceCtorEq, Nat.reduceEqDiff, Nat.reduceAdd, Nat.reduceSub, Nat.reduceMul, Nat.reduceLeDiff, Nat.reduceLT, Int.reduceEq, Int.reduceNe, Int.reduceLT, Int.reduceLE, Int.reduceGT, Int.reduceGE, Int.reduceBEq, Int.reduceBNe, ↓reduceIte, h349, h350, h351, h352, h353, h354] <;> rfl) | rfl
            · try simp (disch := first | assumption | (simp; done) | omega | (simp; omega)) only [push_cast, reduceCtorEq, Nat.reduceEqDiff, Nat.reduceAdd, Nat.reduceSub, Nat.reduceMul, Nat.reduceLeDiff, Nat.reduceLT, Int.reduceEq, Int.reduceNe, Int.reduceLT, Int.reduceLE, Int.reduceGT, Int.reduceGE, Int.reduceBEq, Int.reduceBNe, ↓reduceIte] at h354
              obtain ⟨v1, h355, h⟩ := F_bd h
              simp (config := { maxSteps := 1000000 }) (disch := first | assumption | (simp; done) | omega | (simp; omega)) only [push_cast, reduceCtorEq, Nat.reduceEqDiff, Nat.reduceAdd, Nat.reduceSub, Nat.reduceMul, Nat.reduceLeDiff, Nat.reduceLT, Int.reduceEq, Int.reduceNe, Int.reduceLT, Int.reduceLE, Int.reduceGT, Int.reduceGE, Int.reduceBEq, Int.reduceBNe, ↓reduceIte, h349, h350, h351, h352, h353, h354]
              refine call_flat (by rfl) (c36 N _ _ h355) ?_ rfl ?_
              · simp (config := { maxSteps := 1000000 }) (disch := first | assumption | (simp; done) | omega | (simp; omega)) only [push_cast, reduceCtorEq, Nat.reduceEqDiff, Nat.reduceAdd, Nat.reduceSub, Nat.reduceMul, Nat.reduceLeDiff, Nat.reduceLT, Int.reduceEq, Int.reduceNe, Int.reduceLT, Int.reduceLE, Int.reduceGT, Int.reduceGE, Int.reduceBEq, Int.reduceBNe, ↓reduceIte, h349, h350, h351, h352, h353, h354] <;> rfl
              rcases F_if h with ⟨h356, h⟩ | ⟨h356, h⟩
              · try simp (disch := first | assumption | (simp; done) | omega | (simp; omega)) only [push_cast, reduceCtorEq, Nat.reduceEqDiff, Nat.reduceAdd, Nat.reduceSub, Nat.reduceMul, Nat.reduceLeDiff, Nat.reduceLT, Int.reduceEq, Int.reduceNe, Int.reduceLT, Int.reduceLE, Int.reduceGT, Int.reduceGE, Int.reduceBEq, Int.reduceBNe, ↓reduceIte] at h356
                obtain rfl := Option.some.inj h
                simp (config := { maxSteps := 1000000 }) (disch := first | assumption | (simp; done) | omega | (simp; omega)) only [push_cast, reduceCtorEq, Nat.reduceEqDiff, Nat.reduceAdd, Nat.reduceSub, Nat.reduceMul, Nat.reduceLeDiff, Nat.reduceLT, Int.reduceEq, Int.reduceNe, Int.reduceLT, Int.reduceLE, Int.reduceGT, Int.reduceGE, Int.reduceBEq, Int.reduceBNe, ↓reduceIte, h349, h350, h351, h352, h353, h354, h356]
                refine e_ret (.inr rfl) ?_
                simp (config := { maxSteps := 1000000 }) (disch := first | assumption | (simp; done) | omega | (simp; omega)) only [push_cast, reduceCtorEq, Nat.reduceEqDiff, Nat.reduceAdd, Nat.reduceSub, Nat.reduceMul, Nat.reduceLeDiff, Nat.reduceLT, Int.reduceEq, Int.reduceNe, Int.reduceLT, Int.reduceLE, Int.reduceGT, Int.reduceGE, Int.reduceBEq, Int.reduceBNe, ↓reduceIte, aret, aresults, aresult, h349, h350, h351, h352, h353, h354, h356]
                refine ⟨_, rfl, ?_⟩
                first | (simp (config := { maxSteps := 1000000 }) (disch := first | assumption | (simp; done) | omega | (simp; omega)) only [push_cast, reduceCtorEq, Nat.reduceEqDiff, Nat.reduceAdd, Nat.reduceSub, Nat.reduceMul, Nat.reduceLeDiff, Nat.reduceLT, Int.reduceEq, Int.reduceNe, Int.reduceLT, Int.reduceLE, Int.reduceGT, Int.reduceGE, Int.reduceBEq, Int.reduceBNe, ↓reduceIte, h349, h350, h351, h352, h353, h354, h356] <;> rfl) | rfl
              · try simp (disch := first | assumption | (simp; done) | omega | (simp; omega)) only [push_cast, reduceCtorEq, Nat.reduceEqDiff, Nat.reduceAdd, Nat.reduceSub, Nat.reduceMul, Nat.reduceLeDiff, Nat.reduceLT, Int.reduceEq, Int.reduceNe, Int.reduceLT, Int.reduceLE, Int.reduceGT, Int.reduceGE, Int.reduceBEq, Int.reduceBNe, ↓reduceIte] at h356
                simp (config := { maxSteps := 1000000 }) (disch := first | assumption | (simp; done) | omega | (simp; omega)) only [push_cast, reduceCtorEq, Nat.reduceEqDiff, Nat.reduceAdd, Nat.reduceSub, Nat.reduceMul, Nat.reduceLeDiff, Nat.reduceLT, Int.reduceEq, Int.reduceNe, Int.reduceLT, Int.reduceLE, Int.reduceGT, Int.reduceGE, Int.reduceBEq, Int.reduceBNe, ↓reduceIte, h349, h350, h351, h352, h353, h354, h356]
                refine loop_of (I19_0 N p0 _) N [1, 3] [0] (by decide) ⟨0, h, ?_⟩ ?_
                · rw [wk_mk]
                  simp (config := { maxSteps := 1000000 }) (disch := first | assumption | (simp; done) | omega | (simp; omega)) only [push_cast, reduceCtorEq, Nat.reduceEqDiff, Nat.reduceAdd, Nat.reduceSub, Nat.reduceMul, Nat.reduceLeDiff, Nat.reduceLT, Int.reduceEq, Int.reduceNe, Int.reduceLT, Int.reduceLE, Int.reduceGT, Int.reduceGE, Int.reduceBEq, Int.reduceBNe, ↓reduceIte, h349, h350, h351, h352, h353, h354, h356] <;> rfl
                · rintro n s ⟨a2, h, rfl⟩
                  cases n with
                  | zero => exact absurd h (by simp [L19_0])
                  | succ m1 =>
                    rw [L19_0] at h
                    unfold f19b8
                    rcases F_if h with ⟨h357, h⟩ | ⟨h357, h⟩
                    · try simp (disch := first | assumption | (simp; done) | omega | (simp; omega)) only [push_cast, reduceCtorEq, Nat.reduceEqDiff, Nat.reduceAdd, Nat.reduceSub, Nat.reduceMul, Nat.reduceLeDiff, Nat.reduceLT, Int.reduceEq, Int.reduceNe, Int.reduceLT, Int.reduceLE, Int.reduceGT, Int.reduceGE, Int.reduceBEq, Int.reduceBNe, ↓reduceIte] at h357
                      obtain ⟨x3, h358, h359, h⟩ := F_get h
                      have h361 := get_lt h358 h359
                      have h360 := map_get rS h359
                      try simp (disch := first | assumption | (simp; done) | omega | (simp; omega)) only [push_cast, reduceCtorEq, Nat.reduceEqDiff, Nat.reduceAdd, Nat.reduceSub, Nat.reduceMul, Nat.reduceLeDiff, Nat.reduceLT, Int.reduceEq, Int.reduceNe, Int.reduceLT, Int.reduceLE, Int.reduceGT, Int.reduceGE, Int.reduceBEq, Int.reduceBNe, ↓reduceIte] at h360
                      try simp (disch := first | assumption | (simp; done) | omega | (simp; omega)) only [push_cast, reduceCtorEq, Nat.reduceEqDiff, Nat.reduceAdd, Nat.reduceSub, Nat.reduceMul, Nat.reduceLeDiff, Nat.reduceLT, Int.reduceEq, Int.reduceNe, Int.reduceLT, Int.reduceLE, Int.reduceGT, Int.reduceGE, Int.reduceBEq, Int.reduceBNe, ↓reduceIte] at h361
                      rcases F_if h with ⟨h362, h⟩ | ⟨h362, h⟩
                      · try simp (disch := first | assumption | (simp; done) | omega | (simp; omega)) only [push_cast, reduceCtorEq, Nat.reduceEqDiff, Nat.reduceAdd, Nat.reduceSub, Nat.reduceMul, Nat.reduceLeDiff, Nat.reduceLT, Int.reduceEq, Int.reduceNe, Int.reduceLT, Int.reduceLE, Int.reduceGT, Int.reduceGE, Int.reduceBEq, Int.reduceBNe, ↓reduceIte] at h362
                        obtain rfl := Option.some.inj h
                        simp (config := { maxSteps := 1000000 }) (disch := first | assumption | (simp; done) | omega | (simp; omega)) only [push_cast, reduceCtorEq, Nat.reduceEqDiff, Nat.reduceAdd, Nat.reduceSub, Nat.reduceMul, Nat.reduceLeDiff, Nat.reduceLT, Int.reduceEq, Int.reduceNe, Int.reduceLT, Int.reduceLE, Int.reduceGT, Int.reduceGE, Int.reduceBEq, Int.reduceBNe, ↓reduceIte, h349, h350, h351, h352, h353, h354, h356, h357, h358, h360, h361, h362]
                        refine e_ret (.inr rfl) ?_
                        simp (config := { maxSteps := 1000000 }) (disch := first | assumption | (simp; done) | omega | (simp; omega)) only [push_cast, reduceCtorEq, Nat.reduceEqDiff, Nat.reduceAdd, Nat.reduceSub, Nat.reduceMul, Nat.reduceLeDiff, Nat.reduceLT, Int.reduceEq, Int.reduceNe, Int.reduceLT, Int.reduceLE, Int.reduceGT, Int.reduceGE, Int.reduceBEq, Int.reduceBNe, ↓reduceIte, aret, aresults, aresult, h349, h350, h351, h352, h353, h354, h356, h357, h358, h360, h361, h362]
                        refine ⟨_, rfl, ?_⟩
                        first | (simp (config := { maxSteps := 1000000 }) (disch := first | assumption | (simp; done) | omega | (simp; omega)) only [push_cast, reduceCtorEq, Nat.reduceEqDiff, Nat.reduceAdd, Nat.reduceSub, Nat.reduceMul, Nat.reduceLeDiff, Nat.reduceLT, Int.reduceEq, Int.reduceNe, Int.reduceLT, Int.reduceLE, Int.reduceGT, Int.reduceGE, Int.reduceBEq, Int.reduceBNe, ↓reduceIte, h349, h350, h351, h352, h353, h354, h356, h357, h358, h360, h361, h362] <;> rfl) | rfl
                      · try simp (disch := first | assumption | (simp; done) | omega | (simp; omega)) only [push_cast, reduceCtorEq, Nat.reduceEqDiff, Nat.reduceAdd, Nat.reduceSub, Nat.reduceMul, Nat.reduceLeDiff, Nat.reduceLT, Int.reduceEq, Int.reduceNe, Int.reduceLT, Int.reduceLE, Int.reduceGT, Int.reduceGE, Int.reduceBEq, Int.reduceBNe, ↓reduceIte] at h362
                        obtain ⟨h363, h⟩ := F_ck h
                        try simp (disch := first | assumption | (simp; done) | omega | (simp; omega)) only [push_cast, reduceCtorEq, Nat.reduceEqDiff, Nat.reduceAdd, Nat.reduceSub, Nat.reduceMul, Nat.reduceLeDiff, Nat.reduceLT, Int.reduceEq, Int.reduceNe, Int.reduceLT, Int.reduceLE, Int.reduceGT, Int.reduceGE, Int.reduceBEq, Int.reduceBNe, ↓reduceIte] at h363
                        simp (config := { maxSteps := 1000000 }) (disch := first | assumption | (simp; done) | omega | (simp; omega)) only [push_cast, reduceCtorEq, Nat.reduceEqDiff, Nat.reduceAdd, Nat.reduceSub, Nat.reduceMul, Nat.reduceLeDiff, Nat.reduceLT, Int.reduceEq, Int.reduceNe, Int.reduceLT, Int.reduceLE, Int.reduceGT, Int.reduceGE, Int.reduceBEq, Int.reduceBNe, ↓reduceIte, h349, h350, h351, h352, h353, h354, h356, h357, h358, h360, h361, h362, h363]
                        refine lpK_of m1 [1, 3] [0] (by omega) (by decide) ⟨(a2 + 1), h, ?_⟩
                        rw [wk_mk]
                        simp (config := { maxSteps := 1000000 }) (disch := first | assumption | (simp; done) | omega | (simp; omega)) only [push_cast, reduceCtorEq, Nat.reduceEqDiff, Nat.reduceAdd, Nat.reduceSub, Nat.reduceMul, Nat.reduceLeDiff, Nat.reduceLT, Int.reduceEq, Int.reduceNe, Int.reduceLT, Int.reduceLE, Int.reduceGT, Int.reduceGE, Int.reduceBEq, Int.reduceBNe, ↓reduceIte, h349, h350, h351, h352, h353, h354, h356, h357, h358, h360, h361, h362, h363] <;> rfl
                    · try simp (disch := first | assumption | (simp; done) | omega | (simp; omega)) only [push_cast, reduceCtorEq, Nat.reduceEqDiff, Nat.reduceAdd, Nat.reduceSub, Nat.reduceMul, Nat.reduceLeDiff, Nat.reduceLT, Int.reduceEq, Int.reduceNe, Int.reduceLT, Int.reduceLE, Int.reduceGT, Int.reduceGE, Int.reduceBEq, Int.reduceBNe, ↓reduceIte] at h357
                      obtain rfl := Option.some.inj h
                      simp (config := { maxSteps := 1000000 }) (disch := first | assumption | (simp; done) | omega | (simp; omega)) only [push_cast, reduceCtorEq, Nat.reduceEqDiff, Nat.reduceAdd, Nat.reduceSub, Nat.reduceMul, Nat.reduceLeDiff, Nat.reduceLT, Int.reduceEq, Int.reduceNe, Int.reduceLT, Int.reduceLE, Int.reduceGT, Int.reduceGE, Int.reduceBEq, Int.reduceBNe, ↓reduceIte, h349, h350, h351, h352, h353, h354, h356, h357]
                      refine e_ret (.inr rfl) ?_
                      simp (config := { maxSteps := 1000000 }) (disch := first | assumption | (simp; done) | omega | (simp; omega)) only [push_cast, reduceCtorEq, Nat.reduceEqDiff, Nat.reduceAdd, Nat.reduceSub, Nat.reduceMul, Nat.reduceLeDiff, Nat.reduceLT, Int.reduceEq, Int.reduceNe, Int.reduceLT, Int.reduceLE, Int.reduceGT, Int.reduceGE, Int.reduceBEq, Int.reduceBNe, ↓reduceIte, aret, aresults, aresult, h349, h350, h351, h352, h353, h354, h356, h357]
                      refine ⟨_, rfl, ?_⟩
                      first | (simp (config := { maxSteps := 1000000 }) (disch := first | assumption | (simp; done) | omega | (simp; omega)) only [push_cast, reduceCtorEq, Nat.reduceEqDiff, Nat.reduceAdd, Nat.reduceSub, Nat.reduceMul, Nat.reduceLeDiff, Nat.reduceLT, Int.reduceEq, Int.reduceNe, Int.reduceLT, Int.reduceLE, Int.reduceGT, Int.reduceGE, Int.reduceBEq, Int.reduceBNe, ↓reduceIte, h349, h350, h351, h352, h353, h354, h356, h357] <;> rfl) | rfl

/-! ## 14 rivermark.rivermarkref11.Put -/
def f14g0 : List RO :=
  [⟨(.some 2), (.box (.tmp 0)), .none⟩,
   ⟨(.some 4), (.new [(.D (.I .i64 0)), (.D (.I .i64 0)), (.D (.S [])), (.fl []), (.D (.I .i64 0))]), .none⟩]
def f14g1 : List RO :=
  [⟨(.some 5), (.load (.some 4) (.tmp 2)), .none⟩,
   ⟨(.some 6), (.call (.func 19) [(.tmp 5)]), .none⟩,
   ⟨(.some 7), (.un .not (.tmp 6)), .none⟩,
   ⟨(.some 8), (.mv (.tmp 7)), .none⟩,
   ⟨(.some 9), (.mv (.tmp 1)), (.some (8, .false))⟩,
   ⟨(.some 10), (.len .true (.tmp 9)), (.some (8, .false))⟩,
   ⟨(.some 11), (.bin .gtr (.tmp 10) (.const (.int .i64 65536))), (.some (8, .false))⟩,
   ⟨(.some 12), (.pick (.tmp 8) (.const (.bool .true)) (.tmp 11)), .none⟩]
def f14g2 : List RO :=
  [⟨(.some 13), (.build [(.D (.I .i64 0)), (.D (.I .i64 0)), (.D (.S [])), (.fl []), (.D (.I .i64 0))] [(4, (1, (.const (.int .i64 1))))]), .none⟩,
   ⟨.none, (.store 5 (.tmp 4) (.tmp 13)), .none⟩]
def f14g3 : List RO :=
  [⟨(.some 14), (.faddr 3 (.tmp 2)), .none⟩,
   ⟨(.some 15), (.load .none (.tmp 14)), .none⟩,
   ⟨(.some 16), (.len .false (.tmp 15)), .none⟩,
   ⟨(.some 17), (.bin .eql (.tmp 16) (.const (.int .i64 1000))), .none⟩,
   ⟨(.some 18), (.mv (.tmp 17)), .none⟩,
   ⟨(.some 19), (.load (.some 4) (.tmp 2)), (.some (18, .false))⟩,
   ⟨(.some 20), (.call (.func 36) [(.tmp 19)]), (.some (18, .false))⟩,
   ⟨(.some 21), (.bin .geq (.tmp 20) (.const (.int .i64 1099511627776))), (.some (18, .false))⟩,
   ⟨(.some 22), (.pick (.tmp 18) (.const (.bool .true)) (.tmp 21)), .none⟩]
def f14g4 : List RO :=
  [⟨(.some 23), (.build [(.D (.I .i64 0)), (.D (.I .i64 0)), (.D (.S [])), (.fl []), (.D (.I .i64 0))] [(4, (1, (.const (.int .i64 2))))]), .none⟩,
   ⟨.none, (.store 5 (.tmp 4) (.tmp 23)), .none⟩]
def f14g5 : List RO :=
  [⟨(.some 24), (.bslice 1 []), .none⟩,
   ⟨(.some 25), (.faddr 3 (.tmp 2)), .none⟩,
   ⟨(.some 26), (.load .none (.tmp 25)), .none⟩,
   ⟨(.some 27), (.app 1 16 (.tmp 24) (.tmp 26)), .none⟩,
   ⟨(.some 28), (.mv (.tmp 1)), .none⟩,
   ⟨(.some 29), (.bslice 1 [(.tmp 28)]), .none⟩,
   ⟨(.some 30), (.appE 1 16 (.tmp 27) (.tmp 29)), .none⟩,
   ⟨(.some 31), (.faddr 3 (.tmp 2)), .none⟩,
   ⟨.none, (.store 1 (.tmp 31) (.tmp 30)), .none⟩]
def f14g6 : List RO :=
  [⟨(.some 32), (.load (.some 4) (.tmp 2)), .none⟩,
   ⟨(.some 33), (.build [(.D (.I .i64 0)), (.D (.I .i64 0)), (.D (.S [])), (.fl []), (.D (.I .i64 0))] [(0, (4, (.tmp 32)))]), .none⟩,
   ⟨.none, (.store 5 (.tmp 4) (.tmp 33)), .none⟩]
def f14c : RCode := (.seq (.reg .false f14g0) (.seq (.seq (.reg .false f14g1) (.cond (.tmp 12) (.seq (.reg .false f14g2) .ret) .skip)) (.seq (.seq (.reg .false f14g3) (.cond (.tmp 22) (.seq (.reg .false f14g4) .ret) .skip)) (.seq (.reg .false f14g5) (.seq (.reg .false f14g6) .ret)))))
def f14r : List RRes := [(.cell (.some 5) 4)]
attribute [push_cast] f14g0 f14g1 f14g2 f14g3 f14g4 f14g5 f14g6
def F14 (N : Nat) (p0 : Outbox) (p1 : Str) : Option ROut := bd? (F19 N p0) fun v1 => if? (v1) (if? (decide ((p1.length : Int) > 65536)) (some ((ROut.mk (Outbox.mk 0 0 ([] : Str) []) 1))) (if? (((p0.Queue.length : Int) == 1000)) (some ((ROut.mk (Outbox.mk 0 0 ([] : Str) []) 2))) (bd? (F36 N p0) fun v2 => if? (decide (v2 ≥ 1099511627776)) (some ((ROut.mk (Outbox.mk 0 0 ([] : Str) []) 2))) (gd? (p0.Queue.length * 16 ≤ 140737488355328) (gd? ((p0.Queue.length + [p1].length) * 16 ≤ 140737488355328) (some ((ROut.mk (Outbox.mk p0.Base p0.Acked p0.Summary (p0.Queue ++ [p1])) 0)))))))) (some ((ROut.mk (Outbox.mk 0 0 ([] : Str) []) 1)))
theorem c14 (N : Nat) (p0 : Outbox) (p1 : Str) (r : ROut) (h : F14 N p0 p1 = some r) : ACall Try.prog 14 [.agg [.D (.I .i64 p0.Base), .D (.I .i64 p0.Acked), .D (.S p0.Summary), .D (.L (p0.Queue.map rS))], .D (.S p1)] [] (.agg [.D (.I .i64 r.O.Base), .D (.I .i64 r.O.Acked), .D (.S r.O.Summary), .D (.L (r.O.Queue.map rS)), .D (.I .i64 r.E)]) [] [] := by
  refine ACall.of_bodyW [30] (fn := Try.f14) (rc := f14c) (rs := f14r) Try.func14 rfl rfl (by kernel_rfl) (by kernel_rfl) (by kernel_rfl) (by rw [Try.ntmps14]; simp) ?_
  unfold F14 at h
  unfold f14c f14r
  rw [entry_eq _ _]
  obtain ⟨v1, h364, h⟩ := F_bd h
  simp (config := { maxSteps := 1000000 }) (disch := first | assumption | (simp; done) | omega | (simp; omega)) only [push_cast, reduceCtorEq, Nat.reduceEqDiff, Nat.reduceAdd, Nat.reduceSub, Nat.reduceMul, Nat.reduceLeDiff, Nat.reduceLT, Int.reduceEq, Int.reduceNe, Int.reduceLT, Int.reduceLE, Int.reduceGT, Int.reduceGE, Int.reduceBEq, Int.reduceBNe, ↓reduceIte]
  refine call_flat (by rfl) (c19 N _ _ h364) ?_ rfl ?_
  · simp (config := { maxSteps := 1000000 }) (disch := first | assumption | (simp; done) | omega | (simp; omega)) only [push_cast, reduceCtorEq, Nat.reduceEqDiff, Nat.reduceAdd, Nat.reduceSub, Nat.reduceMul, Nat.reduceLeDiff, Nat.reduceLT, Int.reduceEq, Int.reduceNe, Int.reduceLT, Int.reduceLE, Int.reduceGT, Int.reduceGE, Int.reduceBEq, Int.reduceBNe, ↓reduceIte] <;> rfl
  rcases F_if h with ⟨h365, h⟩ | ⟨h365, h⟩
  · try simp (disch := first | assumption | (simp; done) | omega | (simp; omega)) only [push_cast, reduceCtorEq, Nat.reduceEqDiff, Nat.reduceAdd, Nat.reduceSub, Nat.reduceMul, Nat.reduceLeDiff, Nat.reduceLT, Int.reduceEq, Int.reduceNe, Int.reduceLT, Int.reduceLE, Int.reduceGT, Int.reduceGE, Int.reduceBEq, Int.reduceBNe, ↓reduceIte] at h365
    rcases F_if h with ⟨h366, h⟩ | ⟨h366, h⟩
    · try simp (disch := first | assumption | (simp; done) | omega | (simp; omega)) only [push_cast, reduceCtorEq, Nat.reduceEqDiff, Nat.reduceAdd, Nat.reduceSub, Nat.reduceMul, Nat.reduceLeDiff, Nat.reduceLT, Int.reduceEq, Int.reduceNe, Int.reduceLT, Int.reduceLE, Int.reduceGT, Int.reduceGE, Int.reduceBEq, Int.reduceBNe, ↓reduceIte] at h366
      obtain rfl := Option.some.inj h
      simp (config := { maxSteps := 1000000 }) (disch := first | assumption | (simp; done) | omega | (simp; omega)) only [push_cast, reduceCtorEq, Nat.reduceEqDiff, Nat.reduceAdd, Nat.reduceSub, Nat.reduceMul, Nat.reduceLeDiff, Nat.reduceLT, Int.reduceEq, Int.reduceNe, Int.reduceLT, Int.reduceLE, Int.reduceGT, Int.reduceGE, Int.reduceBEq, Int.reduceBNe, ↓reduceIte, h365, h366]
      refine e_ret (.inr rfl) ?_
      simp (config := { maxSteps := 1000000 }) (disch := first | assumption | (simp; done) | omega | (simp; omega)) only [push_cast, reduceCtorEq, Nat.reduceEqDiff, Nat.reduceAdd, Nat.reduceSub, Nat.reduceMul, Nat.reduceLeDiff, Nat.reduceLT, Int.reduceEq, Int.reduceNe, Int.reduceLT, Int.reduceLE, Int.reduceGT, Int.reduceGE, Int.reduceBEq, Int.reduceBNe, ↓reduceIte, aret, aresults, aresult, h365, h366]
      refine ⟨_, rfl, ?_⟩
      first | (simp (config := { maxSteps := 1000000 }) (disch := first | assumption | (simp; done) | omega | (simp; omega)) only [push_cast, reduceCtorEq, Nat.reduceEqDiff, Nat.reduceAdd, Nat.reduceSub, Nat.reduceMul, Nat.reduceLeDiff, Nat.reduceLT, Int.reduceEq, Int.reduceNe, Int.reduceLT, Int.reduceLE, Int.reduceGT, Int.reduceGE, Int.reduceBEq, Int.reduceBNe, ↓reduceIte, h365, h366] <;> rfl) | rfl
    · try simp (disch := first | assumption | (simp; done) | omega | (simp; omega)) only [push_cast, reduceCtorEq, Nat.reduceEqDiff, Nat.reduceAdd, Nat.reduceSub, Nat.reduceMul, Nat.reduceLeDiff, Nat.reduceLT, Int.reduceEq, Int.reduceNe, Int.reduceLT, Int.reduceLE, Int.reduceGT, Int.reduceGE, Int.reduceBEq, Int.reduceBNe, ↓reduceIte] at h366
      rcases F_if h with ⟨h367, h⟩ | ⟨h367, h⟩
      · try simp (disch := first | assumption | (simp; done) | omega | (simp; omega)) only [push_cast, reduceCtorEq, Nat.reduceEqDiff, Nat.reduceAdd, Nat.reduceSub, Nat.reduceMul, Nat.reduceLeDiff, Nat.reduceLT, Int.reduceEq, Int.reduceNe, Int.reduceLT, Int.reduceLE, Int.reduceGT, Int.reduceGE, Int.reduceBEq, Int.reduceBNe, ↓reduceIte] at h367
        obtain rfl := Option.some.inj h
        simp (config := { maxSteps := 1000000 }) (disch := first | assumption | (simp; done) | omega | (simp; omega)) only [push_cast, reduceCtorEq, Nat.reduceEqDiff, Nat.reduceAdd, Nat.reduceSub, Nat.reduceMul, Nat.reduceLeDiff, Nat.reduceLT, Int.reduceEq, Int.reduceNe, Int.reduceLT, Int.reduceLE, Int.reduceGT, Int.reduceGE, Int.reduceBEq, Int.reduceBNe, ↓reduceIte, h365, h366, h367]
        refine e_ret (.inr rfl) ?_
        simp (config := { maxSteps := 1000000 }) (disch := first | assumption | (simp; done) | omega | (simp; omega)) only [push_cast, reduceCtorEq, Nat.reduceEqDiff, Nat.reduceAdd, Nat.reduceSub, Nat.reduceMul, Nat.reduceLeDiff, Nat.reduceLT, Int.reduceEq, Int.reduceNe, Int.reduceLT, Int.reduceLE, Int.reduceGT, Int.reduceGE, Int.reduceBEq, Int.reduceBNe, ↓reduceIte, aret, aresults, aresult, h365, h366, h367]
        refine ⟨_, rfl, ?_⟩
        first | (simp (config := { maxSteps := 1000000 }) (disch := first | assumption | (simp; done) | omega | (simp; omega)) only [push_cast, reduceCtorEq, Nat.reduceEqDiff, Nat.reduceAdd, Nat.reduceSub, Nat.reduceMul, Nat.reduceLeDiff, Nat.reduceLT, Int.reduceEq, Int.reduceNe, Int.reduceLT, Int.reduceLE, Int.reduceGT, Int.reduceGE, Int.reduceBEq, Int.reduceBNe, ↓reduceIte, h365, h366, h367] <;> rfl) | rfl
      · try simp (disch := first | assumption | (simp; done) | omega | (simp; omega)) only [push_cast, reduceCtorEq, Nat.reduceEqDiff, Nat.reduceAdd, Nat.reduceSub, Nat.reduceMul, Nat.reduceLeDiff, Nat.reduceLT, Int.reduceEq, Int.reduceNe, Int.reduceLT, Int.reduceLE, Int.reduceGT, Int.reduceGE, Int.reduceBEq, Int.reduceBNe, ↓reduceIte] at h367
        obtain ⟨v2, h368, h⟩ := F_bd h
        simp (config := { maxSteps := 1000000 }) (disch := first | assumption | (simp; done) | omega | (simp; omega)) only [push_cast, reduceCtorEq, Nat.reduceEqDiff, Nat.reduceAdd, Nat.reduceSub, Nat.reduceMul, Nat.reduceLeDiff, Nat.reduceLT, Int.reduceEq, Int.reduceNe, Int.reduceLT, Int.reduceLE, Int.reduceGT, Int.reduceGE, Int.reduceBEq, Int.reduceBNe, ↓reduceIte, h365, h366, h367]
        refine call_flat (by rfl) (c36 N _ _ h368) ?_ rfl ?_
        · simp (config := { maxSteps := 1000000 }) (disch := first | assumption | (simp; done) | omega | (simp; omega)) only [push_cast, reduceCtorEq, Nat.reduceEqDiff, Nat.reduceAdd, Nat.reduceSub, Nat.reduceMul, Nat.reduceLeDiff, Nat.reduceLT, Int.reduceEq, Int.reduceNe, Int.reduceLT, Int.reduceLE, Int.reduceGT, Int.reduceGE, Int.reduceBEq, Int.reduceBNe, ↓reduceIte, h365, h366, h367] <;> rfl
        rcases F_if h with ⟨h369, h⟩ | ⟨h369, h⟩
        · try simp (disch := first | assumption | (simp; done) | omega | (simp; omega)) only [push_cast, reduceCtorEq, Nat.reduceEqDiff, Nat.reduceAdd, Nat.reduceSub, Nat.reduceMul, Nat.reduceLeDiff, Nat.reduceLT, Int.reduceEq, Int.reduceNe, Int.reduceLT, Int.reduceLE, Int.reduceGT, Int.reduceGE, Int.reduceBEq, Int.reduceBNe, ↓reduceIte] at h369
          obtain rfl := Option.some.inj h
          simp (config := { maxSteps := 1000000 }) (disch := first | assumption | (simp; done) | omega | (simp; omega)) only [push_cast, reduceCtorEq, Nat.reduceEqDiff, Nat.reduceAdd, Nat.reduceSub, Nat.reduceMul, Nat.reduceLeDiff, Nat.reduceLT, Int.reduceEq, Int.reduceNe, Int.reduceLT, Int.reduceLE, Int.reduceGT, Int.reduceGE, Int.reduceBEq, Int.reduceBNe, ↓reduceIte, h365, h366, h367, h369]
          refine e_ret (.inr rfl) ?_
          simp (config := { maxSteps := 1000000 }) (disch := first | assumption | (simp; done) | omega | (simp; omega)) only [push_cast, reduceCtorEq, Nat.reduceEqDiff, Nat.reduceAdd, Nat.reduceSub, Nat.reduceMul, Nat.reduceLeDiff, Nat.reduceLT, Int.reduceEq, Int.reduceNe, Int.reduceLT, Int.reduceLE, Int.reduceGT, Int.reduceGE, Int.reduceBEq, Int.reduceBNe, ↓reduceIte, aret, aresults, aresult, h365, h366, h367, h369]
          refine ⟨_, rfl, ?_⟩
          first | (simp (config := { maxSteps := 1000000 }) (disch := first | assumption | (simp; done) | omega | (simp; omega)) only [push_cast, reduceCtorEq, Nat.reduceEqDiff, Nat.reduceAdd, Nat.reduceSub, Nat.reduceMul, Nat.reduceLeDiff, Nat.reduceLT, Int.reduceEq, Int.reduceNe, Int.reduceLT, Int.reduceLE, Int.reduceGT, Int.reduceGE, Int.reduceBEq, Int.reduceBNe, ↓reduceIte, h365, h366, h367, h369] <;> rfl) | rfl
        · try simp (disch := first | assumption | (simp; done) | omega | (simp; omega)) only [push_cast, reduceCtorEq, Nat.reduceEqDiff, Nat.reduceAdd, Nat.reduceSub, Nat.reduceMul, Nat.reduceLeDiff, Nat.reduceLT, Int.reduceEq, Int.reduceNe, Int.reduceLT, Int.reduceLE, Int.reduceGT, Int.reduceGE, Int.reduceBEq, Int.reduceBNe, ↓reduceIte] at h369
          obtain ⟨h370, h⟩ := F_gd h
          try simp (disch := first | assumption | (simp; done) | omega | (simp; omega)) only [push_cast, reduceCtorEq, Nat.reduceEqDiff, Nat.reduceAdd, Nat.reduceSub, Nat.reduceMul, Nat.reduceLeDiff, Nat.reduceLT, Int.reduceEq, Int.reduceNe, Int.reduceLT, Int.reduceLE, Int.reduceGT, Int.reduceGE, Int.reduceBEq, Int.reduceBNe, ↓reduceIte] at h370
          obtain ⟨h371, h⟩ := F_gd h
          try simp (disch := first | assumption | (simp; done) | omega | (simp; omega)) only [push_cast, reduceCtorEq, Nat.reduceEqDiff, Nat.reduceAdd, Nat.reduceSub, Nat.reduceMul, Nat.reduceLeDiff, Nat.reduceLT, Int.reduceEq, Int.reduceNe, Int.reduceLT, Int.reduceLE, Int.reduceGT, Int.reduceGE, Int.reduceBEq, Int.reduceBNe, ↓reduceIte] at h371
          obtain rfl := Option.some.inj h
          simp (config := { maxSteps := 1000000 }) (disch := first | assumption | (simp; done) | omega | (simp; omega)) only [push_cast, reduceCtorEq, Nat.reduceEqDiff, Nat.reduceAdd, Nat.reduceSub, Nat.reduceMul, Nat.reduceLeDiff, Nat.reduceLT, Int.reduceEq, Int.reduceNe, Int.reduceLT, Int.reduceLE, Int.reduceGT, Int.reduceGE, Int.reduceBEq, Int.reduceBNe, ↓reduceIte, h365, h366, h367, h369, h370, h371]
          refine e_ret (.inr rfl) ?_
          simp (config := { maxSteps := 1000000 }) (disch := first | assumption | (simp; done) | omega | (simp; omega)) only [push_cast, reduceCtorEq, Nat.reduceEqDiff, Nat.reduceAdd, Nat.reduceSub, Nat.reduceMul, Nat.reduceLeDiff, Nat.reduceLT, Int.reduceEq, Int.reduceNe, Int.reduceLT, Int.reduceLE, Int.reduceGT, Int.reduceGE, Int.reduceBEq, Int.reduceBNe, ↓reduceIte, aret, aresults, aresult, h365, h366, h367, h369, h370, h371]
          refine ⟨_, rfl, ?_⟩
          first | (simp (config := { maxSteps := 1000000 }) (disch := first | assumption | (simp; done) | omega | (simp; omega)) only [push_cast, reduceCtorEq, Nat.reduceEqDiff, Nat.reduceAdd, Nat.reduceSub, Nat.reduceMul, Nat.reduceLeDiff, Nat.reduceLT, Int.reduceEq, Int.reduceNe, Int.reduceLT, Int.reduceLE, Int.reduceGT, Int.reduceGE, Int.reduceBEq, Int.reduceBNe, ↓reduceIte, h365, h366, h367, h369, h370, h371] <;> rfl) | rfl
  · try simp (disch := first | assumption | (simp; done) | omega | (simp; omega)) only [push_cast, reduceCtorEq, Nat.reduceEqDiff, Nat.reduceAdd, Nat.reduceSub, Nat.reduceMul, Nat.reduceLeDiff, Nat.reduceLT, Int.reduceEq, Int.reduceNe, Int.reduceLT, Int.reduceLE, Int.reduceGT, Int.reduceGE, Int.reduceBEq, Int.reduceBNe, ↓reduceIte] at h365
    obtain rfl := Option.some.inj h
    simp (config := { maxSteps := 1000000 }) (disch := first | assumption | (simp; done) | omega | (simp; omega)) only [push_cast, reduceCtorEq, Nat.reduceEqDiff, Nat.reduceAdd, Nat.reduceSub, Nat.reduceMul, Nat.reduceLeDiff, Nat.reduceLT, Int.reduceEq, Int.reduceNe, Int.reduceLT, Int.reduceLE, Int.reduceGT, Int.reduceGE, Int.reduceBEq, Int.reduceBNe, ↓reduceIte, h365]
    refine e_ret (.inr rfl) ?_
    simp (config := { maxSteps := 1000000 }) (disch := first | assumption | (simp; done) | omega | (simp; omega)) only [push_cast, reduceCtorEq, Nat.reduceEqDiff, Nat.reduceAdd, Nat.reduceSub, Nat.reduceMul, Nat.reduceLeDiff, Nat.reduceLT, Int.reduceEq, Int.reduceNe, Int.reduceLT, Int.reduceLE, Int.reduceGT, Int.reduceGE, Int.reduceBEq, Int.reduceBNe, ↓reduceIte, aret, aresults, aresult, h365]
    refine ⟨_, rfl, ?_⟩
    first | (simp (config := { maxSteps := 1000000 }) (disch := first | assumption | (simp; done) | omega | (simp; omega)) only [push_cast, reduceCtorEq, Nat.reduceEqDiff, Nat.reduceAdd, Nat.reduceSub, Nat.reduceMul, Nat.reduceLeDiff, Nat.reduceLT, Int.reduceEq, Int.reduceNe, Int.reduceLT, Int.reduceLE, Int.reduceGT, Int.reduceGE, Int.reduceBEq, Int.reduceBNe, ↓reduceIte, h365] <;> rfl) | rfl

/-! ## 15 rivermark.rivermarkref11.Fold -/
def f15g0 : List RO :=
  [⟨(.some 3), (.box (.tmp 0)), .none⟩,
   ⟨(.some 6), (.new [(.D (.I .i64 0)), (.D (.I .i64 0)), (.D (.S [])), (.fl []), (.D (.I .i64 0))]), .none⟩]
def f15g1 : List RO :=
  [⟨(.some 8), (.load (.some 4) (.tmp 3)), .none⟩,
   ⟨(.some 9), (.call (.func 19) [(.tmp 8)]), .none⟩,
   ⟨(.some 10), (.un .not (.tmp 9)), .none⟩,
   ⟨(.some 11), (.mv (.tmp 10)), .none⟩,
   ⟨(.some 12), (.mv (.tmp 1)), (.some (11, .false))⟩,
   ⟨(.some 13), (.faddr 0 (.tmp 3)), (.some (11, .false))⟩,
   ⟨(.some 14), (.load .none (.tmp 13)), (.some (11, .false))⟩,
   ⟨(.some 15), (.bin .lss (.tmp 12) (.tmp 14)), (.some (11, .false))⟩,
   ⟨(.some 16), (.pick (.tmp 11) (.const (.bool .true)) (.tmp 15)), .none⟩,
   ⟨(.some 17), (.mv (.tmp 16)), .none⟩,
   ⟨(.some 18), (.mv (.tmp 1)), (.some (17, .false))⟩,
   ⟨(.some 19), (.load (.some 4) (.tmp 3)), (.some (17, .false))⟩,
   ⟨(.some 20), (.call (.func 36) [(.tmp 19)]), (.some (17, .false))⟩,
   ⟨(.some 21), (.bin .gtr (.tmp 18) (.tmp 20)), (.some (17, .false))⟩,
   ⟨(.some 22), (.pick (.tmp 17) (.const (.bool .true)) (.tmp 21)), .none⟩,
   ⟨(.some 23), (.mv (.tmp 22)), .none⟩,
   ⟨(.some 24), (.mv (.tmp 2)), (.some (23, .false))⟩,
   ⟨(.some 25), (.len .true (.tmp 24)), (.some (23, .false))⟩,
   ⟨(.some 26), (.bin .gtr (.tmp 25) (.const (.int .i64 65536))), (.some (23, .false))⟩,
   ⟨(.some 27), (.pick (.tmp 23) (.const (.bool .true)) (.tmp 26)), .none⟩]
def f15g2 : List RO :=
  [⟨(.some 28), (.build [(.D (.I .i64 0)), (.D (.I .i64 0)), (.D (.S [])), (.fl []), (.D (.I .i64 0))] [(4, (1, (.const (.int .i64 1))))]), .none⟩,
   ⟨.none, (.store 5 (.tmp 6) (.tmp 28)), .none⟩]
def f15g3 : List RO :=
  [⟨(.some 29), (.bslice 1 []), .none⟩,
   ⟨(.some 30), (.faddr 3 (.tmp 3)), .none⟩,
   ⟨(.some 31), (.load .none (.tmp 30)), .none⟩,
   ⟨(.some 32), (.mv (.tmp 1)), .none⟩,
   ⟨(.some 33), (.faddr 0 (.tmp 3)), .none⟩,
   ⟨(.some 34), (.load .none (.tmp 33)), .none⟩,
   ⟨(.some 35), (.bin .sub (.tmp 32) (.tmp 34)), .none⟩,
   ⟨(.some 36), (.sll 1 (.tmp 31) (.some (.tmp 35)) .none .none), .none⟩,
   ⟨(.some 37), (.app 1 16 (.tmp 29) (.tmp 36)), .none⟩,
   ⟨(.some 7), (.mv (.tmp 37)), .none⟩]
def f15g4 : List RO :=
  [⟨(.some 38), (.mv (.tmp 1)), .none⟩,
   ⟨(.some 39), (.faddr 1 (.tmp 3)), .none⟩,
   ⟨(.some 40), (.load .none (.tmp 39)), .none⟩,
   ⟨(.some 41), (.mv (.tmp 2)), .none⟩,
   ⟨(.some 42), (.mv (.tmp 7)), .none⟩,
   ⟨(.some 43), (.build [(.D (.I .i64 0)), (.D (.I .i64 0)), (.D (.S [])), (.fl [])] [(0, (1, (.tmp 38))), (1, (1, (.tmp 40))), (2, (1, (.tmp 41))), (3, (1, (.tmp 42)))]), .none⟩,
   ⟨(.some 44), (.build [(.D (.I .i64 0)), (.D (.I .i64 0)), (.D (.S [])), (.fl []), (.D (.I .i64 0))] [(0, (4, (.tmp 43)))]), .none⟩,
   ⟨.none, (.store 5 (.tmp 6) (.tmp 44)), .none⟩]
def f15c : RCode := (.seq (.reg .false f15g0) (.seq (.seq (.reg .false f15g1) (.cond (.tmp 27) (.seq (.reg .false f15g2) .ret) .skip)) (.seq (.reg .false f15g3) (.seq (.reg .false f15g4) .ret))))
def f15r : List RRes := [(.cell (.some 5) 6)]
attribute [push_cast] f15g0 f15g1 f15g2 f15g3 f15g4
def F15 (N : Nat) (p0 : Outbox) (p1 : Int) (p2 : Str) : Option ROut := bd? (F19 N p0) fun v1 => if? (v1) (if? (decide (p1 < p0.Base)) (some ((ROut.mk (Outbox.mk 0 0 ([] : Str) []) 1))) (bd? (F36 N p0) fun v2 => if? (decide (p1 > v2)) (some ((ROut.mk (Outbox.mk 0 0 ([] : Str) []) 1))) (if? (decide ((p2.length : Int) > 65536)) (some ((ROut.mk (Outbox.mk 0 0 ([] : Str) []) 1))) (ck .i64 (p1 - p0.Base) (gd? (0 ≤ (p1 - p0.Base)) (gd? ((p1 - p0.Base).toNat ≤ p0.Queue.length) (gd? (((p0.Queue.drop (p1 - p0.Base).toNat).take (p0.Queue.length - (p1 - p0.Base).toNat)).length * 16 ≤ 140737488355328) (some ((ROut.mk (Outbox.mk p1 p0.Acked p2 ((p0.Queue.drop (p1 - p0.Base).toNat).take (p0.Queue.length - (p1 - p0.Base).toNat))) 0)))))))))) (some ((ROut.mk (Outbox.mk 0 0 ([] : Str) []) 1)))
theorem c15 (N : Nat) (p0 : Outbox) (p1 : Int) (p2 : Str) (r : ROut) (h : F15 N p0 p1 p2 = some r) : ACall Try.prog 15 [.agg [.D (.I .i64 p0.Base), .D (.I .i64 p0.Acked), .D (.S p0.Summary), .D (.L (p0.Queue.map rS))], .D (.I .i64 p1), .D (.S p2)] [] (.agg [.D (.I .i64 r.O.Base), .D (.I .i64 r.O.Acked), .D (.S r.O.Summary), .D (.L (r.O.Queue.map rS)), .D (.I .i64 r.E)]) [] [] := by
  refine ACall.of_bodyW [] (fn := Try.f15) (rc := f15c) (rs := f15r) Try.func15 rfl rfl (by kernel_rfl) (by kernel_rfl) (by kernel_rfl) (by rw [Try.ntmps15]; simp) ?_
  unfold F15 at h
  unfold f15c f15r
  rw [entry_eq _ _]
  obtain ⟨v1, h372, h⟩ := F_bd h
  simp (config := { maxSteps := 1000000 }) (disch := first | assumption | (simp; done) | omega | (simp; omega)) only [push_cast, reduceCtorEq, Nat.reduceEqDiff, Nat.reduceAdd, Nat.reduceSub, Nat.reduceMul, Nat.reduceLeDiff, Nat.reduceLT, Int.reduceEq, Int.reduceNe, Int.reduceLT, Int.reduceLE, Int.reduceGT, Int.reduceGE, Int.reduceBEq, Int.reduceBNe, ↓reduceIte]
  refine call_flat (by rfl) (c19 N _ _ h372) ?_ rfl ?_
  · simp (config := { maxSteps := 1000000 }) (disch := first | assumption | (simp; done) | omega | (simp; omega)) only [push_cast, reduceCtorEq, Nat.reduceEqDiff, Nat.reduceAdd, Nat.reduceSub, Nat.reduceMul, Nat.reduceLeDiff, Nat.reduceLT, Int.reduceEq, Int.reduceNe, Int.reduceLT, Int.reduceLE, Int.reduceGT, Int.reduceGE, Int.reduceBEq, Int.reduceBNe, ↓reduceIte] <;> rfl
  rcases F_if h with ⟨h373, h⟩ | ⟨h373, h⟩
  · try simp (disch := first | assumption | (simp; done) | omega | (simp; omega)) only [push_cast, reduceCtorEq, Nat.reduceEqDiff, Nat.reduceAdd, Nat.reduceSub, Nat.reduceMul, Nat.reduceLeDiff, Nat.reduceLT, Int.reduceEq, Int.reduceNe, Int.reduceLT, Int.reduceLE, Int.reduceGT, Int.reduceGE, Int.reduceBEq, Int.reduceBNe, ↓reduceIte] at h373
    rcases F_if h with ⟨h374, h⟩ | ⟨h374, h⟩
    · try simp (disch := first | assumption | (simp; done) | omega | (simp; omega)) only [push_cast, reduceCtorEq, Nat.reduceEqDiff, Nat.reduceAdd, Nat.reduceSub, Nat.reduceMul, Nat.reduceLeDiff, Nat.reduceLT, Int.reduceEq, Int.reduceNe, Int.reduceLT, Int.reduceLE, Int.reduceGT, Int.reduceGE, Int.reduceBEq, Int.reduceBNe, ↓reduceIte] at h374
      obtain rfl := Option.some.inj h
      simp (config := { maxSteps := 1000000 }) (disch := first | assumption | (simp; done) | omega | (simp; omega)) only [push_cast, reduceCtorEq, Nat.reduceEqDiff, Nat.reduceAdd, Nat.reduceSub, Nat.reduceMul, Nat.reduceLeDiff, Nat.reduceLT, Int.reduceEq, Int.reduceNe, Int.reduceLT, Int.reduceLE, Int.reduceGT, Int.reduceGE, Int.reduceBEq, Int.reduceBNe, ↓reduceIte, h373, h374]
      refine e_ret (.inr rfl) ?_
      simp (config := { maxSteps := 1000000 }) (disch := first | assumption | (simp; done) | omega | (simp; omega)) only [push_cast, reduceCtorEq, Nat.reduceEqDiff, Nat.reduceAdd, Nat.reduceSub, Nat.reduceMul, Nat.reduceLeDiff, Nat.reduceLT, Int.reduceEq, Int.reduceNe, Int.reduceLT, Int.reduceLE, Int.reduceGT, Int.reduceGE, Int.reduceBEq, Int.reduceBNe, ↓reduceIte, aret, aresults, aresult, h373, h374]
      refine ⟨_, rfl, ?_⟩
      first | (simp (config := { maxSteps := 1000000 }) (disch := first | assumption | (simp; done) | omega | (simp; omega)) only [push_cast, reduceCtorEq, Nat.reduceEqDiff, Nat.reduceAdd, Nat.reduceSub, Nat.reduceMul, Nat.reduceLeDiff, Nat.reduceLT, Int.reduceEq, Int.reduceNe, Int.reduceLT, Int.reduceLE, Int.reduceGT, Int.reduceGE, Int.reduceBEq, Int.reduceBNe, ↓reduceIte, h373, h374] <;> rfl) | rfl
    · try simp (disch := first | assumption | (simp; done) | omega | (simp; omega)) only [push_cast, reduceCtorEq, Nat.reduceEqDiff, Nat.reduceAdd, Nat.reduceSub, Nat.reduceMul, Nat.reduceLeDiff, Nat.reduceLT, Int.reduceEq, Int.reduceNe, Int.reduceLT, Int.reduceLE, Int.reduceGT, Int.reduceGE, Int.reduceBEq, Int.reduceBNe, ↓reduceIte] at h374
      obtain ⟨v2, h375, h⟩ := F_bd h
      simp (config := { maxSteps := 1000000 }) (disch := first | assumption | (simp; done) | omega | (simp; omega)) only [push_cast, reduceCtorEq, Nat.reduceEqDiff, Nat.reduceAdd, Nat.reduceSub, Nat.reduceMul, Nat.reduceLeDiff, Nat.reduceLT, Int.reduceEq, Int.reduceNe, Int.reduceLT, Int.reduceLE, Int.reduceGT, Int.reduceGE, Int.reduceBEq, Int.reduceBNe, ↓reduceIte, h373, h374]
      refine call_flat (by rfl) (c36 N _ _ h375) ?_ rfl ?_
      · simp (config := { maxSteps := 1000000 }) (disch := first | assumption | (simp; done) | omega | (simp; omega)) only [push_cast, reduceCtorEq, Nat.reduceEqDiff, Nat.reduceAdd, Nat.reduceSub, Nat.reduceMul, Nat.reduceLeDiff, Nat.reduceLT, Int.reduceEq, Int.reduceNe, Int.reduceLT, Int.reduceLE, Int.reduceGT, Int.reduceGE, Int.reduceBEq, Int.reduceBNe, ↓reduceIte, h373, h374] <;> rfl
      rcases F_if h with ⟨h376, h⟩ | ⟨h376, h⟩
      · try simp (disch := first | assumption | (simp; done) | omega | (simp; omega)) only [push_cast, reduceCtorEq, Nat.reduceEqDiff, Nat.reduceAdd, Nat.reduceSub, Nat.reduceMul, Nat.reduceLeDiff, Nat.reduceLT, Int.reduceEq, Int.reduceNe, Int.reduceLT, Int.reduceLE, Int.reduceGT, Int.reduceGE, Int.reduceBEq, Int.reduceBNe, ↓reduceIte] at h376
        obtain rfl := Option.some.inj h
        simp (config := { maxSteps := 1000000 }) (disch := first | assumption | (simp; done) | omega | (simp; omega)) only [push_cast, reduceCtorEq, Nat.reduceEqDiff, Nat.reduceAdd, Nat.reduceSub, Nat.reduceMul, Nat.reduceLeDiff, Nat.reduceLT, Int.reduceEq, Int.reduceNe, Int.reduceLT, Int.reduceLE, Int.reduceGT, Int.reduceGE, Int.reduceBEq, Int.reduceBNe, ↓reduceIte, h373, h374, h376]
        refine e_ret (.inr rfl) ?_
        simp (config := { maxSteps := 1000000 }) (disch := first | assumption | (simp; done) | omega | (simp; omega)) only [push_cast, reduceCtorEq, Nat.reduceEqDiff, Nat.reduceAdd, Nat.reduceSub, Nat.reduceMul, Nat.reduceLeDiff, Nat.reduceLT, Int.reduceEq, Int.reduceNe, Int.reduceLT, Int.reduceLE, Int.reduceGT, Int.reduceGE, Int.reduceBEq, Int.reduceBNe, ↓reduceIte, aret, aresults, aresult, h373, h374, h376]
        refine ⟨_, rfl, ?_⟩
        first | (simp (config := { maxSteps := 1000000 }) (disch := first | assumption | (simp; done) | omega | (simp; omega)) only [push_cast, reduceCtorEq, Nat.reduceEqDiff, Nat.reduceAdd, Nat.reduceSub, Nat.reduceMul, Nat.reduceLeDiff, Nat.reduceLT, Int.reduceEq, Int.reduceNe, Int.reduceLT, Int.reduceLE, Int.reduceGT, Int.reduceGE, Int.reduceBEq, Int.reduceBNe, ↓reduceIte, h373, h374, h376] <;> rfl) | rfl
      · try simp (disch := first | assumption | (simp; done) | omega | (simp; omega)) only [push_cast, reduceCtorEq, Nat.reduceEqDiff, Nat.reduceAdd, Nat.reduceSub, Nat.reduceMul, Nat.reduceLeDiff, Nat.reduceLT, Int.reduceEq, Int.reduceNe, Int.reduceLT, Int.reduceLE, Int.reduceGT, Int.reduceGE, Int.reduceBEq, Int.reduceBNe, ↓reduceIte] at h376
        rcases F_if h with ⟨h377, h⟩ | ⟨h377, h⟩
        · try simp (disch := first | assumption | (simp; done) | omega | (simp; omega)) only [push_cast, reduceCtorEq, Nat.reduceEqDiff, Nat.reduceAdd, Nat.reduceSub, Nat.reduceMul, Nat.reduceLeDiff, Nat.reduceLT, Int.reduceEq, Int.reduceNe, Int.reduceLT, Int.reduceLE, Int.reduceGT, Int.reduceGE, Int.reduceBEq, Int.reduceBNe, ↓reduceIte] at h377
          obtain rfl := Option.some.inj h
          simp (config := { maxSteps := 1000000 }) (disch := first | assumption | (simp; done) | omega | (simp; omega)) only [push_cast, reduceCtorEq, Nat.reduceEqDiff, Nat.reduceAdd, Nat.reduceSub, Nat.reduceMul, Nat.reduceLeDiff, Nat.reduceLT, Int.reduceEq, Int.reduceNe, Int.reduceLT, Int.reduceLE, Int.reduceGT, Int.reduceGE, Int.reduceBEq, Int.reduceBNe, ↓reduceIte, h373, h374, h376, h377]
          refine e_ret (.inr rfl) ?_
          simp (config := { maxSteps := 1000000 }) (disch := first | assumption | (simp; done) | omega | (simp; omega)) only [push_cast, reduceCtorEq, Nat.reduceEqDiff, Nat.reduceAdd, Nat.reduceSub, Nat.reduceMul, Nat.reduceLeDiff, Nat.reduceLT, Int.reduceEq, Int.reduceNe, Int.reduceLT, Int.reduceLE, Int.reduceGT, Int.reduceGE, Int.reduceBEq, Int.reduceBNe, ↓reduceIte, aret, aresults, aresult, h373, h374, h376, h377]
          refine ⟨_, rfl, ?_⟩
          first | (simp (config := { maxSteps := 1000000 }) (disch := first | assumption | (simp; done) | omega | (simp; omega)) only [push_cast, reduceCtorEq, Nat.reduceEqDiff, Nat.reduceAdd, Nat.reduceSub, Nat.reduceMul, Nat.reduceLeDiff, Nat.reduceLT, Int.reduceEq, Int.reduceNe, Int.reduceLT, Int.reduceLE, Int.reduceGT, Int.reduceGE, Int.reduceBEq, Int.reduceBNe, ↓reduceIte, h373, h374, h376, h377] <;> rfl) | rfl
        · try simp (disch := first | assumption | (simp; done) | omega | (simp; omega)) only [push_cast, reduceCtorEq, Nat.reduceEqDiff, Nat.reduceAdd, Nat.reduceSub, Nat.reduceMul, Nat.reduceLeDiff, Nat.reduceLT, Int.reduceEq, Int.reduceNe, Int.reduceLT, Int.reduceLE, Int.reduceGT, Int.reduceGE, Int.reduceBEq, Int.reduceBNe, ↓reduceIte] at h377
          obtain ⟨h378, h⟩ := F_ck h
          try simp (disch := first | assumption | (simp; done) | omega | (simp; omega)) only [push_cast, reduceCtorEq, Nat.reduceEqDiff, Nat.reduceAdd, Nat.reduceSub, Nat.reduceMul, Nat.reduceLeDiff, Nat.reduceLT, Int.reduceEq, Int.reduceNe, Int.reduceLT, Int.reduceLE, Int.reduceGT, Int.reduceGE, Int.reduceBEq, Int.reduceBNe, ↓reduceIte] at h378
          obtain ⟨h379, h⟩ := F_gd h
          try simp (disch := first | assumption | (simp; done) | omega | (simp; omega)) only [push_cast, reduceCtorEq, Nat.reduceEqDiff, Nat.reduceAdd, Nat.reduceSub, Nat.reduceMul, Nat.reduceLeDiff, Nat.reduceLT, Int.reduceEq, Int.reduceNe, Int.reduceLT, Int.reduceLE, Int.reduceGT, Int.reduceGE, Int.reduceBEq, Int.reduceBNe, ↓reduceIte] at h379
          obtain ⟨h380, h⟩ := F_gd h
          try simp (disch := first | assumption | (simp; done) | omega | (simp; omega)) only [push_cast, reduceCtorEq, Nat.reduceEqDiff, Nat.reduceAdd, Nat.reduceSub, Nat.reduceMul, Nat.reduceLeDiff, Nat.reduceLT, Int.reduceEq, Int.reduceNe, Int.reduceLT, Int.reduceLE, Int.reduceGT, Int.reduceGE, Int.reduceBEq, Int.reduceBNe, ↓reduceIte] at h380
          obtain ⟨h381, h⟩ := F_gd h
          try simp (disch := first | assumption | (simp; done) | omega | (simp; omega)) only [push_cast, reduceCtorEq, Nat.reduceEqDiff, Nat.reduceAdd, Nat.reduceSub, Nat.reduceMul, Nat.reduceLeDiff, Nat.reduceLT, Int.reduceEq, Int.reduceNe, Int.reduceLT, Int.reduceLE, Int.reduceGT, Int.reduceGE, Int.reduceBEq, Int.reduceBNe, ↓reduceIte] at h381
          obtain rfl := Option.some.inj h
          simp (config := { maxSteps := 1000000 }) (disch := first | assumption | (simp; done) | omega | (simp; omega)) only [push_cast, reduceCtorEq, Nat.reduceEqDiff, Nat.reduceAdd, Nat.reduceSub, Nat.reduceMul, Nat.reduceLeDiff, Nat.reduceLT, Int.reduceEq, Int.reduceNe, Int.reduceLT, Int.reduceLE, Int.reduceGT, Int.reduceGE, Int.reduceBEq, Int.reduceBNe, ↓reduceIte, h373, h374, h376, h377, h378, h379, h380, h381]
          refine e_ret (.inr rfl) ?_
          simp (config := { maxSteps := 1000000 }) (disch := first | assumption | (simp; done) | omega | (simp; omega)) only [push_cast, reduceCtorEq, Nat.reduceEqDiff, Nat.reduceAdd, Nat.reduceSub, Nat.reduceMul, Nat.reduceLeDiff, Nat.reduceLT, Int.reduceEq, Int.reduceNe, Int.reduceLT, Int.reduceLE, Int.reduceGT, Int.reduceGE, Int.reduceBEq, Int.reduceBNe, ↓reduceIte, aret, aresults, aresult, h373, h374, h376, h377, h378, h379, h380, h381]
          refine ⟨_, rfl, ?_⟩
          first | (simp (config := { maxSteps := 1000000 }) (disch := first | assumption | (simp; done) | omega | (simp; omega)) only [push_cast, reduceCtorEq, Nat.reduceEqDiff, Nat.reduceAdd, Nat.reduceSub, Nat.reduceMul, Nat.reduceLeDiff, Nat.reduceLT, Int.reduceEq, Int.reduceNe, Int.reduceLT, Int.reduceLE, Int.reduceGT, Int.reduceGE, Int.reduceBEq, Int.reduceBNe, ↓reduceIte, h373, h374, h376, h377, h378, h379, h380, h381] <;> rfl) | rfl
  · try simp (disch := first | assumption | (simp; done) | omega | (simp; omega)) only [push_cast, reduceCtorEq, Nat.reduceEqDiff, Nat.reduceAdd, Nat.reduceSub, Nat.reduceMul, Nat.reduceLeDiff, Nat.reduceLT, Int.reduceEq, Int.reduceNe, Int.reduceLT, Int.reduceLE, Int.reduceGT, Int.reduceGE, Int.reduceBEq, Int.reduceBNe, ↓reduceIte] at h373
    obtain rfl := Option.some.inj h
    simp (config := { maxSteps := 1000000 }) (disch := first | assumption | (simp; done) | omega | (simp; omega)) only [push_cast, reduceCtorEq, Nat.reduceEqDiff, Nat.reduceAdd, Nat.reduceSub, Nat.reduceMul, Nat.reduceLeDiff, Nat.reduceLT, Int.reduceEq, Int.reduceNe, Int.reduceLT, Int.reduceLE, Int.reduceGT, Int.reduceGE, Int.reduceBEq, Int.reduceBNe, ↓reduceIte, h373]
    refine e_ret (.inr rfl) ?_
    simp (config := { maxSteps := 1000000 }) (disch := first | assumption | (simp; done) | omega | (simp; omega)) only [push_cast, reduceCtorEq, Nat.reduceEqDiff, Nat.reduceAdd, Nat.reduceSub, Nat.reduceMul, Nat.reduceLeDiff, Nat.reduceLT, Int.reduceEq, Int.reduceNe, Int.reduceLT, Int.reduceLE, Int.reduceGT, Int.reduceGE, Int.reduceBEq, Int.reduceBNe, ↓reduceIte, aret, aresults, aresult, h373]
    refine ⟨_, rfl, ?_⟩
    first | (simp (config := { maxSteps := 1000000 }) (disch := first | assumption | (simp; done) | omega | (simp; omega)) only [push_cast, reduceCtorEq, Nat.reduceEqDiff, Nat.reduceAdd, Nat.reduceSub, Nat.reduceMul, Nat.reduceLeDiff, Nat.reduceLT, Int.reduceEq, Int.reduceNe, Int.reduceLT, Int.reduceLE, Int.reduceGT, Int.reduceGE, Int.reduceBEq, Int.reduceBNe, ↓reduceIte, h373] <;> rfl) | rfl

end Go.Proofs.Try
