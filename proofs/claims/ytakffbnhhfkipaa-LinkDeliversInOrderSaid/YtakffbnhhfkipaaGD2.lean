/- Printed by a program: what the functions compute, and that they do (part 2). -/
import Derived.Test.YtakffbnhhfkipaaGD1
set_option linter.unusedSimpArgs false
set_option linter.unusedVariables false
set_option maxRecDepth 8000
namespace Go.Proofs.Try
open Go.Eng Go.RowKit
/-! ## 23 rivermark.link.Receive -/
def f23g0 : List RO :=
  [⟨(.some 2), (.box (.tmp 0)), .none⟩,
   ⟨(.some 3), (.box (.tmp 1)), .none⟩,
   ⟨(.some 4), (.new [(.D (.I .i64 0)), (.fl [])]), .none⟩,
   ⟨(.some 5), (.mv (.const (.slice .none 0 0))), .none⟩,
   ⟨(.some 6), (.mv (.const (.int .i64 0))), .none⟩]
def f23g1 : List RO :=
  [⟨(.some 10), (.load (.some 2) (.tmp 2)), .none⟩,
   ⟨(.some 11), (.call (.func 22) [(.tmp 10)]), .none⟩,
   ⟨(.some 12), (.un .not (.tmp 11)), .none⟩,
   ⟨(.some 13), (.mv (.tmp 12)), .none⟩,
   ⟨(.some 14), (.faddr 1 (.tmp 3)), (.some (13, .false))⟩,
   ⟨(.some 15), (.load .none (.tmp 14)), (.some (13, .false))⟩,
   ⟨(.some 16), (.call (.func 35) [(.tmp 15), (.const (.int .i64 1099511627776))]), (.some (13, .false))⟩,
   ⟨(.some 17), (.un .not (.tmp 16)), (.some (13, .false))⟩,
   ⟨(.some 18), (.pick (.tmp 13) (.const (.bool .true)) (.tmp 17)), .none⟩,
   ⟨(.some 19), (.mv (.tmp 18)), .none⟩,
   ⟨(.some 20), (.faddr 2 (.tmp 3)), (.some (19, .false))⟩,
   ⟨(.some 21), (.load .none (.tmp 20)), (.some (19, .false))⟩,
   ⟨(.some 22), (.call (.func 31) [(.tmp 21)]), (.some (19, .false))⟩,
   ⟨(.some 23), (.un .not (.tmp 22)), (.some (19, .false))⟩,
   ⟨(.some 24), (.pick (.tmp 19) (.const (.bool .true)) (.tmp 23)), .none⟩]
def f23g2 : List RO :=
  [⟨(.some 25), (.load (.some 2) (.tmp 2)), .none⟩,
   ⟨.none, (.store 2 (.tmp 4) (.tmp 25)), .none⟩,
   ⟨(.some 5), (.mv (.const (.slice .none 0 0))), .none⟩,
   ⟨(.some 6), (.mv (.const (.int .i64 1))), .none⟩]
def f23g3 : List RO :=
  [⟨(.some 27), (.faddr 1 (.tmp 2)), .none⟩,
   ⟨(.some 28), (.load .none (.tmp 27)), .none⟩,
   ⟨(.some 29), (.faddr 1 (.tmp 3)), .none⟩,
   ⟨(.some 30), (.load .none (.tmp 29)), .none⟩,
   ⟨(.some 31), (.call (.func 39) [(.tmp 28), (.tmp 30), (.func 40)]), .none⟩,
   ⟨(.some 26), (.mv (.tmp 31)), .none⟩,
   ⟨(.some 32), (.ext (.tmp 26) 0), .none⟩,
   ⟨(.some 33), (.ext (.tmp 26) 1), .none⟩,
   ⟨(.some 7), (.mv (.tmp 32)), .none⟩,
   ⟨(.some 8), (.mv (.tmp 33)), .none⟩]
def f23g4 : List RO :=
  [⟨(.some 35), (.faddr 1 (.tmp 3)), .none⟩,
   ⟨(.some 36), (.load .none (.tmp 35)), .none⟩,
   ⟨(.some 37), (.faddr 0 (.tmp 2)), .none⟩,
   ⟨(.some 38), (.load .none (.tmp 37)), .none⟩,
   ⟨(.some 39), (.bin .lss (.tmp 36) (.tmp 38)), .none⟩,
   ⟨(.some 34), (.mv (.tmp 39)), .none⟩]
def f23g5 : List RO :=
  [⟨(.some 40), (.faddr 0 (.tmp 3)), .none⟩,
   ⟨(.some 41), (.load .none (.tmp 40)), .none⟩,
   ⟨(.some 42), (.mv (.tmp 41)), .none⟩,
   ⟨(.some 43), (.faddr 1 (.tmp 3)), (.some (42, .true))⟩,
   ⟨(.some 44), (.load .none (.tmp 43)), (.some (42, .true))⟩,
   ⟨(.some 45), (.faddr 0 (.tmp 2)), (.some (42, .true))⟩,
   ⟨(.some 46), (.load .none (.tmp 45)), (.some (42, .true))⟩,
   ⟨(.some 47), (.bin .eql (.tmp 44) (.tmp 46)), (.some (42, .true))⟩,
   ⟨(.some 48), (.pick (.tmp 42) (.tmp 47) (.const (.bool .false))), .none⟩,
   ⟨(.some 34), (.mv (.tmp 48)), .none⟩]
def f23g6 : List RO :=
  [⟨(.some 49), (.load (.some 2) (.tmp 2)), .none⟩,
   ⟨.none, (.store 2 (.tmp 4) (.tmp 49)), .none⟩,
   ⟨(.some 5), (.mv (.const (.slice .none 0 0))), .none⟩,
   ⟨(.some 6), (.mv (.const (.int .i64 0))), .none⟩]
def f23g7 : List RO :=
  [⟨(.some 51), (.faddr 0 (.tmp 3)), .none⟩,
   ⟨(.some 52), (.load .none (.tmp 51)), .none⟩,
   ⟨(.some 53), (.un .not (.tmp 52)), .none⟩,
   ⟨(.some 54), (.mv (.tmp 53)), .none⟩,
   ⟨(.some 55), (.faddr 1 (.tmp 3)), (.some (54, .true))⟩,
   ⟨(.some 56), (.load .none (.tmp 55)), (.some (54, .true))⟩,
   ⟨(.some 57), (.faddr 0 (.tmp 2)), (.some (54, .true))⟩,
   ⟨(.some 58), (.load .none (.tmp 57)), (.some (54, .true))⟩,
   ⟨(.some 59), (.bin .gtr (.tmp 56) (.tmp 58)), (.some (54, .true))⟩,
   ⟨(.some 60), (.pick (.tmp 54) (.tmp 59) (.const (.bool .false))), .none⟩,
   ⟨(.some 50), (.mv (.tmp 60)), .none⟩]
def f23g8 : List RO :=
  [⟨(.some 61), (.mv (.tmp 8)), .none⟩,
   ⟨(.some 62), (.un .not (.tmp 61)), .none⟩,
   ⟨(.some 63), (.mv (.tmp 62)), .none⟩,
   ⟨(.some 64), (.faddr 1 (.tmp 2)), (.some (63, .true))⟩,
   ⟨(.some 65), (.load .none (.tmp 64)), (.some (63, .true))⟩,
   ⟨(.some 66), (.len .false (.tmp 65)), (.some (63, .true))⟩,
   ⟨(.some 67), (.bin .lss (.tmp 66) (.const (.int .i64 64))), (.some (63, .true))⟩,
   ⟨(.some 68), (.pick (.tmp 63) (.tmp 67) (.const (.bool .false))), .none⟩]
def f23g9 : List RO :=
  [⟨(.some 69), (.faddr 1 (.tmp 2)), .none⟩,
   ⟨(.some 70), (.load .none (.tmp 69)), .none⟩,
   ⟨(.some 71), (.call (.func 42) [(.tmp 70)]), .none⟩,
   ⟨(.some 72), (.mv (.tmp 7)), .none⟩,
   ⟨(.some 73), (.load (.some 3) (.tmp 3)), .none⟩,
   ⟨(.some 74), (.bslice 3 [(.tmp 73)]), .none⟩,
   ⟨(.some 75), (.callE (.func 41) [(.tmp 71), (.tmp 72), (.tmp 74)]), .none⟩,
   ⟨(.some 76), (.faddr 1 (.tmp 2)), .none⟩,
   ⟨.none, (.store 1 (.tmp 76) (.tmp 75)), .none⟩]
def f23g10 : List RO :=
  [⟨(.some 77), (.load (.some 2) (.tmp 2)), .none⟩,
   ⟨.none, (.store 2 (.tmp 4) (.tmp 77)), .none⟩,
   ⟨(.some 5), (.mv (.const (.slice .none 0 0))), .none⟩,
   ⟨(.some 6), (.mv (.const (.int .i64 0))), .none⟩]
def f23g11 : List RO :=
  [⟨(.some 78), (.load (.some 3) (.tmp 3)), .none⟩,
   ⟨(.some 79), (.bslice 3 [(.tmp 78)]), .none⟩,
   ⟨(.some 9), (.new [(.fl [])]), .none⟩,
   ⟨.none, (.store 1 (.tmp 9) (.tmp 79)), .none⟩]
def f23g12 : List RO :=
  [⟨(.some 80), (.faddr 1 (.tmp 3)), .none⟩,
   ⟨(.some 81), (.load .none (.tmp 80)), .none⟩,
   ⟨(.some 82), (.faddr 0 (.tmp 2)), .none⟩,
   ⟨.none, (.store 1 (.tmp 82) (.tmp 81)), .none⟩]
def f23g13 : List RO :=
  [⟨(.some 83), (.faddr 0 (.tmp 3)), .none⟩,
   ⟨(.some 84), (.load .none (.tmp 83)), .none⟩,
   ⟨(.some 85), (.un .not (.tmp 84)), .none⟩]
def f23g14 : List RO :=
  [⟨(.some 86), (.faddr 0 (.tmp 2)), .none⟩,
   ⟨(.some 87), (.load .none (.tmp 86)), .none⟩,
   ⟨(.some 88), (.bin .add (.tmp 87) (.const (.int .i64 1))), .none⟩,
   ⟨(.some 89), (.faddr 0 (.tmp 2)), .none⟩,
   ⟨.none, (.store 1 (.tmp 89) (.tmp 88)), .none⟩]
def f23g15 : List RO :=
  [⟨(.some 90), (.faddr 1 (.tmp 2)), .none⟩,
   ⟨(.some 91), (.load .none (.tmp 90)), .none⟩,
   ⟨(.some 92), (.call (.func 42) [(.tmp 91)]), .none⟩,
   ⟨(.some 93), (.mkf 44 [(.tmp 2), (.tmp 9)]), .none⟩,
   ⟨(.some 94), (.callE (.func 43) [(.tmp 92), (.tmp 93)]), .none⟩,
   ⟨(.some 95), (.faddr 1 (.tmp 2)), .none⟩,
   ⟨.none, (.store 1 (.tmp 95) (.tmp 94)), .none⟩]
def f23g16 : List RO :=
  [⟨(.some 96), (.loadS (.some 2) (.tmp 2)), .none⟩,
   ⟨(.some 97), (.loadS .none (.tmp 9)), .none⟩,
   ⟨.none, (.store 2 (.tmp 4) (.tmp 96)), .none⟩,
   ⟨(.some 5), (.mv (.tmp 97)), .none⟩,
   ⟨(.some 6), (.mv (.const (.int .i64 0))), .none⟩]
def f23c : RCode := (.seq (.reg .false f23g0) (.seq (.seq (.reg .false f23g1) (.cond (.tmp 24) (.seq (.reg .false f23g2) .ret) .skip)) (.seq (.reg .false f23g3) (.seq (.block 0 (.seq (.seq (.reg .false f23g4) (.cond (.tmp 34) .skip (.reg .false f23g5))) (.cond (.tmp 34) (.seq (.reg .false f23g6) .ret) (.seq (.reg .false f23g7) (.cond (.tmp 50) (.seq (.seq (.reg .false f23g8) (.cond (.tmp 68) (.reg .true f23g9) .skip)) (.seq (.reg .false f23g10) .ret)) .skip))))) (.seq (.reg .false f23g11) (.seq (.seq (.reg .false f23g12) (.seq (.reg .false f23g13) (.cond (.tmp 85) (.reg .false f23g14) .skip))) (.seq (.reg .false f23g15) (.seq (.regS f23g16) .ret))))))))
def f23r : List RRes := [(.cell (.some 2) 4), (.tmp 5), (.tmp 6)]
attribute [push_cast] f23g0 f23g1 f23g2 f23g3 f23g4 f23g5 f23g6 f23g7 f23g8 f23g9 f23g10 f23g11 f23g12 f23g13 f23g14 f23g15 f23g16
def F23 (N : Nat) (p0 : Inbox) (p1 : Frame) : Option (Inbox × (List Frame) × Int) := bd? (F22 N p0) fun v1 => if? (v1) (bd? (F35 N p1.Seq 1099511627776) fun v2 => if? (v2) (bd? (F31 N p1.Body) fun v3 => if? (v3) (bd? (F39 N p0.Ahead p1.Seq) fun v4 => if? (decide (p1.Seq < p0.Next)) (some (p0, [], 0)) (if? (p1.Sum) (if? ((p1.Seq == p0.Next)) (some (p0, [], 0)) (bd? (F42 N p0.Ahead) fun v5 => bd? (F43 N v5 (Inbox.mk p1.Seq p0.Ahead) [p1]) fun v6 => gd? (v6.2.1.length = v5.length) (gd? (v6.1.toNat ≤ v6.2.1.length) (some ((Inbox.mk v6.2.2.1.Next (v6.2.1.take v6.1.toNat)), v6.2.2.2, 0))))) (if? (decide (p1.Seq > p0.Next)) (if? (v4.2) (some (p0, [], 0)) (if? (decide ((p0.Ahead.length : Int) < 64)) (bd? (F42 N p0.Ahead) fun v7 => bd? (F41 N v4.1 v7 [p1]) fun v8 => some ((Inbox.mk p0.Next v8), [], 0)) (some (p0, [], 0)))) (ck .i64 (p1.Seq + 1) (bd? (F42 N p0.Ahead) fun v9 => bd? (F43 N v9 (Inbox.mk (p1.Seq + 1) p0.Ahead) [p1]) fun v10 => gd? (v10.2.1.length = v9.length) (gd? (v10.1.toNat ≤ v10.2.1.length) (some ((Inbox.mk v10.2.2.1.Next (v10.2.1.take v10.1.toNat)), v10.2.2.2, 0)))))))) (some (p0, [], 1))) (some (p0, [], 1))) (some (p0, [], 1))
theorem c23 (N : Nat) (p0 : Inbox) (p1 : Frame) (r : (Inbox × (List Frame) × Int)) (h : F23 N p0 p1 = some r) : ACall Try.prog 23 [.agg [.D (.I .i64 p0.Next), .D (.L (p0.Ahead.map Frame.row))], .agg [.D (.B p1.Sum), .D (.I .i64 p1.Seq), .D (.S p1.Body)]] [] (.tup [.agg [.D (.I .i64 r.1.Next), .D (.L (r.1.Ahead.map Frame.row))], .sl (.O 0) 3 0 r.2.1.length, .D (.I .i64 r.2.2)]) [] [.row true 3 (r.2.1.map Frame.row)] := by
  refine ACall.of_bodyW [75, 94, 96, 97] (fn := Try.f23) (rc := f23c) (rs := f23r) Try.func23 rfl rfl (by kernel_rfl) (by kernel_rfl) (by kernel_rfl) (by rw [Try.ntmps23]; simp) ?_
  unfold F23 at h
  unfold f23c f23r
  rw [entry_eq _ _]
  obtain ⟨v1, h201, h⟩ := F_bd h
  simp (config := { maxSteps := 1000000 }) (disch := first | assumption | (simp; done) | omega | (simp; omega)) only [push_cast, reduceCtorEq, Nat.reduceEqDiff, Nat.reduceAdd, Nat.reduceSub, Nat.reduceMul, Nat.reduceLeDiff, Nat.reduceLT, Int.reduceEq, Int.reduceNe, Int.reduceLT, Int.reduceLE, Int.reduceGT, Int.reduceGE, Int.reduceBEq, Int.reduceBNe, ↓reduceIte]
  refine call_flat (by rfl) (c22 N _ _ h201) ?_ rfl ?_
  · simp (config := { maxSteps := 1000000 }) (disch := first | assumption | (simp; done) | omega | (simp; omega)) only [push_cast, reduceCtorEq, Nat.reduceEqDiff, Nat.reduceAdd, Nat.reduceSub, Nat.reduceMul, Nat.reduceLeDiff, Nat.reduceLT, Int.reduceEq, Int.reduceNe, Int.reduceLT, Int.reduceLE, Int.reduceGT, Int.reduceGE, Int.reduceBEq, Int.reduceBNe, ↓reduceIte] <;> rfl
  rcases F_if h with ⟨h202, h⟩ | ⟨h202, h⟩
  · try simp (disch := first | assumption | (simp; done) | omega | (simp; omega)) only [push_cast, reduceCtorEq, Nat.reduceEqDiff, Nat.reduceAdd, Nat.reduceSub, Nat.reduceMul, Nat.reduceLeDiff, Nat.reduceLT, Int.reduceEq, Int.reduceNe, Int.reduceLT, Int.reduceLE, Int.reduceGT, Int.reduceGE, Int.reduceBEq, Int.reduceBNe, ↓reduceIte] at h202
    obtain ⟨v2, h203, h⟩ := F_bd h
    simp (config := { maxSteps := 1000000 }) (disch := first | assumption | (simp; done) | omega | (simp; omega)) only [push_cast, reduceCtorEq, Nat.reduceEqDiff, Nat.reduceAdd, Nat.reduceSub, Nat.reduceMul, Nat.reduceLeDiff, Nat.reduceLT, Int.reduceEq, Int.reduceNe, Int.reduceLT, Int.reduceLE, Int.reduceGT, Int.reduceGE, Int.reduceBEq, Int.reduceBNe, ↓reduceIte, h202]
    refine call_flat (by rfl) (c35 N _ _ _ h203) ?_ rfl ?_
    · simp (config := { maxSteps := 1000000 }) (disch := first | assumption | (simp; done) | omega | (simp; omega)) only [push_cast, reduceCtorEq, Nat.reduceEqDiff, Nat.reduceAdd, Nat.reduceSub, Nat.reduceMul, Nat.reduceLeDiff, Nat.reduceLT, Int.reduceEq, Int.reduceNe, Int.reduceLT, Int.reduceLE, Int.reduceGT, Int.reduceGE, Int.reduceBEq, Int.reduceBNe, ↓reduceIte, h202] <;> rfl
    rcases F_if h with ⟨h204, h⟩ | ⟨h204, h⟩
    · try simp (disch := first | assumption | (simp; done) | omega | (simp; omega)) only [push_cast, reduceCtorEq, Nat.reduceEqDiff, Nat.reduceAdd, Nat.reduceSub, Nat.reduceMul, Nat.reduceLeDiff, Nat.reduceLT, Int.reduceEq, Int.reduceNe, Int.reduceLT, Int.reduceLE, Int.reduceGT, Int.reduceGE, Int.reduceBEq, Int.reduceBNe, ↓reduceIte] at h204
      obtain ⟨v3, h205, h⟩ := F_bd h
      simp (config := { maxSteps := 1000000 }) (disch := first | assumption | (simp; done) | omega | (simp; omega)) only [push_cast, reduceCtorEq, Nat.reduceEqDiff, Nat.reduceAdd, Nat.reduceSub, Nat.reduceMul, Nat.reduceLeDiff, Nat.reduceLT, Int.reduceEq, Int.reduceNe, Int.reduceLT, Int.reduceLE, Int.reduceGT, Int.reduceGE, Int.reduceBEq, Int.reduceBNe, ↓reduceIte, h202, h204]
      refine call_flat (by rfl) (c31 N _ _ h205) ?_ rfl ?_
      · simp (config := { maxSteps := 1000000 }) (disch := first | assumption | (simp; done) | omega | (simp; omega)) only [push_cast, reduceCtorEq, Nat.reduceEqDiff, Nat.reduceAdd, Nat.reduceSub, Nat.reduceMul, Nat.reduceLeDiff, Nat.reduceLT, Int.reduceEq, Int.reduceNe, Int.reduceLT, Int.reduceLE, Int.reduceGT, Int.reduceGE, Int.reduceBEq, Int.reduceBNe, ↓reduceIte, h202, h204] <;> rfl
      rcases F_if h with ⟨h206, h⟩ | ⟨h206, h⟩
      · try simp (disch := first | assumption | (simp; done) | omega | (simp; omega)) only [push_cast, reduceCtorEq, Nat.reduceEqDiff, Nat.reduceAdd, Nat.reduceSub, Nat.reduceMul, Nat.reduceLeDiff, Nat.reduceLT, Int.reduceEq, Int.reduceNe, Int.reduceLT, Int.reduceLE, Int.reduceGT, Int.reduceGE, Int.reduceBEq, Int.reduceBNe, ↓reduceIte] at h206
        obtain ⟨v4, h207, h⟩ := F_bd h
        simp (config := { maxSteps := 1000000 }) (disch := first | assumption | (simp; done) | omega | (simp; omega)) only [push_cast, reduceCtorEq, Nat.reduceEqDiff, Nat.reduceAdd, Nat.reduceSub, Nat.reduceMul, Nat.reduceLeDiff, Nat.reduceLT, Int.reduceEq, Int.reduceNe, Int.reduceLT, Int.reduceLE, Int.reduceGT, Int.reduceGE, Int.reduceBEq, Int.reduceBNe, ↓reduceIte, h202, h204, h206]
        refine call_flat (by rfl) (c39 N _ _ _ h207) ?_ rfl ?_
        · simp (config := { maxSteps := 1000000 }) (disch := first | assumption | (simp; done) | omega | (simp; omega)) only [push_cast, reduceCtorEq, Nat.reduceEqDiff, Nat.reduceAdd, Nat.reduceSub, Nat.reduceMul, Nat.reduceLeDiff, Nat.reduceLT, Int.reduceEq, Int.reduceNe, Int.reduceLT, Int.reduceLE, Int.reduceGT, Int.reduceGE, Int.reduceBEq, Int.reduceBNe, ↓reduceIte, h202, h204, h206] <;> rfl
        rcases F_if h with ⟨h208, h⟩ | ⟨h208, h⟩
        · try simp (disch := first | assumption | (simp; done) | omega | (simp; omega)) only [push_cast, reduceCtorEq, Nat.reduceEqDiff, Nat.reduceAdd, Nat.reduceSub, Nat.reduceMul, Nat.reduceLeDiff, Nat.reduceLT, Int.reduceEq, Int.reduceNe, Int.reduceLT, Int.reduceLE, Int.reduceGT, Int.reduceGE, Int.reduceBEq, Int.reduceBNe, ↓reduceIte] at h208
          obtain rfl := Option.some.inj h
          simp (config := { maxSteps := 1000000 }) (disch := first | assumption | (simp; done) | omega | (simp; omega)) only [push_cast, reduceCtorEq, Nat.reduceEqDiff, Nat.reduceAdd, Nat.reduceSub, Nat.reduceMul, Nat.reduceLeDiff, Nat.reduceLT, Int.reduceEq, Int.reduceNe, Int.reduceLT, Int.reduceLE, Int.reduceGT, Int.reduceGE, Int.reduceBEq, Int.reduceBNe, ↓reduceIte, h202, h204, h206, h208]
          refine end_own0 5 3 rfl ?_
          simp (config := { maxSteps := 1000000 }) (disch := first | assumption | (simp; done) | omega | (simp; omega)) only [push_cast, reduceCtorEq, Nat.reduceEqDiff, Nat.reduceAdd, Nat.reduceSub, Nat.reduceMul, Nat.reduceLeDiff, Nat.reduceLT, Int.reduceEq, Int.reduceNe, Int.reduceLT, Int.reduceLE, Int.reduceGT, Int.reduceGE, Int.reduceBEq, Int.reduceBNe, ↓reduceIte, h202, h204, h206, h208]
          refine AEndW.of [3] (.inr rfl) (by decide) rfl ?_ rfl ?_
          · simp (config := { maxSteps := 1000000 }) (disch := first | assumption | (simp; done) | omega | (simp; omega)) only [push_cast, reduceCtorEq, Nat.reduceEqDiff, Nat.reduceAdd, Nat.reduceSub, Nat.reduceMul, Nat.reduceLeDiff, Nat.reduceLT, Int.reduceEq, Int.reduceNe, Int.reduceLT, Int.reduceLE, Int.reduceGT, Int.reduceGE, Int.reduceBEq, Int.reduceBNe, ↓reduceIte, h202, h204, h206, h208] <;> rfl
          · simp (config := { maxSteps := 1000000 }) (disch := first | assumption | (simp; done) | omega | (simp; omega)) only [push_cast, reduceCtorEq, Nat.reduceEqDiff, Nat.reduceAdd, Nat.reduceSub, Nat.reduceMul, Nat.reduceLeDiff, Nat.reduceLT, Int.reduceEq, Int.reduceNe, Int.reduceLT, Int.reduceLE, Int.reduceGT, Int.reduceGE, Int.reduceBEq, Int.reduceBNe, ↓reduceIte, h202, h204, h206, h208] <;> rfl
        · try simp (disch := first | assumption | (simp; done) | omega | (simp; omega)) only [push_cast, reduceCtorEq, Nat.reduceEqDiff, Nat.reduceAdd, Nat.reduceSub, Nat.reduceMul, Nat.reduceLeDiff, Nat.reduceLT, Int.reduceEq, Int.reduceNe, Int.reduceLT, Int.reduceLE, Int.reduceGT, Int.reduceGE, Int.reduceBEq, Int.reduceBNe, ↓reduceIte] at h208
          rcases F_if h with ⟨h209, h⟩ | ⟨h209, h⟩
          · try simp (disch := first | assumption | (simp; done) | omega | (simp; omega)) only [push_cast, reduceCtorEq, Nat.reduceEqDiff, Nat.reduceAdd, Nat.reduceSub, Nat.reduceMul, Nat.reduceLeDiff, Nat.reduceLT, Int.reduceEq, Int.reduceNe, Int.reduceLT, Int.reduceLE, Int.reduceGT, Int.reduceGE, Int.reduceBEq, Int.reduceBNe, ↓reduceIte] at h209
            rcases F_if h with ⟨h210, h⟩ | ⟨h210, h⟩
            · try simp (disch := first | assumption | (simp; done) | omega | (simp; omega)) only [push_cast, reduceCtorEq, Nat.reduceEqDiff, Nat.reduceAdd, Nat.reduceSub, Nat.reduceMul, Nat.reduceLeDiff, Nat.reduceLT, Int.reduceEq, Int.reduceNe, Int.reduceLT, Int.reduceLE, Int.reduceGT, Int.reduceGE, Int.reduceBEq, Int.reduceBNe, ↓reduceIte] at h210
              obtain rfl := Option.some.inj h
              simp (config := { maxSteps := 1000000 }) (disch := first | assumption | (simp; done) | omega | (simp; omega)) only [push_cast, reduceCtorEq, Nat.reduceEqDiff, Nat.reduceAdd, Nat.reduceSub, Nat.reduceMul, Nat.reduceLeDiff, Nat.reduceLT, Int.reduceEq, Int.reduceNe, Int.reduceLT, Int.reduceLE, Int.reduceGT, Int.reduceGE, Int.reduceBEq, Int.reduceBNe, ↓reduceIte, h202, h204, h206, h208, h209, h210]
              refine end_own0 5 3 rfl ?_
              simp (config := { maxSteps := 1000000 }) (disch := first | assumption | (simp; done) | omega | (simp; omega)) only [push_cast, reduceCtorEq, Nat.reduceEqDiff, Nat.reduceAdd, Nat.reduceSub, Nat.reduceMul, Nat.reduceLeDiff, Nat.reduceLT, Int.reduceEq, Int.reduceNe, Int.reduceLT, Int.reduceLE, Int.reduceGT, Int.reduceGE, Int.reduceBEq, Int.reduceBNe, ↓reduceIte, h202, h204, h206, h208, h209, h210]
              refine AEndW.of [3] (.inr rfl) (by decide) rfl ?_ rfl ?_
              · simp (config := { maxSteps := 1000000 }) (disch := first | assumption | (simp; done) | omega | (simp; omega)) only [push_cast, reduceCtorEq, Nat.reduceEqDiff, Nat.reduceAdd, Nat.reduceSub, Nat.reduceMul, Nat.reduceLeDiff, Nat.reduceLT, Int.reduceEq, Int.reduceNe, Int.reduceLT, Int.reduceLE, Int.reduceGT, Int.reduceGE, Int.reduceBEq, Int.reduceBNe, ↓reduceIte, h202, h204, h206, h208, h209, h210] <;> rfl
              · simp (config := { maxSteps := 1000000 }) (disch := first | assumption | (simp; done) | omega | (simp; omega)) only [push_cast, reduceCtorEq, Nat.reduceEqDiff, Nat.reduceAdd, Nat.reduceSub, Nat.reduceMul, Nat.reduceLeDiff, Nat.reduceLT, Int.reduceEq, Int.reduceNe, Int.reduceLT, Int.reduceLE, Int.reduceGT, Int.reduceGE, Int.reduceBEq, Int.reduceBNe, ↓reduceIte, h202, h204, h206, h208, h209, h210] <;> rfl
            · try simp (disch := first | assumption | (simp; done) | omega | (simp; omega)) only [push_cast, reduceCtorEq, Nat.reduceEqDiff, Nat.reduceAdd, Nat.reduceSub, Nat.reduceMul, Nat.reduceLeDiff, Nat.reduceLT, Int.reduceEq, Int.reduceNe, Int.reduceLT, Int.reduceLE, Int.reduceGT, Int.reduceGE, Int.reduceBEq, Int.reduceBNe, ↓reduceIte] at h210
              obtain ⟨v5, h211, h⟩ := F_bd h
              simp (config := { maxSteps := 1000000 }) (disch := first | assumption | (simp; done) | omega | (simp; omega)) only [push_cast, reduceCtorEq, Nat.reduceEqDiff, Nat.reduceAdd, Nat.reduceSub, Nat.reduceMul, Nat.reduceLeDiff, Nat.reduceLT, Int.reduceEq, Int.reduceNe, Int.reduceLT, Int.reduceLE, Int.reduceGT, Int.reduceGE, Int.reduceBEq, Int.reduceBNe, ↓reduceIte, h202, h204, h206, h208, h209, h210]
              refine call_new (by rfl) (c42 N _ _ h211) ?_ rfl ?_
              · simp (config := { maxSteps := 1000000 }) (disch := first | assumption | (simp; done) | omega | (simp; omega)) only [push_cast, reduceCtorEq, Nat.reduceEqDiff, Nat.reduceAdd, Nat.reduceSub, Nat.reduceMul, Nat.reduceLeDiff, Nat.reduceLT, Int.reduceEq, Int.reduceNe, Int.reduceLT, Int.reduceLE, Int.reduceGT, Int.reduceGE, Int.reduceBEq, Int.reduceBNe, ↓reduceIte, h202, h204, h206, h208, h209, h210] <;> rfl
              obtain ⟨v6, h212, h⟩ := F_bd h
              simp (config := { maxSteps := 1000000 }) (disch := first | assumption | (simp; done) | omega | (simp; omega)) only [push_cast, reduceCtorEq, Nat.reduceEqDiff, Nat.reduceAdd, Nat.reduceSub, Nat.reduceMul, Nat.reduceLeDiff, Nat.reduceLT, Int.reduceEq, Int.reduceNe, Int.reduceLT, Int.reduceLE, Int.reduceGT, Int.reduceGE, Int.reduceBEq, Int.reduceBNe, ↓reduceIte, h202, h204, h206, h208, h209, h210]
              refine callE_of [.O 5, .O 0, .O 4, .O 3] (by rfl) (c43 N _ _ _ _ h212) (by decide) rfl (by simp (config := { maxSteps := 1000000 }) (disch := first | assumption | (simp; done) | omega | (simp; omega)) only [push_cast, reduceCtorEq, Nat.reduceEqDiff, Nat.reduceAdd, Nat.reduceSub, Nat.reduceMul, Nat.reduceLeDiff, Nat.reduceLT, Int.reduceEq, Int.reduceNe, Int.reduceLT, Int.reduceLE, Int.reduceGT, Int.reduceGE, Int.reduceBEq, Int.reduceBNe, ↓reduceIte] <;> rfl) (by simp (config := { maxSteps := 1000000 }) (disch := first | assumption | (simp; done) | omega | (simp; omega)) only [push_cast, reduceCtorEq, Nat.reduceEqDiff, Nat.reduceAdd, Nat.reduceSub, Nat.reduceMul, Nat.reduceLeDiff, Nat.reduceLT, Int.reduceEq, Int.reduceNe, Int.reduceLT, Int.reduceLE, Int.reduceGT, Int.reduceGE, Int.reduceBEq, Int.reduceBNe, ↓reduceIte] <;> rfl) ?_ ?_ ?_
              · simp (config := { maxSteps := 1000000 }) (disch := first | assumption | (simp; done) | omega | (simp; omega)) only [push_cast, reduceCtorEq, Nat.reduceEqDiff, Nat.reduceAdd, Nat.reduceSub, Nat.reduceMul, Nat.reduceLeDiff, Nat.reduceLT, Int.reduceEq, Int.reduceNe, Int.reduceLT, Int.reduceLE, Int.reduceGT, Int.reduceGE, Int.reduceBEq, Int.reduceBNe, ↓reduceIte, h202, h204, h206, h208, h209, h210] <;> rfl
              · simp (config := { maxSteps := 1000000 }) (disch := first | assumption | (simp; done) | omega | (simp; omega)) only [push_cast, reduceCtorEq, Nat.reduceEqDiff, Nat.reduceAdd, Nat.reduceSub, Nat.reduceMul, Nat.reduceLeDiff, Nat.reduceLT, Int.reduceEq, Int.reduceNe, Int.reduceLT, Int.reduceLE, Int.reduceGT, Int.reduceGE, Int.reduceBEq, Int.reduceBNe, ↓reduceIte, h202, h204, h206, h208, h209, h210] <;> rfl
              obtain ⟨h213, h⟩ := F_gd h
              try simp (disch := first | assumption | (simp; done) | omega | (simp; omega)) only [push_cast, reduceCtorEq, Nat.reduceEqDiff, Nat.reduceAdd, Nat.reduceSub, Nat.reduceMul, Nat.reduceLeDiff, Nat.reduceLT, Int.reduceEq, Int.reduceNe, Int.reduceLT, Int.reduceLE, Int.reduceGT, Int.reduceGE, Int.reduceBEq, Int.reduceBNe, ↓reduceIte] at h213
              obtain ⟨h214, h⟩ := F_gd h
              try simp (disch := first | assumption | (simp; done) | omega | (simp; omega)) only [push_cast, reduceCtorEq, Nat.reduceEqDiff, Nat.reduceAdd, Nat.reduceSub, Nat.reduceMul, Nat.reduceLeDiff, Nat.reduceLT, Int.reduceEq, Int.reduceNe, Int.reduceLT, Int.reduceLE, Int.reduceGT, Int.reduceGE, Int.reduceBEq, Int.reduceBNe, ↓reduceIte] at h214
              simp (config := { maxSteps := 1000000 }) (disch := first | assumption | (simp; done) | omega | (simp; omega)) only [push_cast, reduceCtorEq, Nat.reduceEqDiff, Nat.reduceAdd, Nat.reduceSub, Nat.reduceMul, Nat.reduceLeDiff, Nat.reduceLT, Int.reduceEq, Int.reduceNe, Int.reduceLT, Int.reduceLE, Int.reduceGT, Int.reduceGE, Int.reduceBEq, Int.reduceBNe, ↓reduceIte, h202, h204, h206, h208, h209, h210, h213, h214]
              refine regS_of [.O 0, .O 4] ?_
              obtain rfl := Option.some.inj h
              simp (config := { maxSteps := 1000000 }) (disch := first | assumption | (simp; done) | omega | (simp; omega)) only [push_cast, reduceCtorEq, Nat.reduceEqDiff, Nat.reduceAdd, Nat.reduceSub, Nat.reduceMul, Nat.reduceLeDiff, Nat.reduceLT, Int.reduceEq, Int.reduceNe, Int.reduceLT, Int.reduceLE, Int.reduceGT, Int.reduceGE, Int.reduceBEq, Int.reduceBNe, ↓reduceIte, h202, h204, h206, h208, h209, h210, h213, h214]
              refine AEndW.of [6] (.inr rfl) (by decide) rfl ?_ rfl ?_
              · simp (config := { maxSteps := 1000000 }) (disch := first | assumption | (simp; done) | omega | (simp; omega)) only [push_cast, reduceCtorEq, Nat.reduceEqDiff, Nat.reduceAdd, Nat.reduceSub, Nat.reduceMul, Nat.reduceLeDiff, Nat.reduceLT, Int.reduceEq, Int.reduceNe, Int.reduceLT, Int.reduceLE, Int.reduceGT, Int.reduceGE, Int.reduceBEq, Int.reduceBNe, ↓reduceIte, h202, h204, h206, h208, h209, h210, h213, h214] <;> rfl
              · simp (config := { maxSteps := 1000000 }) (disch := first | assumption | (simp; done) | omega | (simp; omega)) only [push_cast, reduceCtorEq, Nat.reduceEqDiff, Nat.reduceAdd, Nat.reduceSub, Nat.reduceMul, Nat.reduceLeDiff, Nat.reduceLT, Int.reduceEq, Int.reduceNe, Int.reduceLT, Int.reduceLE, Int.reduceGT, Int.reduceGE, Int.reduceBEq, Int.reduceBNe, ↓reduceIte, h202, h204, h206, h208, h209, h210, h213, h214] <;> rfl
          · try simp (disch := first | assumption | (simp; done) | omega | (simp; omega)) only [push_cast, reduceCtorEq, Nat.reduceEqDiff, Nat.reduceAdd, Nat.reduceSub, Nat.reduceMul, Nat.reduceLeDiff, Nat.reduceLT, Int.reduceEq, Int.reduceNe, Int.reduceLT, Int.reduceLE, Int.reduceGT, Int.reduceGE, Int.reduceBEq, Int.reduceBNe, ↓reduceIte] at h209
            rcases F_if h with ⟨h215, h⟩ | ⟨h215, h⟩
            · try simp (disch := first | assumption | (simp; done) | omega | (simp; omega)) only [push_cast, reduceCtorEq, Nat.reduceEqDiff, Nat.reduceAdd, Nat.reduceSub, Nat.reduceMul, Nat.reduceLeDiff, Nat.reduceLT, Int.reduceEq, Int.reduceNe, Int.reduceLT, Int.reduceLE, Int.reduceGT, Int.reduceGE, Int.reduceBEq, Int.reduceBNe, ↓reduceIte] at h215
              rcases F_if h with ⟨h216, h⟩ | ⟨h216, h⟩
              · try simp (disch := first | assumption | (simp; done) | omega | (simp; omega)) only [push_cast, reduceCtorEq, Nat.reduceEqDiff, Nat.reduceAdd, Nat.reduceSub, Nat.reduceMul, Nat.reduceLeDiff, Nat.reduceLT, Int.reduceEq, Int.reduceNe, Int.reduceLT, Int.reduceLE, Int.reduceGT, Int.reduceGE, Int.reduceBEq, Int.reduceBNe, ↓reduceIte] at h216
                obtain rfl := Option.some.inj h
                simp (config := { maxSteps := 1000000 }) (disch := first | assumption | (simp; done) | omega | (simp; omega)) only [push_cast, reduceCtorEq, Nat.reduceEqDiff, Nat.reduceAdd, Nat.reduceSub, Nat.reduceMul, Nat.reduceLeDiff, Nat.reduceLT, Int.reduceEq, Int.reduceNe, Int.reduceLT, Int.reduceLE, Int.reduceGT, Int.reduceGE, Int.reduceBEq, Int.reduceBNe, ↓reduceIte, h202, h204, h206, h208, h209, h215, h216]
                refine end_own0 5 3 rfl ?_
                simp (config := { maxSteps := 1000000 }) (disch := first | assumption | (simp; done) | omega | (simp; omega)) only [push_cast, reduceCtorEq, Nat.reduceEqDiff, Nat.reduceAdd, Nat.reduceSub, Nat.reduceMul, Nat.reduceLeDiff, Nat.reduceLT, Int.reduceEq, Int.reduceNe, Int.reduceLT, Int.reduceLE, Int.reduceGT, Int.reduceGE, Int.reduceBEq, Int.reduceBNe, ↓reduceIte, h202, h204, h206, h208, h209, h215, h216]
                refine AEndW.of [3] (.inr rfl) (by decide) rfl ?_ rfl ?_
                · simp (config := { maxSteps := 1000000 }) (disch := first | assumption | (simp; done) | omega | (simp; omega)) only [push_cast, reduceCtorEq, Nat.reduceEqDiff, Nat.reduceAdd, Nat.reduceSub, Nat.reduceMul, Nat.reduceLeDiff, Nat.reduceLT, Int.reduceEq, Int.reduceNe, Int.reduceLT, Int.reduceLE, Int.reduceGT, Int.reduceGE, Int.reduceBEq, Int.reduceBNe, ↓reduceIte, h202, h204, h206, h208, h209, h215, h216] <;> rfl
                · simp (config := { maxSteps := 1000000 }) (disch := first | assumption | (simp; done) | omega | (simp; omega)) only [push_cast, reduceCtorEq, Nat.reduceEqDiff, Nat.reduceAdd, Nat.reduceSub, Nat.reduceMul, Nat.reduceLeDiff, Nat.reduceLT, Int.reduceEq, Int.reduceNe, Int.reduceLT, Int.reduceLE, Int.reduceGT, Int.reduceGE, Int.reduceBEq, Int.reduceBNe, ↓reduceIte, h202, h204, h206, h208, h209, h215, h216] <;> rfl
              · try simp (disch := first | assumption | (simp; done) | omega | (simp; omega)) only [push_cast, reduceCtorEq, Nat.reduceEqDiff, Nat.reduceAdd, Nat.reduceSub, Nat.reduceMul, Nat.reduceLeDiff, Nat.reduceLT, Int.reduceEq, Int.reduceNe, Int.reduceLT, Int.reduceLE, Int.reduceGT, Int.reduceGE, Int.reduceBEq, Int.reduceBNe, ↓reduceIte] at h216
                rcases F_if h with ⟨h217, h⟩ | ⟨h217, h⟩
                · try simp (disch := first | assumption | (simp; done) | omega | (simp; omega)) only [push_cast, reduceCtorEq, Nat.reduceEqDiff, Nat.reduceAdd, Nat.reduceSub, Nat.reduceMul, Nat.reduceLeDiff, Nat.reduceLT, Int.reduceEq, Int.reduceNe, Int.reduceLT, Int.reduceLE, Int.reduceGT, Int.reduceGE, Int.reduceBEq, Int.reduceBNe, ↓reduceIte] at h217
                  obtain ⟨v7, h218, h⟩ := F_bd h
                  simp (config := { maxSteps := 1000000 }) (disch := first | assumption | (simp; done) | omega | (simp; omega)) only [push_cast, reduceCtorEq, Nat.reduceEqDiff, Nat.reduceAdd, Nat.reduceSub, Nat.reduceMul, Nat.reduceLeDiff, Nat.reduceLT, Int.reduceEq, Int.reduceNe, Int.reduceLT, Int.reduceLE, Int.reduceGT, Int.reduceGE, Int.reduceBEq, Int.reduceBNe, ↓reduceIte, h202, h204, h206, h208, h209, h215, h216, h217]
                  refine call_new (by rfl) (c42 N _ _ h218) ?_ rfl ?_
                  · simp (config := { maxSteps := 1000000 }) (disch := first | assumption | (simp; done) | omega | (simp; omega)) only [push_cast, reduceCtorEq, Nat.reduceEqDiff, Nat.reduceAdd, Nat.reduceSub, Nat.reduceMul, Nat.reduceLeDiff, Nat.reduceLT, Int.reduceEq, Int.reduceNe, Int.reduceLT, Int.reduceLE, Int.reduceGT, Int.reduceGE, Int.reduceBEq, Int.reduceBNe, ↓reduceIte, h202, h204, h206, h208, h209, h215, h216, h217] <;> rfl
                  obtain ⟨v8, h219, h⟩ := F_bd h
                  simp (config := { maxSteps := 1000000 }) (disch := first | assumption | (simp; done) | omega | (simp; omega)) only [push_cast, reduceCtorEq, Nat.reduceEqDiff, Nat.reduceAdd, Nat.reduceSub, Nat.reduceMul, Nat.reduceLeDiff, Nat.reduceLT, Int.reduceEq, Int.reduceNe, Int.reduceLT, Int.reduceLE, Int.reduceGT, Int.reduceGE, Int.reduceBEq, Int.reduceBNe, ↓reduceIte, h202, h204, h206, h208, h209, h215, h216, h217]
                  refine callE_of [.O 3, .O 4] (by rfl) (c41 N _ _ _ _ h219) (by decide) rfl (by simp (config := { maxSteps := 1000000 }) (disch := first | assumption | (simp; done) | omega | (simp; omega)) only [push_cast, reduceCtorEq, Nat.reduceEqDiff, Nat.reduceAdd, Nat.reduceSub, Nat.reduceMul, Nat.reduceLeDiff, Nat.reduceLT, Int.reduceEq, Int.reduceNe, Int.reduceLT, Int.reduceLE, Int.reduceGT, Int.reduceGE, Int.reduceBEq, Int.reduceBNe, ↓reduceIte] <;> rfl) (by simp (config := { maxSteps := 1000000 }) (disch := first | assumption | (simp; done) | omega | (simp; omega)) only [push_cast, reduceCtorEq, Nat.reduceEqDiff, Nat.reduceAdd, Nat.reduceSub, Nat.reduceMul, Nat.reduceLeDiff, Nat.reduceLT, Int.reduceEq, Int.reduceNe, Int.reduceLT, Int.reduceLE, Int.reduceGT, Int.reduceGE, Int.reduceBEq, Int.reduceBNe, ↓reduceIte] <;> rfl) ?_ ?_ ?_
                  · simp (config := { maxSteps := 1000000 }) (disch := first | assumption | (simp; done) | omega | (simp; omega)) only [push_cast, reduceCtorEq, Nat.reduceEqDiff, Nat.reduceAdd, Nat.reduceSub, Nat.reduceMul, Nat.reduceLeDiff, Nat.reduceLT, Int.reduceEq, Int.reduceNe, Int.reduceLT, Int.reduceLE, Int.reduceGT, Int.reduceGE, Int.reduceBEq, Int.reduceBNe, ↓reduceIte, h202, h204, h206, h208, h209, h215, h216, h217] <;> rfl
                  · simp (config := { maxSteps := 1000000 }) (disch := first | assumption | (simp; done) | omega | (simp; omega)) only [push_cast, reduceCtorEq, Nat.reduceEqDiff, Nat.reduceAdd, Nat.reduceSub, Nat.reduceMul, Nat.reduceLeDiff, Nat.reduceLT, Int.reduceEq, Int.reduceNe, Int.reduceLT, Int.reduceLE, Int.reduceGT, Int.reduceGE, Int.reduceBEq, Int.reduceBNe, ↓reduceIte, h202, h204, h206, h208, h209, h215, h216, h217] <;> rfl
                  obtain rfl := Option.some.inj h
                  simp (config := { maxSteps := 1000000 }) (disch := first | assumption | (simp; done) | omega | (simp; omega)) only [push_cast, reduceCtorEq, Nat.reduceEqDiff, Nat.reduceAdd, Nat.reduceSub, Nat.reduceMul, Nat.reduceLeDiff, Nat.reduceLT, Int.reduceEq, Int.reduceNe, Int.reduceLT, Int.reduceLE, Int.reduceGT, Int.reduceGE, Int.reduceBEq, Int.reduceBNe, ↓reduceIte, h202, h204, h206, h208, h209, h215, h216, h217]
                  refine end_own0 5 3 rfl ?_
                  simp (config := { maxSteps := 1000000 }) (disch := first | assumption | (simp; done) | omega | (simp; omega)) only [push_cast, reduceCtorEq, Nat.reduceEqDiff, Nat.reduceAdd, Nat.reduceSub, Nat.reduceMul, Nat.reduceLeDiff, Nat.reduceLT, Int.reduceEq, Int.reduceNe, Int.reduceLT, Int.reduceLE, Int.reduceGT, Int.reduceGE, Int.reduceBEq, Int.reduceBNe, ↓reduceIte, h202, h204, h206, h208, h209, h215, h216, h217]
                  refine AEndW.of [6] (.inr rfl) (by decide) rfl ?_ rfl ?_
                  · simp (config := { maxSteps := 1000000 }) (disch := first | assumption | (simp; done) | omega | (simp; omega)) only [push_cast, reduceCtorEq, Nat.reduceEqDiff, Nat.reduceAdd, Nat.reduceSub, Nat.reduceMul, Nat.reduceLeDiff, Nat.reduceLT, Int.reduceEq, Int.reduceNe, Int.reduceLT, Int.reduceLE, Int.reduceGT, Int.reduceGE, Int.reduceBEq, Int.reduceBNe, ↓reduceIte, h202, h204, h206, h208, h209, h215, h216, h217] <;> rfl
                  · simp (config := { maxSteps := 1000000 }) (disch := first | assumption | (simp; done) | omega | (simp; omega)) only [push_cast, reduceCtorEq, Nat.reduceEqDiff, Nat.reduceAdd, Nat.reduceSub, Nat.reduceMul, Nat.reduceLeDiff, Nat.reduceLT, Int.reduceEq, Int.reduceNe, Int.reduceLT, Int.reduceLE, Int.reduceGT, Int.reduceGE, Int.reduceBEq, Int.reduceBNe, ↓reduceIte, h202, h204, h206, h208, h209, h215, h216, h217] <;> rfl
                · try simp (disch := first | assumption | (simp; done) | omega | (simp; omega)) only [push_cast, reduceCtorEq, Nat.reduceEqDiff, Nat.reduceAdd, Nat.reduceSub, Nat.reduceMul, Nat.reduceLeDiff, Nat.reduceLT, Int.reduceEq, Int.reduceNe, Int.reduceLT, Int.reduceLE, Int.reduceGT, Int.reduceGE, Int.reduceBEq, Int.reduceBNe, ↓reduceIte] at h217
                  obtain rfl := Option.some.inj h
                  simp (config := { maxSteps := 1000000 }) (disch := first | assumption | (simp; done) | omega | (simp; omega)) only [push_cast, reduceCtorEq, Nat.reduceEqDiff, Nat.reduceAdd, Nat.reduceSub, Nat.reduceMul, Nat.reduceLeDiff, Nat.reduceLT, Int.reduceEq, Int.reduceNe, Int.reduceLT, Int.reduceLE, Int.reduceGT, Int.reduceGE, Int.reduceBEq, Int.reduceBNe, ↓reduceIte, h202, h204, h206, h208, h209, h215, h216, h217]
                  refine end_own0 5 3 rfl ?_
                  simp (config := { maxSteps := 1000000 }) (disch := first | assumption | (simp; done) | omega | (simp; omega)) only [push_cast, reduceCtorEq, Nat.reduceEqDiff, Nat.reduceAdd, Nat.reduceSub, Nat.reduceMul, Nat.reduceLeDiff, Nat.reduceLT, Int.reduceEq, Int.reduceNe, Int.reduceLT, Int.reduceLE, Int.reduceGT, Int.reduceGE, Int.reduceBEq, Int.reduceBNe, ↓reduceIte, h202, h204, h206, h208, h209, h215, h216, h217]
                  refine AEndW.of [3] (.inr rfl) (by decide) rfl ?_ rfl ?_
                  · simp (config := { maxSteps := 1000000 }) (disch := first | assumption | (simp; done) | omega | (simp; omega)) only [push_cast, reduceCtorEq, Nat.reduceEqDiff, Nat.reduceAdd, Nat.reduceSub, Nat.reduceMul, Nat.reduceLeDiff, Nat.reduceLT, Int.reduceEq, Int.reduceNe, Int.reduceLT, Int.reduceLE, Int.reduceGT, Int.reduceGE, Int.reduceBEq, Int.reduceBNe, ↓reduceIte, h202, h204, h206, h208, h209, h215, h216, h217] <;> rfl
                  · simp (config := { maxSteps := 1000000 }) (disch := first | assumption | (simp; done) | omega | (simp; omega)) only [push_cast, reduceCtorEq, Nat.reduceEqDiff, Nat.reduceAdd, Nat.reduceSub, Nat.reduceMul, Nat.reduceLeDiff, Nat.reduceLT, Int.reduceEq, Int.reduceNe, Int.reduceLT, Int.reduceLE, Int.reduceGT, Int.reduceGE, Int.reduceBEq, Int.reduceBNe, ↓reduceIte, h202, h204, h206, h208, h209, h215, h216, h217] <;> rfl
            · try simp (disch := first | assumption | (simp; done) | omega | (simp; omega)) only [push_cast, reduceCtorEq, Nat.reduceEqDiff, Nat.reduceAdd, Nat.reduceSub, Nat.reduceMul, Nat.reduceLeDiff, Nat.reduceLT, Int.reduceEq, Int.reduceNe, Int.reduceLT, Int.reduceLE, Int.reduceGT, Int.reduceGE, Int.reduceBEq, Int.reduceBNe, ↓reduceIte] at h215
              obtain ⟨h220, h⟩ := F_ck h
              try simp (disch := first | assumption | (simp; done) | omega | (simp; omega)) only [push_cast, reduceCtorEq, Nat.reduceEqDiff, Nat.reduceAdd, Nat.reduceSub, Nat.reduceMul, Nat.reduceLeDiff, Nat.reduceLT, Int.reduceEq, Int.reduceNe, Int.reduceLT, Int.reduceLE, Int.reduceGT, Int.reduceGE, Int.reduceBEq, Int.reduceBNe, ↓reduceIte] at h220
              obtain ⟨v9, h221, h⟩ := F_bd h
              simp (config := { maxSteps := 1000000 }) (disch := first | assumption | (simp; done) | omega | (simp; omega)) only [push_cast, reduceCtorEq, Nat.reduceEqDiff, Nat.reduceAdd, Nat.reduceSub, Nat.reduceMul, Nat.reduceLeDiff, Nat.reduceLT, Int.reduceEq, Int.reduceNe, Int.reduceLT, Int.reduceLE, Int.reduceGT, Int.reduceGE, Int.reduceBEq, Int.reduceBNe, ↓reduceIte, h202, h204, h206, h208, h209, h215, h220]
              refine call_new (by rfl) (c42 N _ _ h221) ?_ rfl ?_
              · simp (config := { maxSteps := 1000000 }) (disch := first | assumption | (simp; done) | omega | (simp; omega)) only [push_cast, reduceCtorEq, Nat.reduceEqDiff, Nat.reduceAdd, Nat.reduceSub, Nat.reduceMul, Nat.reduceLeDiff, Nat.reduceLT, Int.reduceEq, Int.reduceNe, Int.reduceLT, Int.reduceLE, Int.reduceGT, Int.reduceGE, Int.reduceBEq, Int.reduceBNe, ↓reduceIte, h202, h204, h206, h208, h209, h215, h220] <;> rfl
              obtain ⟨v10, h222, h⟩ := F_bd h
              simp (config := { maxSteps := 1000000 }) (disch := first | assumption | (simp; done) | omega | (simp; omega)) only [push_cast, reduceCtorEq, Nat.reduceEqDiff, Nat.reduceAdd, Nat.reduceSub, Nat.reduceMul, Nat.reduceLeDiff, Nat.reduceLT, Int.reduceEq, Int.reduceNe, Int.reduceLT, Int.reduceLE, Int.reduceGT, Int.reduceGE, Int.reduceBEq, Int.reduceBNe, ↓reduceIte, h202, h204, h206, h208, h209, h215, h220]
              refine callE_of [.O 5, .O 0, .O 4, .O 3] (by rfl) (c43 N _ _ _ _ h222) (by decide) rfl (by simp (config := { maxSteps := 1000000 }) (disch := first | assumption | (simp; done) | omega | (simp; omega)) only [push_cast, reduceCtorEq, Nat.reduceEqDiff, Nat.reduceAdd, Nat.reduceSub, Nat.reduceMul, Nat.reduceLeDiff, Nat.reduceLT, Int.reduceEq, Int.reduceNe, Int.reduceLT, Int.reduceLE, Int.reduceGT, Int.reduceGE, Int.reduceBEq, Int.reduceBNe, ↓reduceIte] <;> rfl) (by simp (config := { maxSteps := 1000000 }) (disch := first | assumption | (simp; done) | omega | (simp; omega)) only [push_cast, reduceCtorEq, Nat.reduceEqDiff, Nat.reduceAdd, Nat.reduceSub, Nat.reduceMul, Nat.reduceLeDiff, Nat.reduceLT, Int.reduceEq, Int.reduceNe, Int.reduceLT, Int.reduceLE, Int.reduceGT, Int.reduceGE, Int.reduceBEq, Int.reduceBNe, ↓reduceIte] <;> rfl) ?_ ?_ ?_
              · simp (config := { maxSteps := 1000000 }) (disch := first | assumption | (simp; done) | omega | (simp; omega)) only [push_cast, reduceCtorEq, Nat.reduceEqDiff, Nat.reduceAdd, Nat.reduceSub, Nat.reduceMul, Nat.reduceLeDiff, Nat.reduceLT, Int.reduceEq, Int.reduceNe, Int.reduceLT, Int.reduceLE, Int.reduceGT, Int.reduceGE, Int.reduceBEq, Int.reduceBNe, ↓reduceIte, h202, h204, h206, h208, h209, h215, h220] <;> rfl
              · simp (config := { maxSteps := 1000000 }) (disch := first | assumption | (simp; done) | omega | (simp; omega)) only [push_cast, reduceCtorEq, Nat.reduceEqDiff, Nat.reduceAdd, Nat.reduceSub, Nat.reduceMul, Nat.reduceLeDiff, Nat.reduceLT, Int.reduceEq, Int.reduceNe, Int.reduceLT, Int.reduceLE, Int.reduceGT, Int.reduceGE, Int.reduceBEq, Int.reduceBNe, ↓reduceIte, h202, h204, h206, h208, h209, h215, h220] <;> rfl
              obtain ⟨h223, h⟩ := F_gd h
              try simp (disch := first | assumption | (simp; done) | omega | (simp; omega)) only [push_cast, reduceCtorEq, Nat.reduceEqDiff, Nat.reduceAdd, Nat.reduceSub, Nat.reduceMul, Nat.reduceLeDiff, Nat.reduceLT, Int.reduceEq, Int.reduceNe, Int.reduceLT, Int.reduceLE, Int.reduceGT, Int.reduceGE, Int.reduceBEq, Int.reduceBNe, ↓reduceIte] at h223
              obtain ⟨h224, h⟩ := F_gd h
              try simp (disch := first | assumption | (simp; done) | omega | (simp; omega)) only [push_cast, reduceCtorEq, Nat.reduceEqDiff, Nat.reduceAdd, Nat.reduceSub, Nat.reduceMul, Nat.reduceLeDiff, Nat.reduceLT, Int.reduceEq, Int.reduceNe, Int.reduceLT, Int.reduceLE, Int.reduceGT, Int.reduceGE, Int.reduceBEq, Int.reduceBNe, ↓reduceIte] at h224
              simp (config := { maxSteps := 1000000 }) (disch := first | assumption | (simp; done) | omega | (simp; omega)) only [push_cast, reduceCtorEq, Nat.reduceEqDiff, Nat.reduceAdd, Nat.reduceSub, Nat.reduceMul, Nat.reduceLeDiff, Nat.reduceLT, Int.reduceEq, Int.reduceNe, Int.reduceLT, Int.reduceLE, Int.reduceGT, Int.reduceGE, Int.reduceBEq, Int.reduceBNe, ↓reduceIte, h202, h204, h206, h208, h209, h215, h220, h223, h224]
              refine regS_of [.O 0, .O 4] ?_
              obtain rfl := Option.some.inj h
              simp (config := { maxSteps := 1000000 }) (disch := first | assumption | (simp; done) | omega | (simp; omega)) only [push_cast, reduceCtorEq, Nat.reduceEqDiff, Nat.reduceAdd, Nat.reduceSub, Nat.reduceMul, Nat.reduceLeDiff, Nat.reduceLT, Int.reduceEq, Int.reduceNe, Int.reduceLT, Int.reduceLE, Int.reduceGT, Int.reduceGE, Int.reduceBEq, Int.reduceBNe, ↓reduceIte, h202, h204, h206, h208, h209, h215, h220, h223, h224]
              refine AEndW.of [6] (.inr rfl) (by decide) rfl ?_ rfl ?_
              · simp (config := { maxSteps := 1000000 }) (disch := first | assumption | (simp; done) | omega | (simp; omega)) only [push_cast, reduceCtorEq, Nat.reduceEqDiff, Nat.reduceAdd, Nat.reduceSub, Nat.reduceMul, Nat.reduceLeDiff, Nat.reduceLT, Int.reduceEq, Int.reduceNe, Int.reduceLT, Int.reduceLE, Int.reduceGT, Int.reduceGE, Int.reduceBEq, Int.reduceBNe, ↓reduceIte, h202, h204, h206, h208, h209, h215, h220, h223, h224] <;> rfl
              · simp (config := { maxSteps := 1000000 }) (disch := first | assumption | (simp; done) | omega | (simp; omega)) only [push_cast, reduceCtorEq, Nat.reduceEqDiff, Nat.reduceAdd, Nat.reduceSub, Nat.reduceMul, Nat.reduceLeDiff, Nat.reduceLT, Int.reduceEq, Int.reduceNe, Int.reduceLT, Int.reduceLE, Int.reduceGT, Int.reduceGE, Int.reduceBEq, Int.reduceBNe, ↓reduceIte, h202, h204, h206, h208, h209, h215, h220, h223, h224] <;> rfl
      · try simp (disch := first | assumption | (simp; done) | omega | (simp; omega)) only [push_cast, reduceCtorEq, Nat.reduceEqDiff, Nat.reduceAdd, Nat.reduceSub, Nat.reduceMul, Nat.reduceLeDiff, Nat.reduceLT, Int.reduceEq, Int.reduceNe, Int.reduceLT, Int.reduceLE, Int.reduceGT, Int.reduceGE, Int.reduceBEq, Int.reduceBNe, ↓reduceIte] at h206
        obtain rfl := Option.some.inj h
        simp (config := { maxSteps := 1000000 }) (disch := first | assumption | (simp; done) | omega | (simp; omega)) only [push_cast, reduceCtorEq, Nat.reduceEqDiff, Nat.reduceAdd, Nat.reduceSub, Nat.reduceMul, Nat.reduceLeDiff, Nat.reduceLT, Int.reduceEq, Int.reduceNe, Int.reduceLT, Int.reduceLE, Int.reduceGT, Int.reduceGE, Int.reduceBEq, Int.reduceBNe, ↓reduceIte, h202, h204, h206]
        refine end_own0 5 3 rfl ?_
        simp (config := { maxSteps := 1000000 }) (disch := first | assumption | (simp; done) | omega | (simp; omega)) only [push_cast, reduceCtorEq, Nat.reduceEqDiff, Nat.reduceAdd, Nat.reduceSub, Nat.reduceMul, Nat.reduceLeDiff, Nat.reduceLT, Int.reduceEq, Int.reduceNe, Int.reduceLT, Int.reduceLE, Int.reduceGT, Int.reduceGE, Int.reduceBEq, Int.reduceBNe, ↓reduceIte, h202, h204, h206]
        refine AEndW.of [3] (.inr rfl) (by decide) rfl ?_ rfl ?_
        · simp (config := { maxSteps := 1000000 }) (disch := first | assumption | (simp; done) | omega | (simp; omega)) only [push_cast, reduceCtorEq, Nat.reduceEqDiff, Nat.reduceAdd, Nat.reduceSub, Nat.reduceMul, Nat.reduceLeDiff, Nat.reduceLT, Int.reduceEq, Int.reduceNe, Int.reduceLT, Int.reduceLE, Int.reduceGT, Int.reduceGE, Int.reduceBEq, Int.reduceBNe, ↓reduceIte, h202, h204, h206] <;> rfl
        · simp (config := { maxSteps := 1000000 }) (disch := first | assumption | (simp; done) | omega | (simp; omega)) only [push_cast, reduceCtorEq, Nat.reduceEqDiff, Nat.reduceAdd, Nat.reduceSub, Nat.reduceMul, Nat.reduceLeDiff, Nat.reduceLT, Int.reduceEq, Int.reduceNe, Int.reduceLT, Int.reduceLE, Int.reduceGT, Int.reduceGE, Int.reduceBEq, Int.reduceBNe, ↓reduceIte, h202, h204, h206] <;> rfl
    · try simp (disch := first | assumption | (simp; done) | omega | (simp; omega)) only [push_cast, reduceCtorEq, Nat.reduceEqDiff, Nat.reduceAdd, Nat.reduceSub, Nat.reduceMul, Nat.reduceLeDiff, Nat.reduceLT, Int.reduceEq, Int.reduceNe, Int.reduceLT, Int.reduceLE, Int.reduceGT, Int.reduceGE, Int.reduceBEq, Int.reduceBNe, ↓reduceIte] at h204
      obtain rfl := Option.some.inj h
      simp (config := { maxSteps := 1000000 }) (disch := first | assumption | (simp; done) | omega | (simp; omega)) only [push_cast, reduceCtorEq, Nat.reduceEqDiff, Nat.reduceAdd, Nat.reduceSub, Nat.reduceMul, Nat.reduceLeDiff, Nat.reduceLT, Int.reduceEq, Int.reduceNe, Int.reduceLT, Int.reduceLE, Int.reduceGT, Int.reduceGE, Int.reduceBEq, Int.reduceBNe, ↓reduceIte, h202, h204]
      refine end_own0 5 3 rfl ?_
      simp (config := { maxSteps := 1000000 }) (disch := first | assumption | (simp; done) | omega | (simp; omega)) only [push_cast, reduceCtorEq, Nat.reduceEqDiff, Nat.reduceAdd, Nat.reduceSub, Nat.reduceMul, Nat.reduceLeDiff, Nat.reduceLT, Int.reduceEq, Int.reduceNe, Int.reduceLT, Int.reduceLE, Int.reduceGT, Int.reduceGE, Int.reduceBEq, Int.reduceBNe, ↓reduceIte, h202, h204]
      refine AEndW.of [3] (.inr rfl) (by decide) rfl ?_ rfl ?_
      · simp (config := { maxSteps := 1000000 }) (disch := first | assumption | (simp; done) | omega | (simp; omega)) only [push_cast, reduceCtorEq, Nat.reduceEqDiff, Nat.reduceAdd, Nat.reduceSub, Nat.reduceMul, Nat.reduceLeDiff, Nat.reduceLT, Int.reduceEq, Int.reduceNe, Int.reduceLT, Int.reduceLE, Int.reduceGT, Int.reduceGE, Int.reduceBEq, Int.reduceBNe, ↓reduceIte, h202, h204] <;> rfl
      · simp (config := { maxSteps := 1000000 }) (disch := first | assumption | (simp; done) | omega | (simp; omega)) only [push_cast, reduceCtorEq, Nat.reduceEqDiff, Nat.reduceAdd, Nat.reduceSub, Nat.reduceMul, Nat.reduceLeDiff, Nat.reduceLT, Int.reduceEq, Int.reduceNe, Int.reduceLT, Int.reduceLE, Int.reduceGT, Int.reduceGE, Int.reduceBEq, Int.reduceBNe, ↓reduceIte, h202, h204] <;> rfl
  · try simp (disch := first | assumption | (simp; done) | omega | (simp; omega)) only [push_cast, reduceCtorEq, Nat.reduceEqDiff, Nat.reduceAdd, Nat.reduceSub, Nat.reduceMul, Nat.reduceLeDiff, Nat.reduceLT, Int.reduceEq, Int.reduceNe, Int.reduceLT, Int.reduceLE, Int.reduceGT, Int.reduceGE, Int.reduceBEq, Int.reduceBNe, ↓reduceIte] at h202
    obtain rfl := Option.some.inj h
    simp (config := { maxSteps := 1000000 }) (disch := first | assumption | (simp; done) | omega | (simp; omega)) only [push_cast, reduceCtorEq, Nat.reduceEqDiff, Nat.reduceAdd, Nat.reduceSub, Nat.reduceMul, Nat.reduceLeDiff, Nat.reduceLT, Int.reduceEq, Int.reduceNe, Int.reduceLT, Int.reduceLE, Int.reduceGT, Int.reduceGE, Int.reduceBEq, Int.reduceBNe, ↓reduceIte, h202]
    refine end_own0 5 3 rfl ?_
    simp (config := { maxSteps := 1000000 }) (disch := first | assumption | (simp; done) | omega | (simp; omega)) only [push_cast, reduceCtorEq, Nat.reduceEqDiff, Nat.reduceAdd, Nat.reduceSub, Nat.reduceMul, Nat.reduceLeDiff, Nat.reduceLT, Int.reduceEq, Int.reduceNe, Int.reduceLT, Int.reduceLE, Int.reduceGT, Int.reduceGE, Int.reduceBEq, Int.reduceBNe, ↓reduceIte, h202]
    refine AEndW.of [3] (.inr rfl) (by decide) rfl ?_ rfl ?_
    · simp (config := { maxSteps := 1000000 }) (disch := first | assumption | (simp; done) | omega | (simp; omega)) only [push_cast, reduceCtorEq, Nat.reduceEqDiff, Nat.reduceAdd, Nat.reduceSub, Nat.reduceMul, Nat.reduceLeDiff, Nat.reduceLT, Int.reduceEq, Int.reduceNe, Int.reduceLT, Int.reduceLE, Int.reduceGT, Int.reduceGE, Int.reduceBEq, Int.reduceBNe, ↓reduceIte, h202] <;> rfl
    · simp (config := { maxSteps := 1000000 }) (disch := first | assumption | (simp; done) | omega | (simp; omega)) only [push_cast, reduceCtorEq, Nat.reduceEqDiff, Nat.reduceAdd, Nat.reduceSub, Nat.reduceMul, Nat.reduceLeDiff, Nat.reduceLT, Int.reduceEq, Int.reduceNe, Int.reduceLT, Int.reduceLE, Int.reduceGT, Int.reduceGE, Int.reduceBEq, Int.reduceBNe, ↓reduceIte, h202] <;> rfl

/-! ## 13 rivermark.link.Acknowledge -/
def f13g0 : List RO :=
  [⟨(.some 2), (.box (.tmp 0)), .none⟩,
   ⟨(.some 4), (.new [(.D (.I .i64 0)), (.D (.I .i64 0)), (.D (.S [])), (.fl [])]), .none⟩,
   ⟨(.some 5), (.mv (.const (.int .i64 0))), .none⟩]
def f13g1 : List RO :=
  [⟨(.some 7), (.load (.some 4) (.tmp 2)), .none⟩,
   ⟨(.some 8), (.call (.func 18) [(.tmp 7)]), .none⟩,
   ⟨(.some 9), (.un .not (.tmp 8)), .none⟩,
   ⟨(.some 6), (.mv (.tmp 9)), .none⟩]
def f13g2 : List RO :=
  [⟨(.some 10), (.mv (.tmp 1)), .none⟩,
   ⟨(.some 11), (.load (.some 4) (.tmp 2)), .none⟩,
   ⟨(.some 12), (.call (.func 32) [(.tmp 11)]), .none⟩,
   ⟨(.some 13), (.call (.func 35) [(.tmp 10), (.tmp 12)]), .none⟩,
   ⟨(.some 14), (.un .not (.tmp 13)), .none⟩,
   ⟨(.some 6), (.mv (.tmp 14)), .none⟩]
def f13g3 : List RO :=
  [⟨(.some 15), (.build [(.D (.I .i64 0)), (.D (.I .i64 0)), (.D (.S [])), (.fl [])] []), .none⟩,
   ⟨.none, (.store 4 (.tmp 4) (.tmp 15)), .none⟩,
   ⟨(.some 5), (.mv (.const (.int .i64 1))), .none⟩]
def f13g4 : List RO :=
  [⟨(.some 17), (.mv (.tmp 1)), .none⟩,
   ⟨(.some 18), (.faddr 1 (.tmp 2)), .none⟩,
   ⟨(.some 19), (.load .none (.tmp 18)), .none⟩,
   ⟨(.some 20), (.bin .leq (.tmp 17) (.tmp 19)), .none⟩,
   ⟨(.some 16), (.mv (.tmp 20)), .none⟩]
def f13g5 : List RO :=
  [⟨(.some 21), (.load (.some 4) (.tmp 2)), .none⟩,
   ⟨.none, (.store 4 (.tmp 4) (.tmp 21)), .none⟩,
   ⟨(.some 5), (.mv (.const (.int .i64 0))), .none⟩]
def f13g6 : List RO :=
  [⟨(.some 22), (.mv (.tmp 1)), .none⟩,
   ⟨(.some 23), (.faddr 1 (.tmp 2)), .none⟩,
   ⟨.none, (.store 1 (.tmp 23) (.tmp 22)), .none⟩]
def f13g7 : List RO :=
  [⟨(.some 24), (.mv (.tmp 1)), .none⟩,
   ⟨(.some 25), (.faddr 0 (.tmp 2)), .none⟩,
   ⟨(.some 26), (.load .none (.tmp 25)), .none⟩,
   ⟨(.some 27), (.bin .gtr (.tmp 24) (.tmp 26)), .none⟩]
def f13g8 : List RO :=
  [⟨(.some 28), (.faddr 3 (.tmp 2)), .none⟩,
   ⟨(.some 29), (.load .none (.tmp 28)), .none⟩,
   ⟨(.some 30), (.mv (.tmp 1)), .none⟩,
   ⟨(.some 31), (.faddr 0 (.tmp 2)), .none⟩,
   ⟨(.some 32), (.load .none (.tmp 31)), .none⟩,
   ⟨(.some 33), (.bin .sub (.tmp 30) (.tmp 32)), .none⟩,
   ⟨(.some 34), (.sll 1 (.tmp 29) (.some (.tmp 33)) .none .none), .none⟩,
   ⟨(.some 35), (.mv (.tmp 1)), .none⟩,
   ⟨(.some 36), (.faddr 3 (.tmp 2)), .none⟩,
   ⟨.none, (.store 1 (.tmp 36) (.tmp 34)), .none⟩,
   ⟨(.some 37), (.faddr 0 (.tmp 2)), .none⟩,
   ⟨.none, (.store 1 (.tmp 37) (.tmp 35)), .none⟩,
   ⟨(.some 38), (.faddr 2 (.tmp 2)), .none⟩,
   ⟨.none, (.store 1 (.tmp 38) (.const (.string ⟨#[]⟩))), .none⟩]
def f13g9 : List RO :=
  [⟨(.some 39), (.load (.some 4) (.tmp 2)), .none⟩,
   ⟨.none, (.store 4 (.tmp 4) (.tmp 39)), .none⟩,
   ⟨(.some 5), (.mv (.const (.int .i64 0))), .none⟩]
def f13c : RCode := (.seq (.reg .false f13g0) (.seq (.block 0 (.seq (.seq (.reg .false f13g1) (.cond (.tmp 6) .skip (.reg .false f13g2))) (.cond (.tmp 6) (.seq (.reg .false f13g3) .ret) (.seq (.reg .false f13g4) (.cond (.tmp 16) (.seq (.reg .false f13g5) .ret) .skip))))) (.seq (.seq (.reg .false f13g6) (.seq (.reg .false f13g7) (.cond (.tmp 27) (.reg .false f13g8) .skip))) (.seq (.reg .false f13g9) .ret))))
def f13r : List RRes := [(.cell (.some 4) 4), (.tmp 5)]
attribute [push_cast] f13g0 f13g1 f13g2 f13g3 f13g4 f13g5 f13g6 f13g7 f13g8 f13g9
def F13 (N : Nat) (p0 : Outbox) (p1 : Int) : Option (Outbox × Int) := bd? (F18 N p0) fun v1 => if? (v1) (bd? (F32 N p0) fun v2 => bd? (F35 N p1 v2) fun v3 => if? (v3) (if? (decide (p1 ≤ p0.Acked)) (some (p0, 0)) (if? (decide (p1 > p0.Base)) (ck .i64 (p1 - p0.Base) (gd? (0 ≤ (p1 - p0.Base)) (gd? ((p1 - p0.Base).toNat ≤ p0.Queue.length) (some ((Outbox.mk p1 p1 ([] : Str) ((p0.Queue.drop (p1 - p0.Base).toNat).take (p0.Queue.length - (p1 - p0.Base).toNat))), 0))))) (some ((Outbox.mk p0.Base p1 p0.Summary p0.Queue), 0)))) (some ((Outbox.mk 0 0 ([] : Str) []), 1))) (some ((Outbox.mk 0 0 ([] : Str) []), 1))
theorem c13 (N : Nat) (p0 : Outbox) (p1 : Int) (r : (Outbox × Int)) (h : F13 N p0 p1 = some r) : ACall Try.prog 13 [.agg [.D (.I .i64 p0.Base), .D (.I .i64 p0.Acked), .D (.S p0.Summary), .D (.L (p0.Queue.map rS))], .D (.I .i64 p1)] [] (.tup [.agg [.D (.I .i64 r.1.Base), .D (.I .i64 r.1.Acked), .D (.S r.1.Summary), .D (.L (r.1.Queue.map rS))], .D (.I .i64 r.2)]) [] [] := by
  refine ACall.of_bodyW [] (fn := Try.f13) (rc := f13c) (rs := f13r) Try.func13 rfl rfl (by kernel_rfl) (by kernel_rfl) (by kernel_rfl) (by rw [Try.ntmps13]; simp) ?_
  unfold F13 at h
  unfold f13c f13r
  rw [entry_eq _ _]
  obtain ⟨v1, h225, h⟩ := F_bd h
  simp (config := { maxSteps := 1000000 }) (disch := first | assumption | (simp; done) | omega | (simp; omega)) only [push_cast, reduceCtorEq, Nat.reduceEqDiff, Nat.reduceAdd, Nat.reduceSub, Nat.reduceMul, Nat.reduceLeDiff, Nat.reduceLT, Int.reduceEq, Int.reduceNe, Int.reduceLT, Int.reduceLE, Int.reduceGT, Int.reduceGE, Int.reduceBEq, Int.reduceBNe, ↓reduceIte]
  refine call_flat (by rfl) (c18 N _ _ h225) ?_ rfl ?_
  · simp (config := { maxSteps := 1000000 }) (disch := first | assumption | (simp; done) | omega | (simp; omega)) only [push_cast, reduceCtorEq, Nat.reduceEqDiff, Nat.reduceAdd, Nat.reduceSub, Nat.reduceMul, Nat.reduceLeDiff, Nat.reduceLT, Int.reduceEq, Int.reduceNe, Int.reduceLT, Int.reduceLE, Int.reduceGT, Int.reduceGE, Int.reduceBEq, Int.reduceBNe, ↓reduceIte] <;> rfl
  rcases F_if h with ⟨h226, h⟩ | ⟨h226, h⟩
  · try simp (disch := first | assumption | (simp; done) | omega | (simp; omega)) only [push_cast, reduceCtorEq, Nat.reduceEqDiff, Nat.reduceAdd, Nat.reduceSub, Nat.reduceMul, Nat.reduceLeDiff, Nat.reduceLT, Int.reduceEq, Int.reduceNe, Int.reduceLT, Int.reduceLE, Int.reduceGT, Int.reduceGE, Int.reduceBEq, Int.reduceBNe, ↓reduceIte] at h226
    obtain ⟨v2, h227, h⟩ := F_bd h
    simp (config := { maxSteps := 1000000 }) (disch := first | assumption | (simp; done) | omega | (simp; omega)) only [push_cast, reduceCtorEq, Nat.reduceEqDiff, Nat.reduceAdd, Nat.reduceSub, Nat.reduceMul, Nat.reduceLeDiff, Nat.reduceLT, Int.reduceEq, Int.reduceNe, Int.reduceLT, Int.reduceLE, Int.reduceGT, Int.reduceGE, Int.reduceBEq, Int.reduceBNe, ↓reduceIte, h226]
    refine call_flat (by rfl) (c32 N _ _ h227) ?_ rfl ?_
    · simp (config := { maxSteps := 1000000 }) (disch := first | assumption | (simp; done) | omega | (simp; omega)) only [push_cast, reduceCtorEq, Nat.reduceEqDiff, Nat.reduceAdd, Nat.reduceSub, Nat.reduceMul, Nat.reduceLeDiff, Nat.reduceLT, Int.reduceEq, Int.reduceNe, Int.reduceLT, Int.reduceLE, Int.reduceGT, Int.reduceGE, Int.reduceBEq, Int.reduceBNe, ↓reduceIte, h226] <;> rfl
    obtain ⟨v3, h228, h⟩ := F_bd h
    simp (config := { maxSteps := 1000000 }) (disch := first | assumption | (simp; done) | omega | (simp; omega)) only [push_cast, reduceCtorEq, Nat.reduceEqDiff, Nat.reduceAdd, Nat.reduceSub, Nat.reduceMul, Nat.reduceLeDiff, Nat.reduceLT, Int.reduceEq, Int.reduceNe, Int.reduceLT, Int.reduceLE, Int.reduceGT, Int.reduceGE, Int.reduceBEq, Int.reduceBNe, ↓reduceIte, h226]
    refine call_flat (by rfl) (c35 N _ _ _ h228) ?_ rfl ?_
    · simp (config := { maxSteps := 1000000 }) (disch := first | assumption | (simp; done) | omega | (simp; omega)) only [push_cast, reduceCtorEq, Nat.reduceEqDiff, Nat.reduceAdd, Nat.reduceSub, Nat.reduceMul, Nat.reduceLeDiff, Nat.reduceLT, Int.reduceEq, Int.reduceNe, Int.reduceLT, Int.reduceLE, Int.reduceGT, Int.reduceGE, Int.reduceBEq, Int.reduceBNe, ↓reduceIte, h226] <;> rfl
    rcases F_if h with ⟨h229, h⟩ | ⟨h229, h⟩
    · try simp (disch := first | assumption | (simp; done) | omega | (simp; omega)) only [push_cast, reduceCtorEq, Nat.reduceEqDiff, Nat.reduceAdd, Nat.reduceSub, Nat.reduceMul, Nat.reduceLeDiff, Nat.reduceLT, Int.reduceEq, Int.reduceNe, Int.reduceLT, Int.reduceLE, Int.reduceGT, Int.reduceGE, Int.reduceBEq, Int.reduceBNe, ↓reduceIte] at h229
      rcases F_if h with ⟨h230, h⟩ | ⟨h230, h⟩
      · try simp (disch := first | assumption | (simp; done) | omega | (simp; omega)) only [push_cast, reduceCtorEq, Nat.reduceEqDiff, Nat.reduceAdd, Nat.reduceSub, Nat.reduceMul, Nat.reduceLeDiff, Nat.reduceLT, Int.reduceEq, Int.reduceNe, Int.reduceLT, Int.reduceLE, Int.reduceGT, Int.reduceGE, Int.reduceBEq, Int.reduceBNe, ↓reduceIte] at h230
        obtain rfl := Option.some.inj h
        simp (config := { maxSteps := 1000000 }) (disch := first | assumption | (simp; done) | omega | (simp; omega)) only [push_cast, reduceCtorEq, Nat.reduceEqDiff, Nat.reduceAdd, Nat.reduceSub, Nat.reduceMul, Nat.reduceLeDiff, Nat.reduceLT, Int.reduceEq, Int.reduceNe, Int.reduceLT, Int.reduceLE, Int.reduceGT, Int.reduceGE, Int.reduceBEq, Int.reduceBNe, ↓reduceIte, h226, h229, h230]
        refine e_ret (.inr rfl) ?_
        simp (config := { maxSteps := 1000000 }) (disch := first | assumption | (simp; done) | omega | (simp; omega)) only [push_cast, reduceCtorEq, Nat.reduceEqDiff, Nat.reduceAdd, Nat.reduceSub, Nat.reduceMul, Nat.reduceLeDiff, Nat.reduceLT, Int.reduceEq, Int.reduceNe, Int.reduceLT, Int.reduceLE, Int.reduceGT, Int.reduceGE, Int.reduceBEq, Int.reduceBNe, ↓reduceIte, aret, aresults, aresult, h226, h229, h230]
        refine ⟨_, rfl, ?_⟩
        first | (simp (config := { maxSteps := 1000000 }) (disch := first | assumption | (simp; done) | omega | (simp; omega)) only [push_cast, reduceCtorEq, Nat.reduceEqDiff, Nat.reduceAdd, Nat.reduceSub, Nat.reduceMul, Nat.reduceLeDiff, Nat.reduceLT, Int.reduceEq, Int.reduceNe, Int.reduceLT, Int.reduceLE, Int.reduceGT, Int.reduceGE, Int.reduceBEq, Int.reduceBNe, ↓reduceIte, h226, h229, h230] <;> rfl) | rfl
      · try simp (disch := first | assumption | (simp; done) | omega | (simp; omega)) only [push_cast, reduceCtorEq, Nat.reduceEqDiff, Nat.reduceAdd, Nat.reduceSub, Nat.reduceMul, Nat.reduceLeDiff, Nat.reduceLT, Int.reduceEq, Int.reduceNe, Int.reduceLT, Int.reduceLE, Int.reduceGT, Int.reduceGE, Int.reduceBEq, Int.reduceBNe, ↓reduceIte] at h230
        rcases F_if h with ⟨h231, h⟩ | ⟨h231, h⟩
        · try simp (disch := first | assumption | (simp; done) | omega | (simp; omega)) only [push_cast, reduceCtorEq, Nat.reduceEqDiff, Nat.reduceAdd, Nat.reduceSub, Nat.reduceMul, Nat.reduceLeDiff, Nat.reduceLT, Int.reduceEq, Int.reduceNe, Int.reduceLT, Int.reduceLE, Int.reduceGT, Int.reduceGE, Int.reduceBEq, Int.reduceBNe, ↓reduceIte] at h231
          obtain ⟨h232, h⟩ := F_ck h
          try simp (disch := first | assumption | (simp; done) | omega | (simp; omega)) only [push_cast, reduceCtorEq, Nat.reduceEqDiff, Nat.reduceAdd, Nat.reduceSub, Nat.reduceMul, Nat.reduceLeDiff, Nat.reduceLT, Int.reduceEq, Int.reduceNe, Int.reduceLT, Int.reduceLE, Int.reduceGT, Int.reduceGE, Int.reduceBEq, Int.reduceBNe, ↓reduceIte] at h232
          obtain ⟨h233, h⟩ := F_gd h
          try simp (disch := first | assumption | (simp; done) | omega | (simp; omega)) only [push_cast, reduceCtorEq, Nat.reduceEqDiff, Nat.reduceAdd, Nat.reduceSub, Nat.reduceMul, Nat.reduceLeDiff, Nat.reduceLT, Int.reduceEq, Int.reduceNe, Int.reduceLT, Int.reduceLE, Int.reduceGT, Int.reduceGE, Int.reduceBEq, Int.reduceBNe, ↓reduceIte] at h233
          obtain ⟨h234, h⟩ := F_gd h
          try simp (disch := first | assumption | (simp; done) | omega | (simp; omega)) only [push_cast, reduceCtorEq, Nat.reduceEqDiff, Nat.reduceAdd, Nat.reduceSub, Nat.reduceMul, Nat.reduceLeDiff, Nat.reduceLT, Int.reduceEq, Int.reduceNe, Int.reduceLT, Int.reduceLE, Int.reduceGT, Int.reduceGE, Int.reduceBEq, Int.reduceBNe, ↓reduceIte] at h234
          obtain rfl := Option.some.inj h
          simp (config := { maxSteps := 1000000 }) (disch := first | assumption | (simp; done) | omega | (simp; omega)) only [push_cast, reduceCtorEq, Nat.reduceEqDiff, Nat.reduceAdd, Nat.reduceSub, Nat.reduceMul, Nat.reduceLeDiff, Nat.reduceLT, Int.reduceEq, Int.reduceNe, Int.reduceLT, Int.reduceLE, Int.reduceGT, Int.reduceGE, Int.reduceBEq, Int.reduceBNe, ↓reduceIte, h226, h229, h230, h231, h232, h233, h234]
          refine e_ret (.inr rfl) ?_
          simp (config := { maxSteps := 1000000 }) (disch := first | assumption | (simp; done) | omega | (simp; omega)) only [push_cast, reduceCtorEq, Nat.reduceEqDiff, Nat.reduceAdd, Nat.reduceSub, Nat.reduceMul, Nat.reduceLeDiff, Nat.reduceLT, Int.reduceEq, Int.reduceNe, Int.reduceLT, Int.reduceLE, Int.reduceGT, Int.reduceGE, Int.reduceBEq, Int.reduceBNe, ↓reduceIte, aret, aresults, aresult, h226, h229, h230, h231, h232, h233, h234]
          refine ⟨_, rfl, ?_⟩
          first | (simp (config := { maxSteps := 1000000 }) (disch := first | assumption | (simp; done) | omega | (simp; omega)) only [push_cast, reduceCtorEq, Nat.reduceEqDiff, Nat.reduceAdd, Nat.reduceSub, Nat.reduceMul, Nat.reduceLeDiff, Nat.reduceLT, Int.reduceEq, Int.reduceNe, Int.reduceLT, Int.reduceLE, Int.reduceGT, Int.reduceGE, Int.reduceBEq, Int.reduceBNe, ↓reduceIte, h226, h229, h230, h231, h232, h233, h234] <;> rfl) | rfl
        · try simp (disch := first | assumption | (simp; done) | omega | (simp; omega)) only [push_cast, reduceCtorEq, Nat.reduceEqDiff, Nat.reduceAdd, Nat.reduceSub, Nat.reduceMul, Nat.reduceLeDiff, Nat.reduceLT, Int.reduceEq, Int.reduceNe, Int.reduceLT, Int.reduceLE, Int.reduceGT, Int.reduceGE, Int.reduceBEq, Int.reduceBNe, ↓reduceIte] at h231
          obtain rfl := Option.some.inj h
          simp (config := { maxSteps := 1000000 }) (disch := first | assumption | (simp; done) | omega | (simp; omega)) only [push_cast, reduceCtorEq, Nat.reduceEqDiff, Nat.reduceAdd, Nat.reduceSub, Nat.reduceMul, Nat.reduceLeDiff, Nat.reduceLT, Int.reduceEq, Int.reduceNe, Int.reduceLT, Int.reduceLE, Int.reduceGT, Int.reduceGE, Int.reduceBEq, Int.reduceBNe, ↓reduceIte, h226, h229, h230, h231]
          refine e_ret (.inr rfl) ?_
          simp (config := { maxSteps := 1000000 }) (disch := first | assumption | (simp; done) | omega | (simp; omega)) only [push_cast, reduceCtorEq, Nat.reduceEqDiff, Nat.reduceAdd, Nat.reduceSub, Nat.reduceMul, Nat.reduceLeDiff, Nat.reduceLT, Int.reduceEq, Int.reduceNe, Int.reduceLT, Int.reduceLE, Int.reduceGT, Int.reduceGE, Int.reduceBEq, Int.reduceBNe, ↓reduceIte, aret, aresults, aresult, h226, h229, h230, h231]
          refine ⟨_, rfl, ?_⟩
          first | (simp (config := { maxSteps := 1000000 }) (disch := first | assumption | (simp; done) | omega | (simp; omega)) only [push_cast, reduceCtorEq, Nat.reduceEqDiff, Nat.reduceAdd, Nat.reduceSub, Nat.reduceMul, Nat.reduceLeDiff, Nat.reduceLT, Int.reduceEq, Int.reduceNe, Int.reduceLT, Int.reduceLE, Int.reduceGT, Int.reduceGE, Int.reduceBEq, Int.reduceBNe, ↓reduceIte, h226, h229, h230, h231] <;> rfl) | rfl
    · try simp (disch := first | assumption | (simp; done) | omega | (simp; omega)) only [push_cast, reduceCtorEq, Nat.reduceEqDiff, Nat.reduceAdd, Nat.reduceSub, Nat.reduceMul, Nat.reduceLeDiff, Nat.reduceLT, Int.reduceEq, Int.reduceNe, Int.reduceLT, Int.reduceLE, Int.reduceGT, Int.reduceGE, Int.reduceBEq, Int.reduceBNe, ↓reduceIte] at h229
      obtain rfl := Option.some.inj h
      simp (config := { maxSteps := 1000000 }) (disch := first | assumption | (simp; done) | omega | (simp; omega)) only [push_cast, reduceCtorEq, Nat.reduceEqDiff, Nat.reduceAdd, Nat.reduceSub, Nat.reduceMul, Nat.reduceLeDiff, Nat.reduceLT, Int.reduceEq, Int.reduceNe, Int.reduceLT, Int.reduceLE, Int.reduceGT, Int.reduceGE, Int.reduceBEq, Int.reduceBNe, ↓reduceIte, h226, h229]
      refine e_ret (.inr rfl) ?_
      simp (config := { maxSteps := 1000000 }) (disch := first | assumption | (simp; done) | omega | (simp; omega)) only [push_cast, reduceCtorEq, Nat.reduceEqDiff, Nat.reduceAdd, Nat.reduceSub, Nat.reduceMul, Nat.reduceLeDiff, Nat.reduceLT, Int.reduceEq, Int.reduceNe, Int.reduceLT, Int.reduceLE, Int.reduceGT, Int.reduceGE, Int.reduceBEq, Int.reduceBNe, ↓reduceIte, aret, aresults, aresult, h226, h229]
      refine ⟨_, rfl, ?_⟩
      first | (simp (config := { maxSteps := 1000000 }) (disch := first | assumption | (simp; done) | omega | (simp; omega)) only [push_cast, reduceCtorEq, Nat.reduceEqDiff, Nat.reduceAdd, Nat.reduceSub, Nat.reduceMul, Nat.reduceLeDiff, Nat.reduceLT, Int.reduceEq, Int.reduceNe, Int.reduceLT, Int.reduceLE, Int.reduceGT, Int.reduceGE, Int.reduceBEq, Int.reduceBNe, ↓reduceIte, h226, h229] <;> rfl) | rfl
  · try simp (disch := first | assumption | (simp; done) | omega | (simp; omega)) only [push_cast, reduceCtorEq, Nat.reduceEqDiff, Nat.reduceAdd, Nat.reduceSub, Nat.reduceMul, Nat.reduceLeDiff, Nat.reduceLT, Int.reduceEq, Int.reduceNe, Int.reduceLT, Int.reduceLE, Int.reduceGT, Int.reduceGE, Int.reduceBEq, Int.reduceBNe, ↓reduceIte] at h226
    obtain rfl := Option.some.inj h
    simp (config := { maxSteps := 1000000 }) (disch := first | assumption | (simp; done) | omega | (simp; omega)) only [push_cast, reduceCtorEq, Nat.reduceEqDiff, Nat.reduceAdd, Nat.reduceSub, Nat.reduceMul, Nat.reduceLeDiff, Nat.reduceLT, Int.reduceEq, Int.reduceNe, Int.reduceLT, Int.reduceLE, Int.reduceGT, Int.reduceGE, Int.reduceBEq, Int.reduceBNe, ↓reduceIte, h226]
    refine e_ret (.inr rfl) ?_
    simp (config := { maxSteps := 1000000 }) (disch := first | assumption | (simp; done) | omega | (simp; omega)) only [push_cast, reduceCtorEq, Nat.reduceEqDiff, Nat.reduceAdd, Nat.reduceSub, Nat.reduceMul, Nat.reduceLeDiff, Nat.reduceLT, Int.reduceEq, Int.reduceNe, Int.reduceLT, Int.reduceLE, Int.reduceGT, Int.reduceGE, Int.reduceBEq, Int.reduceBNe, ↓reduceIte, aret, aresults, aresult, h226]
    refine ⟨_, rfl, ?_⟩
    first | (simp (config := { maxSteps := 1000000 }) (disch := first | assumption | (simp; done) | omega | (simp; omega)) only [push_cast, reduceCtorEq, Nat.reduceEqDiff, Nat.reduceAdd, Nat.reduceSub, Nat.reduceMul, Nat.reduceLeDiff, Nat.reduceLT, Int.reduceEq, Int.reduceNe, Int.reduceLT, Int.reduceLE, Int.reduceGT, Int.reduceGE, Int.reduceBEq, Int.reduceBNe, ↓reduceIte, h226] <;> rfl) | rfl

/-! ## 11 rivermark.link.Fold -/
def f11g0 : List RO :=
  [⟨(.some 3), (.box (.tmp 0)), .none⟩,
   ⟨(.some 6), (.new [(.D (.I .i64 0)), (.D (.I .i64 0)), (.D (.S [])), (.fl [])]), .none⟩,
   ⟨(.some 7), (.mv (.const (.int .i64 0))), .none⟩]
def f11g1 : List RO :=
  [⟨(.some 8), (.load (.some 4) (.tmp 3)), .none⟩,
   ⟨(.some 9), (.call (.func 18) [(.tmp 8)]), .none⟩,
   ⟨(.some 10), (.un .not (.tmp 9)), .none⟩,
   ⟨(.some 11), (.mv (.tmp 10)), .none⟩,
   ⟨(.some 12), (.mv (.tmp 1)), (.some (11, .false))⟩,
   ⟨(.some 13), (.faddr 0 (.tmp 3)), (.some (11, .false))⟩,
   ⟨(.some 14), (.load .none (.tmp 13)), (.some (11, .false))⟩,
   ⟨(.some 15), (.bin .lss (.tmp 12) (.tmp 14)), (.some (11, .false))⟩,
   ⟨(.some 16), (.pick (.tmp 11) (.const (.bool .true)) (.tmp 15)), .none⟩,
   ⟨(.some 17), (.mv (.tmp 16)), .none⟩,
   ⟨(.some 18), (.mv (.tmp 1)), (.some (17, .false))⟩,
   ⟨(.some 19), (.load (.some 4) (.tmp 3)), (.some (17, .false))⟩,
   ⟨(.some 20), (.call (.func 32) [(.tmp 19)]), (.some (17, .false))⟩,
   ⟨(.some 21), (.bin .gtr (.tmp 18) (.tmp 20)), (.some (17, .false))⟩,
   ⟨(.some 22), (.pick (.tmp 17) (.const (.bool .true)) (.tmp 21)), .none⟩,
   ⟨(.some 23), (.mv (.tmp 22)), .none⟩,
   ⟨(.some 24), (.mv (.tmp 2)), (.some (23, .false))⟩,
   ⟨(.some 25), (.call (.func 31) [(.tmp 24)]), (.some (23, .false))⟩,
   ⟨(.some 26), (.un .not (.tmp 25)), (.some (23, .false))⟩,
   ⟨(.some 27), (.pick (.tmp 23) (.const (.bool .true)) (.tmp 26)), .none⟩]
def f11g2 : List RO :=
  [⟨(.some 28), (.build [(.D (.I .i64 0)), (.D (.I .i64 0)), (.D (.S [])), (.fl [])] []), .none⟩,
   ⟨.none, (.store 4 (.tmp 6) (.tmp 28)), .none⟩,
   ⟨(.some 7), (.mv (.const (.int .i64 1))), .none⟩]
def f11g3 : List RO :=
  [⟨(.some 29), (.faddr 3 (.tmp 3)), .none⟩,
   ⟨(.some 30), (.load .none (.tmp 29)), .none⟩,
   ⟨(.some 31), (.mv (.tmp 1)), .none⟩,
   ⟨(.some 32), (.faddr 0 (.tmp 3)), .none⟩,
   ⟨(.some 33), (.load .none (.tmp 32)), .none⟩,
   ⟨(.some 34), (.bin .sub (.tmp 31) (.tmp 33)), .none⟩,
   ⟨(.some 35), (.sll 1 (.tmp 30) (.some (.tmp 34)) .none .none), .none⟩,
   ⟨(.some 36), (.mv (.tmp 1)), .none⟩,
   ⟨(.some 37), (.mv (.tmp 2)), .none⟩,
   ⟨(.some 38), (.faddr 3 (.tmp 3)), .none⟩,
   ⟨.none, (.store 1 (.tmp 38) (.tmp 35)), .none⟩,
   ⟨(.some 39), (.faddr 0 (.tmp 3)), .none⟩,
   ⟨.none, (.store 1 (.tmp 39) (.tmp 36)), .none⟩,
   ⟨(.some 40), (.faddr 2 (.tmp 3)), .none⟩,
   ⟨.none, (.store 1 (.tmp 40) (.tmp 37)), .none⟩]
def f11g4 : List RO :=
  [⟨(.some 41), (.load (.some 4) (.tmp 3)), .none⟩,
   ⟨.none, (.store 4 (.tmp 6) (.tmp 41)), .none⟩,
   ⟨(.some 7), (.mv (.const (.int .i64 0))), .none⟩]
def f11c : RCode := (.seq (.reg .false f11g0) (.seq (.seq (.reg .false f11g1) (.cond (.tmp 27) (.seq (.reg .false f11g2) .ret) .skip)) (.seq (.reg .false f11g3) (.seq (.reg .false f11g4) .ret))))
def f11r : List RRes := [(.cell (.some 4) 6), (.tmp 7)]
attribute [push_cast] f11g0 f11g1 f11g2 f11g3 f11g4
def F11 (N : Nat) (p0 : Outbox) (p1 : Int) (p2 : Str) : Option (Outbox × Int) := bd? (F18 N p0) fun v1 => if? (v1) (if? (decide (p1 < p0.Base)) (some ((Outbox.mk 0 0 ([] : Str) []), 1)) (bd? (F32 N p0) fun v2 => if? (decide (p1 > v2)) (some ((Outbox.mk 0 0 ([] : Str) []), 1)) (bd? (F31 N p2) fun v3 => if? (v3) (ck .i64 (p1 - p0.Base) (gd? (0 ≤ (p1 - p0.Base)) (gd? ((p1 - p0.Base).toNat ≤ p0.Queue.length) (some ((Outbox.mk p1 p0.Acked p2 ((p0.Queue.drop (p1 - p0.Base).toNat).take (p0.Queue.length - (p1 - p0.Base).toNat))), 0))))) (some ((Outbox.mk 0 0 ([] : Str) []), 1))))) (some ((Outbox.mk 0 0 ([] : Str) []), 1))
theorem c11 (N : Nat) (p0 : Outbox) (p1 : Int) (p2 : Str) (r : (Outbox × Int)) (h : F11 N p0 p1 p2 = some r) : ACall Try.prog 11 [.agg [.D (.I .i64 p0.Base), .D (.I .i64 p0.Acked), .D (.S p0.Summary), .D (.L (p0.Queue.map rS))], .D (.I .i64 p1), .D (.S p2)] [] (.tup [.agg [.D (.I .i64 r.1.Base), .D (.I .i64 r.1.Acked), .D (.S r.1.Summary), .D (.L (r.1.Queue.map rS))], .D (.I .i64 r.2)]) [] [] := by
  refine ACall.of_bodyW [] (fn := Try.f11) (rc := f11c) (rs := f11r) Try.func11 rfl rfl (by kernel_rfl) (by kernel_rfl) (by kernel_rfl) (by rw [Try.ntmps11]; simp) ?_
  unfold F11 at h
  unfold f11c f11r
  rw [entry_eq _ _]
  obtain ⟨v1, h235, h⟩ := F_bd h
  simp (config := { maxSteps := 1000000 }) (disch := first | assumption | (simp; done) | omega | (simp; omega)) only [push_cast, reduceCtorEq, Nat.reduceEqDiff, Nat.reduceAdd, Nat.reduceSub, Nat.reduceMul, Nat.reduceLeDiff, Nat.reduceLT, Int.reduceEq, Int.reduceNe, Int.reduceLT, Int.reduceLE, Int.reduceGT, Int.reduceGE, Int.reduceBEq, Int.reduceBNe, ↓reduceIte]
  refine call_flat (by rfl) (c18 N _ _ h235) ?_ rfl ?_
  · simp (config := { maxSteps := 1000000 }) (disch := first | assumption | (simp; done) | omega | (simp; omega)) only [push_cast, reduceCtorEq, Nat.reduceEqDiff, Nat.reduceAdd, Nat.reduceSub, Nat.reduceMul, Nat.reduceLeDiff, Nat.reduceLT, Int.reduceEq, Int.reduceNe, Int.reduceLT, Int.reduceLE, Int.reduceGT, Int.reduceGE, Int.reduceBEq, Int.reduceBNe, ↓reduceIte] <;> rfl
  rcases F_if h with ⟨h236, h⟩ | ⟨h236, h⟩
  · try simp (disch := first | assumption | (simp; done) | omega | (simp; omega)) only [push_cast, reduceCtorEq, Nat.reduceEqDiff, Nat.reduceAdd, Nat.reduceSub, Nat.reduceMul, Nat.reduceLeDiff, Nat.reduceLT, Int.reduceEq, Int.reduceNe, Int.reduceLT, Int.reduceLE, Int.reduceGT, Int.reduceGE, Int.reduceBEq, Int.reduceBNe, ↓reduceIte] at h236
    rcases F_if h with ⟨h237, h⟩ | ⟨h237, h⟩
    · try simp (disch := first | assumption | (simp; done) | omega | (simp; omega)) only [push_cast, reduceCtorEq, Nat.reduceEqDiff, Nat.reduceAdd, Nat.reduceSub, Nat.reduceMul, Nat.reduceLeDiff, Nat.reduceLT, Int.reduceEq, Int.reduceNe, Int.reduceLT, Int.reduceLE, Int.reduceGT, Int.reduceGE, Int.reduceBEq, Int.reduceBNe, ↓reduceIte] at h237
      obtain rfl := Option.some.inj h
      simp (config := { maxSteps := 1000000 }) (disch := first | assumption | (simp; done) | omega | (simp; omega)) only [push_cast, reduceCtorEq, Nat.reduceEqDiff, Nat.reduceAdd, Nat.reduceSub, Nat.reduceMul, Nat.reduceLeDiff, Nat.reduceLT, Int.reduceEq, Int.reduceNe, Int.reduceLT, Int.reduceLE, Int.reduceGT, Int.reduceGE, Int.reduceBEq, Int.reduceBNe, ↓reduceIte, h236, h237]
      refine e_ret (.inr rfl) ?_
      simp (config := { maxSteps := 1000000 }) (disch := first | assumption | (simp; done) | omega | (simp; omega)) only [push_cast, reduceCtorEq, Nat.reduceEqDiff, Nat.reduceAdd, Nat.reduceSub, Nat.reduceMul, Nat.reduceLeDiff, Nat.reduceLT, Int.reduceEq, Int.reduceNe, Int.reduceLT, Int.reduceLE, Int.reduceGT, Int.reduceGE, Int.reduceBEq, Int.reduceBNe, ↓reduceIte, aret, aresults, aresult, h236, h237]
      refine ⟨_, rfl, ?_⟩
      first | (simp (config := { maxSteps := 1000000 }) (disch := first | assumption | (simp; done) | omega | (simp; omega)) only [push_cast, reduceCtorEq, Nat.reduceEqDiff, Nat.reduceAdd, Nat.reduceSub, Nat.reduceMul, Nat.reduceLeDiff, Nat.reduceLT, Int.reduceEq, Int.reduceNe, Int.reduceLT, Int.reduceLE, Int.reduceGT, Int.reduceGE, Int.reduceBEq, Int.reduceBNe, ↓reduceIte, h236, h237] <;> rfl) | rfl
    · try simp (disch := first | assumption | (simp; done) | omega | (simp; omega)) only [push_cast, reduceCtorEq, Nat.reduceEqDiff, Nat.reduceAdd, Nat.reduceSub, Nat.reduceMul, Nat.reduceLeDiff, Nat.reduceLT, Int.reduceEq, Int.reduceNe, Int.reduceLT, Int.reduceLE, Int.reduceGT, Int.reduceGE, Int.reduceBEq, Int.reduceBNe, ↓reduceIte] at h237
      obtain ⟨v2, h238, h⟩ := F_bd h
      simp (config := { maxSteps := 1000000 }) (disch := first | assumption | (simp; done) | omega | (simp; omega)) only [push_cast, reduceCtorEq, Nat.reduceEqDiff, Nat.reduceAdd, Nat.reduceSub, Nat.reduceMul, Nat.reduceLeDiff, Nat.reduceLT, Int.reduceEq, Int.reduceNe, Int.reduceLT, Int.reduceLE, Int.reduceGT, Int.reduceGE, Int.reduceBEq, Int.reduceBNe, ↓reduceIte, h236, h237]
      refine call_flat (by rfl) (c32 N _ _ h238) ?_ rfl ?_
      · simp (config := { maxSteps := 1000000 }) (disch := first | assumption | (simp; done) | omega | (simp; omega)) only [push_cast, reduceCtorEq, Nat.reduceEqDiff, Nat.reduceAdd, Nat.reduceSub, Nat.reduceMul, Nat.reduceLeDiff, Nat.reduceLT, Int.reduceEq, Int.reduceNe, Int.reduceLT, Int.reduceLE, Int.reduceGT, Int.reduceGE, Int.reduceBEq, Int.reduceBNe, ↓reduceIte, h236, h237] <;> rfl
      rcases F_if h with ⟨h239, h⟩ | ⟨h239, h⟩
      · try simp (disch := first | assumption | (simp; done) | omega | (simp; omega)) only [push_cast, reduceCtorEq, Nat.reduceEqDiff, Nat.reduceAdd, Nat.reduceSub, Nat.reduceMul, Nat.reduceLeDiff, Nat.reduceLT, Int.reduceEq, Int.reduceNe, Int.reduceLT, Int.reduceLE, Int.reduceGT, Int.reduceGE, Int.reduceBEq, Int.reduceBNe, ↓reduceIte] at h239
        obtain rfl := Option.some.inj h
        simp (config := { maxSteps := 1000000 }) (disch := first | assumption | (simp; done) | omega | (simp; omega)) only [push_cast, reduceCtorEq, Nat.reduceEqDiff, Nat.reduceAdd, Nat.reduceSub, Nat.reduceMul, Nat.reduceLeDiff, Nat.reduceLT, Int.reduceEq, Int.reduceNe, Int.reduceLT, Int.reduceLE, Int.reduceGT, Int.reduceGE, Int.reduceBEq, Int.reduceBNe, ↓reduceIte, h236, h237, h239]
        refine e_ret (.inr rfl) ?_
        simp (config := { maxSteps := 1000000 }) (disch := first | assumption | (simp; done) | omega | (simp; omega)) only [push_cast, reduceCtorEq, Nat.reduceEqDiff, Nat.reduceAdd, Nat.reduceSub, Nat.reduceMul, Nat.reduceLeDiff, Nat.reduceLT, Int.reduceEq, Int.reduceNe, Int.reduceLT, Int.reduceLE, Int.reduceGT, Int.reduceGE, Int.reduceBEq, Int.reduceBNe, ↓reduceIte, aret, aresults, aresult, h236, h237, h239]
        refine ⟨_, rfl, ?_⟩
        first | (simp (config := { maxSteps := 1000000 }) (disch := first | assumption | (simp; done) | omega | (simp; omega)) only [push_cast, reduceCtorEq, Nat.reduceEqDiff, Nat.reduceAdd, Nat.reduceSub, Nat.reduceMul, Nat.reduceLeDiff, Nat.reduceLT, Int.reduceEq, Int.reduceNe, Int.reduceLT, Int.reduceLE, Int.reduceGT, Int.reduceGE, Int.reduceBEq, Int.reduceBNe, ↓reduceIte, h236, h237, h239] <;> rfl) | rfl
      · try simp (disch := first | assumption | (simp; done) | omega | (simp; omega)) only [push_cast, reduceCtorEq, Nat.reduceEqDiff, Nat.reduceAdd, Nat.reduceSub, Nat.reduceMul, Nat.reduceLeDiff, Nat.reduceLT, Int.reduceEq, Int.reduceNe, Int.reduceLT, Int.reduceLE, Int.reduceGT, Int.reduceGE, Int.reduceBEq, Int.reduceBNe, ↓reduceIte] at h239
        obtain ⟨v3, h240, h⟩ := F_bd h
        simp (config := { maxSteps := 1000000 }) (disch := first | assumption | (simp; done) | omega | (simp; omega)) only [push_cast, reduceCtorEq, Nat.reduceEqDiff, Nat.reduceAdd, Nat.reduceSub, Nat.reduceMul, Nat.reduceLeDiff, Nat.reduceLT, Int.reduceEq, Int.reduceNe, Int.reduceLT, Int.reduceLE, Int.reduceGT, Int.reduceGE, Int.reduceBEq, Int.reduceBNe, ↓reduceIte, h236, h237, h239]
        refine call_flat (by rfl) (c31 N _ _ h240) ?_ rfl ?_
        · simp (config := { maxSteps := 1000000 }) (disch := first | assumption | (simp; done) | omega | (simp; omega)) only [push_cast, reduceCtorEq, Nat.reduceEqDiff, Nat.reduceAdd, Nat.reduceSub, Nat.reduceMul, Nat.reduceLeDiff, Nat.reduceLT, Int.reduceEq, Int.reduceNe, Int.reduceLT, Int.reduceLE, Int.reduceGT, Int.reduceGE, Int.reduceBEq, Int.reduceBNe, ↓reduceIte, h236, h237, h239] <;> rfl
        rcases F_if h with ⟨h241, h⟩ | ⟨h241, h⟩
        · try simp (disch := first | assumption | (simp; done) | omega | (simp; omega)) only [push_cast, reduceCtorEq, Nat.reduceEqDiff, Nat.reduceAdd, Nat.reduceSub, Nat.reduceMul, Nat.reduceLeDiff, Nat.reduceLT, Int.reduceEq, Int.reduceNe, Int.reduceLT, Int.reduceLE, Int.reduceGT, Int.reduceGE, Int.reduceBEq, Int.reduceBNe, ↓reduceIte] at h241
          obtain ⟨h242, h⟩ := F_ck h
          try simp (disch := first | assumption | (simp; done) | omega | (simp; omega)) only [push_cast, reduceCtorEq, Nat.reduceEqDiff, Nat.reduceAdd, Nat.reduceSub, Nat.reduceMul, Nat.reduceLeDiff, Nat.reduceLT, Int.reduceEq, Int.reduceNe, Int.reduceLT, Int.reduceLE, Int.reduceGT, Int.reduceGE, Int.reduceBEq, Int.reduceBNe, ↓reduceIte] at h242
          obtain ⟨h243, h⟩ := F_gd h
          try simp (disch := first | assumption | (simp; done) | omega | (simp; omega)) only [push_cast, reduceCtorEq, Nat.reduceEqDiff, Nat.reduceAdd, Nat.reduceSub, Nat.reduceMul, Nat.reduceLeDiff, Nat.reduceLT, Int.reduceEq, Int.reduceNe, Int.reduceLT, Int.reduceLE, Int.reduceGT, Int.reduceGE, Int.reduceBEq, Int.reduceBNe, ↓reduceIte] at h243
          obtain ⟨h244, h⟩ := F_gd h
          try simp (disch := first | assumption | (simp; done) | omega | (simp; omega)) only [push_cast, reduceCtorEq, Nat.reduceEqDiff, Nat.reduceAdd, Nat.reduceSub, Nat.reduceMul, Nat.reduceLeDiff, Nat.reduceLT, Int.reduceEq, Int.reduceNe, Int.reduceLT, Int.reduceLE, Int.reduceGT, Int.reduceGE, Int.reduceBEq, Int.reduceBNe, ↓reduceIte] at h244
          obtain rfl := Option.some.inj h
          simp (config := { maxSteps := 1000000 }) (disch := first | assumption | (simp; done) | omega | (simp; omega)) only [push_cast, reduceCtorEq, Nat.reduceEqDiff, Nat.reduceAdd, Nat.reduceSub, Nat.reduceMul, Nat.reduceLeDiff, Nat.reduceLT, Int.reduceEq, Int.reduceNe, Int.reduceLT, Int.reduceLE, Int.reduceGT, Int.reduceGE, Int.reduceBEq, Int.reduceBNe, ↓reduceIte, h236, h237, h239, h241, h242, h243, h244]
          refine e_ret (.inr rfl) ?_
          simp (config := { maxSteps := 1000000 }) (disch := first | assumption | (simp; done) | omega | (simp; omega)) only [push_cast, reduceCtorEq, Nat.reduceEqDiff, Nat.reduceAdd, Nat.reduceSub, Nat.reduceMul, Nat.reduceLeDiff, Nat.reduceLT, Int.reduceEq, Int.reduceNe, Int.reduceLT, Int.reduceLE, Int.reduceGT, Int.reduceGE, Int.reduceBEq, Int.reduceBNe, ↓reduceIte, aret, aresults, aresult, h236, h237, h239, h241, h242, h243, h244]
          refine ⟨_, rfl, ?_⟩
          first | (simp (config := { maxSteps := 1000000 }) (disch := first | assumption | (simp; done) | omega | (simp; omega)) only [push_cast, reduceCtorEq, Nat.reduceEqDiff, Nat.reduceAdd, Nat.reduceSub, Nat.reduceMul, Nat.reduceLeDiff, Nat.reduceLT, Int.reduceEq, Int.reduceNe, Int.reduceLT, Int.reduceLE, Int.reduceGT, Int.reduceGE, Int.reduceBEq, Int.reduceBNe, ↓reduceIte, h236, h237, h239, h241, h242, h243, h244] <;> rfl) | rfl
        · try simp (disch := first | assumption | (simp; done) | omega | (simp; omega)) only [push_cast, reduceCtorEq, Nat.reduceEqDiff, Nat.reduceAdd, Nat.reduceSub, Nat.reduceMul, Nat.reduceLeDiff, Nat.reduceLT, Int.reduceEq, Int.reduceNe, Int.reduceLT, Int.reduceLE, Int.reduceGT, Int.reduceGE, Int.reduceBEq, Int.reduceBNe, ↓reduceIte] at h241
          obtain rfl := Option.some.inj h
          simp (config := { maxSteps := 1000000 }) (disch := first | assumption | (simp; done) | omega | (simp; omega)) only [push_cast, reduceCtorEq, Nat.reduceEqDiff, Nat.reduceAdd, Nat.reduceSub, Nat.reduceMul, Nat.reduceLeDiff, Nat.reduceLT, Int.reduceEq, Int.reduceNe, Int.reduceLT, Int.reduceLE, Int.reduceGT, Int.reduceGE, Int.reduceBEq, Int.reduceBNe, ↓reduceIte, h236, h237, h239, h241]
          refine e_ret (.inr rfl) ?_
          simp (config := { maxSteps := 1000000 }) (disch := first | assumption | (simp; done) | omega | (simp; omega)) only [push_cast, reduceCtorEq, Nat.reduceEqDiff, Nat.reduceAdd, Nat.reduceSub, Nat.reduceMul, Nat.reduceLeDiff, Nat.reduceLT, Int.reduceEq, Int.reduceNe, Int.reduceLT, Int.reduceLE, Int.reduceGT, Int.reduceGE, Int.reduceBEq, Int.reduceBNe, ↓reduceIte, aret, aresults, aresult, h236, h237, h239, h241]
          refine ⟨_, rfl, ?_⟩
          first | (simp (config := { maxSteps := 1000000 }) (disch := first | assumption | (simp; done) | omega | (simp; omega)) only [push_cast, reduceCtorEq, Nat.reduceEqDiff, Nat.reduceAdd, Nat.reduceSub, Nat.reduceMul, Nat.reduceLeDiff, Nat.reduceLT, Int.reduceEq, Int.reduceNe, Int.reduceLT, Int.reduceLE, Int.reduceGT, Int.reduceGE, Int.reduceBEq, Int.reduceBNe, ↓reduceIte, h236, h237, h239, h241] <;> rfl) | rfl
  · try simp (disch := first | assumption | (simp; done) | omega | (simp; omega)) only [push_cast, reduceCtorEq, Nat.reduceEqDiff, Nat.reduceAdd, Nat.reduceSub, Nat.reduceMul, Nat.reduceLeDiff, Nat.reduceLT, Int.reduceEq, Int.reduceNe, Int.reduceLT, Int.reduceLE, Int.reduceGT, Int.reduceGE, Int.reduceBEq, Int.reduceBNe, ↓reduceIte] at h236
    obtain rfl := Option.some.inj h
    simp (config := { maxSteps := 1000000 }) (disch := first | assumption | (simp; done) | omega | (simp; omega)) only [push_cast, reduceCtorEq, Nat.reduceEqDiff, Nat.reduceAdd, Nat.reduceSub, Nat.reduceMul, Nat.reduceLeDiff, Nat.reduceLT, Int.reduceEq, Int.reduceNe, Int.reduceLT, Int.reduceLE, Int.reduceGT, Int.reduceGE, Int.reduceBEq, Int.reduceBNe, ↓reduceIte, h236]
    refine e_ret (.inr rfl) ?_
    simp (config := { maxSteps := 1000000 }) (disch := first | assumption | (simp; done) | omega | (simp; omega)) only [push_cast, reduceCtorEq, Nat.reduceEqDiff, Nat.reduceAdd, Nat.reduceSub, Nat.reduceMul, Nat.reduceLeDiff, Nat.reduceLT, Int.reduceEq, Int.reduceNe, Int.reduceLT, Int.reduceLE, Int.reduceGT, Int.reduceGE, Int.reduceBEq, Int.reduceBNe, ↓reduceIte, aret, aresults, aresult, h236]
    refine ⟨_, rfl, ?_⟩
    first | (simp (config := { maxSteps := 1000000 }) (disch := first | assumption | (simp; done) | omega | (simp; omega)) only [push_cast, reduceCtorEq, Nat.reduceEqDiff, Nat.reduceAdd, Nat.reduceSub, Nat.reduceMul, Nat.reduceLeDiff, Nat.reduceLT, Int.reduceEq, Int.reduceNe, Int.reduceLT, Int.reduceLE, Int.reduceGT, Int.reduceGE, Int.reduceBEq, Int.reduceBNe, ↓reduceIte, h236] <;> rfl) | rfl

/-! ## 21 rivermark.rivermarkref11.SameFrames -/
def f21g0 : List RO :=
  [⟨(.some 4), (.mv (.const (.bool .false))), .none⟩]
def f21g1 : List RO :=
  [⟨(.some 6), (.mv (.tmp 0)), .none⟩,
   ⟨(.some 7), (.len .false (.tmp 6)), .none⟩,
   ⟨(.some 8), (.mv (.tmp 1)), .none⟩,
   ⟨(.some 9), (.len .false (.tmp 8)), .none⟩,
   ⟨(.some 10), (.bin .neq (.tmp 7) (.tmp 9)), .none⟩]
def f21g2 : List RO :=
  [⟨(.some 4), (.mv (.const (.bool .false))), .none⟩]
def f21g3 : List RO :=
  [⟨(.some 5), (.mv (.const (.int .i64 0))), .none⟩]
def f21g4 : List RO :=
  [⟨(.some 11), (.mv (.tmp 5)), .none⟩,
   ⟨(.some 12), (.mv (.tmp 0)), .none⟩,
   ⟨(.some 13), (.len .false (.tmp 12)), .none⟩,
   ⟨(.some 14), (.bin .lss (.tmp 11) (.tmp 13)), .none⟩]
def f21g5 : List RO :=
  [⟨(.some 17), (.mv (.tmp 0)), .none⟩,
   ⟨(.some 18), (.mv (.tmp 5)), .none⟩,
   ⟨(.some 19), (.iaddr 3 (.tmp 17) (.tmp 18)), .none⟩,
   ⟨(.some 20), (.load (.some 3) (.tmp 19)), .none⟩,
   ⟨(.some 21), (.mv (.tmp 1)), .none⟩,
   ⟨(.some 22), (.mv (.tmp 5)), .none⟩,
   ⟨(.some 23), (.iaddr 3 (.tmp 21) (.tmp 22)), .none⟩,
   ⟨(.some 24), (.load (.some 3) (.tmp 23)), .none⟩,
   ⟨(.some 25), (.eqs .true [0, 1, 2] (.tmp 20) (.tmp 24)), .none⟩]
def f21g6 : List RO :=
  [⟨(.some 4), (.mv (.const (.bool .false))), .none⟩]
def f21g7 : List RO :=
  [⟨(.some 15), (.mv (.tmp 5)), .none⟩,
   ⟨(.some 16), (.bin .add (.tmp 15) (.const (.int .i64 1))), .none⟩,
   ⟨(.some 5), (.mv (.tmp 16)), .none⟩]
def f21b8 : RCode := (.seq (.seq (.reg .false f21g4) (.cond (.tmp 14) .skip (.exit 0))) (.seq (.block 1 (.seq (.reg .true f21g5) (.cond (.tmp 25) (.seq (.reg .false f21g6) .ret) .skip))) (.reg .false f21g7)))
def f21g9 : List RO :=
  [⟨(.some 4), (.mv (.const (.bool .true))), .none⟩]
def f21c : RCode := (.seq (.reg .false f21g0) (.seq (.seq (.reg .false f21g1) (.cond (.tmp 10) (.seq (.reg .false f21g2) .ret) .skip)) (.seq (.seq (.reg .false f21g3) (.block 0 (.loop f21b8))) (.seq (.reg .false f21g9) .ret))))
def f21r : List RRes := [(.tmp 4)]
attribute [push_cast] f21g0 f21g1 f21g2 f21g3 f21g4 f21g5 f21g6 f21g7 f21g9
def L21_0 (N : Nat) (p0 : (List Frame)) (p1 : (List Frame)) : Nat → Int → Option Bool
  | 0, _ => none
  | m1+1, a1 => if? (decide (a1 < (p0.length : Int))) (get? p0 (a1) fun x2 => get? p1 (a1) fun x3 => if? (((x2.Sum == x3.Sum) && ((x2.Seq == x3.Seq) && (x2.Body == x3.Body)))) (ck .i64 (a1 + 1) (L21_0 N p0 p1 m1 (a1 + 1))) (some (false))) (some (true))
def I21_0 (N : Nat) (p0 : (List Frame)) (p1 : (List Frame)) (r : Bool) (n : Nat) (s : AState) : Prop := ∃ (a1 : Int), L21_0 N p0 p1 n a1 = some r ∧ s = ⟨envL [(0, .D (.L (p0.map Frame.row))), (1, .D (.L (p1.map Frame.row))), (5, .D (.I .i64 a1))], ownL [], ownL [], 0⟩
def F21 (N : Nat) (p0 : (List Frame)) (p1 : (List Frame)) : Option Bool := if? (((p0.length : Int) != (p1.length : Int))) (some (false)) (L21_0 N p0 p1 N 0)
theorem c21 (N : Nat) (p0 : (List Frame)) (p1 : (List Frame)) (r : Bool) (h : F21 N p0 p1 = some r) : ACall Try.prog 21 [.D (.L (p0.map Frame.row)), .D (.L (p1.map Frame.row))] [] (.D (.B r)) [] [] := by
  refine ACall.of_bodyW [] (fn := Try.f21) (rc := f21c) (rs := f21r) Try.func21 rfl rfl (by kernel_rfl) (by kernel_rfl) (by kernel_rfl) (by rw [Try.ntmps21]; simp) ?_
  unfold F21 at h
  unfold f21c f21r
  rw [entry_eq _ _]
  rcases F_if h with ⟨h245, h⟩ | ⟨h245, h⟩
  · try simp (disch := first | assumption | (simp; done) | omega | (simp; omega)) only [push_cast, reduceCtorEq, Nat.reduceEqDiff, Nat.reduceAdd, Nat.reduceSub, Nat.reduceMul, Nat.reduceLeDiff, Nat.reduceLT, Int.reduceEq, Int.reduceNe, Int.reduceLT, Int.reduceLE, Int.reduceGT, Int.reduceGE, Int.reduceBEq, Int.reduceBNe, ↓reduceIte] at h245
    obtain rfl := Option.some.inj h
    simp (config := { maxSteps := 1000000 }) (disch := first | assumption | (simp; done) | omega | (simp; omega)) only [push_cast, reduceCtorEq, Nat.reduceEqDiff, Nat.reduceAdd, Nat.reduceSub, Nat.reduceMul, Nat.reduceLeDiff, Nat.reduceLT, Int.reduceEq, Int.reduceNe, Int.reduceLT, Int.reduceLE, Int.reduceGT, Int.reduceGE, Int.reduceBEq, Int.reduceBNe, ↓reduceIte, h245]
    refine e_ret (.inr rfl) ?_
    simp (config := { maxSteps := 1000000 }) (disch := first | assumption | (simp; done) | omega | (simp; omega)) only [push_cast, reduceCtorEq, Nat.reduceEqDiff, Nat.reduceAdd, Nat.reduceSub, Nat.reduceMul, Nat.reduceLeDiff, Nat.reduceLT, Int.reduceEq, Int.reduceNe, Int.reduceLT, Int.reduceLE, Int.reduceGT, Int.reduceGE, Int.reduceBEq, Int.reduceBNe, ↓reduceIte, aret, aresults, aresult, h245]
    refine ⟨_, rfl, ?_⟩
    first | (simp (config := { maxSteps := 1000000 }) (disch := first | assumption | (simp; done) | omega | (simp; omega)) only [push_cast, reduceCtorEq, Nat.reduceEqDiff, Nat.reduceAdd, Nat.reduceSub, Nat.reduceMul, Nat.reduceLeDiff, Nat.reduceLT, Int.reduceEq, Int.reduceNe, Int.reduceLT, Int.reduceLE, Int.reduceGT, Int.reduceGE, Int.reduceBEq, Int.reduceBNe, ↓reduceIte, h245] <;> rfl) | rfl
  · try simp (disch := first | assumption | (simp; done) | omega | (simp; omega)) only [push_cast, reduceCtorEq, Nat.reduceEqDiff, Nat.reduceAdd, Nat.reduceSub, Nat.reduceMul, Nat.reduceLeDiff, Nat.reduceLT, Int.reduceEq, Int.reduceNe, Int.reduceLT, Int.reduceLE, Int.reduceGT, Int.reduceGE, Int.reduceBEq, Int.reduceBNe, ↓reduceIte] at h245
    simp (config := { maxSteps := 1000000 }) (disch := first | assumption | (simp; done) | omega | (simp; omega)) only [push_cast, reduceCtorEq, Nat.reduceEqDiff, Nat.reduceAdd, Nat.reduceSub, Nat.reduceMul, Nat.reduceLeDiff, Nat.reduceLT, Int.reduceEq, Int.reduceNe, Int.reduceLT, Int.reduceLE, Int.reduceGT, Int.reduceGE, Int.reduceBEq, Int.reduceBNe, ↓reduceIte, h245]
    refine loop_of (I21_0 N p0 p1 _) N [0, 1, 5] [] (by decide) ⟨0, h, ?_⟩ ?_
    · rw [wk_mk]
      simp (config := { maxSteps := 1000000 }) (disch := first | assumption | (simp; done) | omega | (simp; omega)) only [push_cast, reduceCtorEq, Nat.reduceEqDiff, Nat.reduceAdd, Nat.reduceSub, Nat.reduceMul, Nat.reduceLeDiff, Nat.reduceLT, Int.reduceEq, Int.reduceNe, Int.reduceLT, Int.reduceLE, Int.reduceGT, Int.reduceGE, Int.reduceBEq, Int.reduceBNe, ↓reduceIte, h245] <;> rfl
    · rintro n s ⟨a1, h, rfl⟩
      cases n with
      | zero => exact absurd h (by simp [L21_0])
      | succ m1 =>
        rw [L21_0] at h
        unfold f21b8
        rcases F_if h with ⟨h246, h⟩ | ⟨h246, h⟩
        · try simp (disch := first | assumption | (simp; done) | omega | (simp; omega)) only [push_cast, reduceCtorEq, Nat.reduceEqDiff, Nat.reduceAdd, Nat.reduceSub, Nat.reduceMul, Nat.reduceLeDiff, Nat.reduceLT, Int.reduceEq, Int.reduceNe, Int.reduceLT, Int.reduceLE, Int.reduceGT, Int.reduceGE, Int.reduceBEq, Int.reduceBNe, ↓reduceIte] at h246
          obtain ⟨x2, h247, h248, h⟩ := F_get h
          have h250 := get_lt h247 h248
          have h249 := map_get Frame.row h248
          try simp (disch := first | assumption | (simp; done) | omega | (simp; omega)) only [push_cast, reduceCtorEq, Nat.reduceEqDiff, Nat.reduceAdd, Nat.reduceSub, Nat.reduceMul, Nat.reduceLeDiff, Nat.reduceLT, Int.reduceEq, Int.reduceNe, Int.reduceLT, Int.reduceLE, Int.reduceGT, Int.reduceGE, Int.reduceBEq, Int.reduceBNe, ↓reduceIte] at h249
          try simp (disch := first | assumption | (simp; done) | omega | (simp; omega)) only [push_cast, reduceCtorEq, Nat.reduceEqDiff, Nat.reduceAdd, Nat.reduceSub, Nat.reduceMul, Nat.reduceLeDiff, Nat.reduceLT, Int.reduceEq, Int.reduceNe, Int.reduceLT, Int.reduceLE, Int.reduceGT, Int.reduceGE, Int.reduceBEq, Int.reduceBNe, ↓reduceIte] at h250
          obtain ⟨x3, h251, h252, h⟩ := F_get h
          have h254 := get_lt h251 h252
          have h253 := map_get Frame.row h252
          try simp (disch := first | assumption | (simp; done) | omega | (simp; omega)) only [push_cast, reduceCtorEq, Nat.reduceEqDiff, Nat.reduceAdd, Nat.reduceSub, Nat.reduceMul, Nat.reduceLeDiff, Nat.reduceLT, Int.reduceEq, Int.reduceNe, Int.reduceLT, Int.reduceLE, Int.reduceGT, Int.reduceGE, Int.reduceBEq, Int.reduceBNe, ↓reduceIte] at h253
          try simp (disch := first | assumption | (simp; done) | omega | (simp; omega)) only [push_cast, reduceCtorEq, Nat.reduceEqDiff, Nat.reduceAdd, Nat.reduceSub, Nat.reduceMul, Nat.reduceLeDiff, Nat.reduceLT, Int.reduceEq, Int.reduceNe, Int.reduceLT, Int.reduceLE, Int.reduceGT, Int.reduceGE, Int.reduceBEq, Int.reduceBNe, ↓reduceIte] at h254
          rcases F_if h with ⟨h255, h⟩ | ⟨h255, h⟩
          · try simp (disch := first | assumption | (simp; done) | omega | (simp; omega)) only [push_cast, reduceCtorEq, Nat.reduceEqDiff, Nat.reduceAdd, Nat.reduceSub, Nat.reduceMul, Nat.reduceLeDiff, Nat.reduceLT, Int.reduceEq, Int.reduceNe, Int.reduceLT, Int.reduceLE, Int.reduceGT, Int.reduceGE, Int.reduceBEq, Int.reduceBNe, ↓reduceIte] at h255
            obtain ⟨h256, h⟩ := F_ck h
            try simp (disch := first | assumption | (simp; done) | omega | (simp; omega)) only [push_cast, reduceCtorEq, Nat.reduceEqDiff, Nat.reduceAdd, Nat.reduceSub, Nat.reduceMul, Nat.reduceLeDiff, Nat.reduceLT, Int.reduceEq, Int.reduceNe, Int.reduceLT, Int.reduceLE, Int.reduceGT, Int.reduceGE, Int.reduceBEq, Int.reduceBNe, ↓reduceIte] at h256
            simp (config := { maxSteps := 1000000 }) (disch := first | assumption | (simp; done) | omega | (simp; omega)) only [push_cast, reduceCtorEq, Nat.reduceEqDiff, Nat.reduceAdd, Nat.reduceSub, Nat.reduceMul, Nat.reduceLeDiff, Nat.reduceLT, Int.reduceEq, Int.reduceNe, Int.reduceLT, Int.reduceLE, Int.reduceGT, Int.reduceGE, Int.reduceBEq, Int.reduceBNe, ↓reduceIte, h245, h246, h247, h249, h250, h251, h253, h254, h255, h256]
            refine lpK_of m1 [0, 1, 5] [] (by omega) (by decide) ⟨(a1 + 1), h, ?_⟩
            rw [wk_mk]
            simp (config := { maxSteps := 1000000 }) (disch := first | assumption | (simp; done) | omega | (simp; omega)) only [push_cast, reduceCtorEq, Nat.reduceEqDiff, Nat.reduceAdd, Nat.reduceSub, Nat.reduceMul, Nat.reduceLeDiff, Nat.reduceLT, Int.reduceEq, Int.reduceNe, Int.reduceLT, Int.reduceLE, Int.reduceGT, Int.reduceGE, Int.reduceBEq, Int.reduceBNe, ↓reduceIte, h245, h246, h247, h249, h250, h251, h253, h254, h255, h256] <;> rfl
          · try simp (disch := first | assumption | (simp; done) | omega | (simp; omega)) only [push_cast, reduceCtorEq, Nat.reduceEqDiff, Nat.reduceAdd, Nat.reduceSub, Nat.reduceMul, Nat.reduceLeDiff, Nat.reduceLT, Int.reduceEq, Int.reduceNe, Int.reduceLT, Int.reduceLE, Int.reduceGT, Int.reduceGE, Int.reduceBEq, Int.reduceBNe, ↓reduceIte] at h255
            obtain rfl := Option.some.inj h
            simp (config := { maxSteps := 1000000 }) (disch := first | assumption | (simp; done) | omega | (simp; omega)) only [push_cast, reduceCtorEq, Nat.reduceEqDiff, Nat.reduceAdd, Nat.reduceSub, Nat.reduceMul, Nat.reduceLeDiff, Nat.reduceLT, Int.reduceEq, Int.reduceNe, Int.reduceLT, Int.reduceLE, Int.reduceGT, Int.reduceGE, Int.reduceBEq, Int.reduceBNe, ↓reduceIte, h245, h246, h247, h249, h250, h251, h253, h254, h255]
            refine e_ret (.inr rfl) ?_
            simp (config := { maxSteps := 1000000 }) (disch := first | assumption | (simp; done) | omega | (simp; omega)) only [push_cast, reduceCtorEq, Nat.reduceEqDiff, Nat.reduceAdd, Nat.reduceSub, Nat.reduceMul, Nat.reduceLeDiff, Nat.reduceLT, Int.reduceEq, Int.reduceNe, Int.reduceLT, Int.reduceLE, Int.reduceGT, Int.reduceGE, Int.reduceBEq, Int.reduceBNe, ↓reduceIte, aret, aresults, aresult, h245, h246, h247, h249, h250, h251, h253, h254, h255]
            refine ⟨_, rfl, ?_⟩
            first | (simp (config := { maxSteps := 1000000 }) (disch := first | assumption | (simp; done) | omega | (simp; omega)) only [push_cast, reduceCtorEq, Nat.reduceEqDiff, Nat.reduceAdd, Nat.reduceSub, Nat.reduceMul, Nat.reduceLeDiff, Nat.reduceLT, Int.reduceEq, Int.reduceNe, Int.reduceLT, Int.reduceLE, Int.reduceGT, Int.reduceGE, Int.reduceBEq, Int.reduceBNe, ↓reduceIte, h245, h246, h247, h249, h250, h251, h253, h254, h255] <;> rfl) | rfl
        · try simp (disch := first | assumption | (simp; done) | omega | (simp; omega)) only [push_cast, reduceCtorEq, Nat.reduceEqDiff, Nat.reduceAdd, Nat.reduceSub, Nat.reduceMul, Nat.reduceLeDiff, Nat.reduceLT, Int.reduceEq, Int.reduceNe, Int.reduceLT, Int.reduceLE, Int.reduceGT, Int.reduceGE, Int.reduceBEq, Int.reduceBNe, ↓reduceIte] at h246
          obtain rfl := Option.some.inj h
          simp (config := { maxSteps := 1000000 }) (disch := first | assumption | (simp; done) | omega | (simp; omega)) only [push_cast, reduceCtorEq, Nat.reduceEqDiff, Nat.reduceAdd, Nat.reduceSub, Nat.reduceMul, Nat.reduceLeDiff, Nat.reduceLT, Int.reduceEq, Int.reduceNe, Int.reduceLT, Int.reduceLE, Int.reduceGT, Int.reduceGE, Int.reduceBEq, Int.reduceBNe, ↓reduceIte, h245, h246]
          refine e_ret (.inr rfl) ?_
          simp (config := { maxSteps := 1000000 }) (disch := first | assumption | (simp; done) | omega | (simp; omega)) only [push_cast, reduceCtorEq, Nat.reduceEqDiff, Nat.reduceAdd, Nat.reduceSub, Nat.reduceMul, Nat.reduceLeDiff, Nat.reduceLT, Int.reduceEq, Int.reduceNe, Int.reduceLT, Int.reduceLE, Int.reduceGT, Int.reduceGE, Int.reduceBEq, Int.reduceBNe, ↓reduceIte, aret, aresults, aresult, h245, h246]
          refine ⟨_, rfl, ?_⟩
          first | (simp (config := { maxSteps := 1000000 }) (disch := first | assumption | (simp; done) | omega | (simp; omega)) only [push_cast, reduceCtorEq, Nat.reduceEqDiff, Nat.reduceAdd, Nat.reduceSub, Nat.reduceMul, Nat.reduceLeDiff, Nat.reduceLT, Int.reduceEq, Int.reduceNe, Int.reduceLT, Int.reduceLE, Int.reduceGT, Int.reduceGE, Int.reduceBEq, Int.reduceBNe, ↓reduceIte, h245, h246] <;> rfl) | rfl

/-! ## 9 rivermark.rivermarklaw11.sanity -/
def f9g0 : List RO :=
  [⟨(.some 0), (.mv (.const (.bool .false))), .none⟩]
def f9g1 : List RO :=
  [⟨(.some 25), (.call (.func 30) []), .none⟩,
   ⟨(.some 24), (.mv (.tmp 25)), .none⟩,
   ⟨(.some 26), (.ext (.tmp 24) 0), .none⟩,
   ⟨(.some 27), (.ext (.tmp 24) 1), .none⟩,
   ⟨(.some 1), (.new [(.D (.I .i64 0)), (.D (.I .i64 0)), (.D (.S [])), (.fl [])]), .none⟩,
   ⟨.none, (.store 4 (.tmp 1) (.tmp 26)), .none⟩,
   ⟨(.some 2), (.mv (.tmp 27)), .none⟩]
def f9g2 : List RO :=
  [⟨(.some 29), (.load (.some 4) (.tmp 1)), .none⟩,
   ⟨(.some 30), (.call (.func 12) [(.tmp 29), (.const (.int .i64 2))]), .none⟩,
   ⟨(.some 28), (.mv (.tmp 30)), .none⟩,
   ⟨(.some 31), (.ext (.tmp 28) 0), .none⟩,
   ⟨(.some 32), (.ext (.tmp 28) 1), .none⟩,
   ⟨(.some 3), (.mv (.tmp 31)), .none⟩,
   ⟨(.some 4), (.mv (.tmp 32)), .none⟩]
def f9g3 : List RO :=
  [⟨(.some 33), (.mv (.tmp 2)), .none⟩,
   ⟨(.some 34), (.un .not (.tmp 33)), .none⟩,
   ⟨(.some 35), (.mv (.tmp 34)), .none⟩,
   ⟨(.some 36), (.mv (.tmp 4)), (.some (35, .false))⟩,
   ⟨(.some 37), (.bin .neq (.tmp 36) (.const (.int .i64 0))), (.some (35, .false))⟩,
   ⟨(.some 38), (.pick (.tmp 35) (.const (.bool .true)) (.tmp 37)), .none⟩,
   ⟨(.some 39), (.mv (.tmp 38)), .none⟩,
   ⟨(.some 40), (.mv (.tmp 3)), (.some (39, .false))⟩,
   ⟨(.some 41), (.len .false (.tmp 40)), (.some (39, .false))⟩,
   ⟨(.some 42), (.bin .neq (.tmp 41) (.const (.int .i64 2))), (.some (39, .false))⟩,
   ⟨(.some 43), (.pick (.tmp 39) (.const (.bool .true)) (.tmp 42)), .none⟩,
   ⟨(.some 44), (.mv (.tmp 43)), .none⟩,
   ⟨(.some 45), (.mv (.tmp 3)), (.some (44, .false))⟩,
   ⟨(.some 46), (.iaddr 3 (.tmp 45) (.const (.int .i64 0))), (.some (44, .false))⟩,
   ⟨(.some 47), (.load (.some 3) (.tmp 46)), (.some (44, .false))⟩,
   ⟨(.some 48), (.build [(.D (.B .false)), (.D (.I .i64 0)), (.D (.S []))] [(2, (1, (.const (.string ⟨#[97]⟩))))]), (.some (44, .false))⟩,
   ⟨(.some 49), (.eqs .true [0, 1, 2] (.tmp 47) (.tmp 48)), (.some (44, .false))⟩,
   ⟨(.some 50), (.pick (.tmp 44) (.const (.bool .true)) (.tmp 49)), .none⟩,
   ⟨(.some 51), (.mv (.tmp 50)), .none⟩,
   ⟨(.some 52), (.mv (.tmp 3)), (.some (51, .false))⟩,
   ⟨(.some 53), (.iaddr 3 (.tmp 52) (.const (.int .i64 1))), (.some (51, .false))⟩,
   ⟨(.some 54), (.load (.some 3) (.tmp 53)), (.some (51, .false))⟩,
   ⟨(.some 55), (.build [(.D (.B .false)), (.D (.I .i64 0)), (.D (.S []))] [(1, (1, (.const (.int .i64 1)))), (2, (1, (.const (.string ⟨#[98]⟩))))]), (.some (51, .false))⟩,
   ⟨(.some 56), (.eqs .true [0, 1, 2] (.tmp 54) (.tmp 55)), (.some (51, .false))⟩,
   ⟨(.some 57), (.pick (.tmp 51) (.const (.bool .true)) (.tmp 56)), .none⟩]
def f9g4 : List RO :=
  [⟨(.some 0), (.mv (.const (.bool .false))), .none⟩]
def f9g5 : List RO :=
  [⟨(.some 5), (.new [(.D (.I .i64 0)), (.fl [])]), .none⟩]
def f9g6 : List RO :=
  [⟨(.some 59), (.load (.some 2) (.tmp 5)), .none⟩,
   ⟨(.some 60), (.mv (.tmp 3)), .none⟩,
   ⟨(.some 61), (.iaddr 3 (.tmp 60) (.const (.int .i64 1))), .none⟩,
   ⟨(.some 62), (.load (.some 3) (.tmp 61)), .none⟩,
   ⟨(.some 63), (.call (.func 23) [(.tmp 59), (.tmp 62)]), .none⟩,
   ⟨(.some 58), (.mv (.tmp 63)), .none⟩,
   ⟨(.some 64), (.ext (.tmp 58) 0), .none⟩,
   ⟨(.some 65), (.ext (.tmp 58) 1), .none⟩,
   ⟨(.some 66), (.ext (.tmp 58) 2), .none⟩,
   ⟨.none, (.store 2 (.tmp 5) (.tmp 64)), .none⟩,
   ⟨(.some 6), (.mv (.tmp 65)), .none⟩,
   ⟨(.some 7), (.mv (.tmp 66)), .none⟩]
def f9g7 : List RO :=
  [⟨(.some 68), (.load (.some 2) (.tmp 5)), .none⟩,
   ⟨(.some 69), (.mv (.tmp 3)), .none⟩,
   ⟨(.some 70), (.iaddr 3 (.tmp 69) (.const (.int .i64 0))), .none⟩,
   ⟨(.some 71), (.load (.some 3) (.tmp 70)), .none⟩,
   ⟨(.some 72), (.call (.func 23) [(.tmp 68), (.tmp 71)]), .none⟩,
   ⟨(.some 67), (.mv (.tmp 72)), .none⟩,
   ⟨(.some 73), (.ext (.tmp 67) 0), .none⟩,
   ⟨(.some 74), (.ext (.tmp 67) 1), .none⟩,
   ⟨(.some 75), (.ext (.tmp 67) 2), .none⟩,
   ⟨.none, (.store 2 (.tmp 5) (.tmp 73)), .none⟩,
   ⟨(.some 8), (.mv (.tmp 74)), .none⟩,
   ⟨(.some 9), (.mv (.tmp 75)), .none⟩]
def f9g8 : List RO :=
  [⟨(.some 77), (.load (.some 4) (.tmp 1)), .none⟩,
   ⟨(.some 78), (.call (.func 13) [(.tmp 77), (.const (.int .i64 2))]), .none⟩,
   ⟨(.some 76), (.mv (.tmp 78)), .none⟩,
   ⟨(.some 79), (.ext (.tmp 76) 0), .none⟩,
   ⟨(.some 80), (.ext (.tmp 76) 1), .none⟩,
   ⟨(.some 10), (.new [(.D (.I .i64 0)), (.D (.I .i64 0)), (.D (.S [])), (.fl [])]), .none⟩,
   ⟨.none, (.store 4 (.tmp 10) (.tmp 79)), .none⟩,
   ⟨(.some 11), (.mv (.tmp 80)), .none⟩]
def f9g9 : List RO :=
  [⟨(.some 82), (.load (.some 4) (.tmp 10)), .none⟩,
   ⟨(.some 83), (.call (.func 12) [(.tmp 82), (.const (.int .i64 9))]), .none⟩,
   ⟨(.some 81), (.mv (.tmp 83)), .none⟩,
   ⟨(.some 84), (.ext (.tmp 81) 0), .none⟩,
   ⟨(.some 85), (.ext (.tmp 81) 1), .none⟩,
   ⟨(.some 12), (.mv (.tmp 84)), .none⟩,
   ⟨(.some 13), (.mv (.tmp 85)), .none⟩]
def f9g10 : List RO :=
  [⟨(.some 87), (.load (.some 4) (.tmp 1)), .none⟩,
   ⟨(.some 88), (.call (.func 11) [(.tmp 87), (.const (.int .i64 2)), (.const (.string ⟨#[97, 98]⟩))]), .none⟩,
   ⟨(.some 86), (.mv (.tmp 88)), .none⟩,
   ⟨(.some 89), (.ext (.tmp 86) 0), .none⟩,
   ⟨(.some 90), (.ext (.tmp 86) 1), .none⟩,
   ⟨(.some 14), (.new [(.D (.I .i64 0)), (.D (.I .i64 0)), (.D (.S [])), (.fl [])]), .none⟩,
   ⟨.none, (.store 4 (.tmp 14) (.tmp 89)), .none⟩,
   ⟨(.some 15), (.mv (.tmp 90)), .none⟩]
def f9g11 : List RO :=
  [⟨(.some 92), (.load (.some 4) (.tmp 14)), .none⟩,
   ⟨(.some 93), (.call (.func 12) [(.tmp 92), (.const (.int .i64 9))]), .none⟩,
   ⟨(.some 91), (.mv (.tmp 93)), .none⟩,
   ⟨(.some 94), (.ext (.tmp 91) 0), .none⟩,
   ⟨(.some 95), (.ext (.tmp 91) 1), .none⟩,
   ⟨(.some 16), (.mv (.tmp 94)), .none⟩,
   ⟨(.some 17), (.mv (.tmp 95)), .none⟩]
def f9g12 : List RO :=
  [⟨(.some 96), (.mv (.tmp 7)), .none⟩,
   ⟨(.some 97), (.bin .neq (.tmp 96) (.const (.int .i64 0))), .none⟩,
   ⟨(.some 98), (.mv (.tmp 97)), .none⟩,
   ⟨(.some 99), (.mv (.tmp 9)), (.some (98, .false))⟩,
   ⟨(.some 100), (.bin .neq (.tmp 99) (.const (.int .i64 0))), (.some (98, .false))⟩,
   ⟨(.some 101), (.pick (.tmp 98) (.const (.bool .true)) (.tmp 100)), .none⟩,
   ⟨(.some 102), (.mv (.tmp 101)), .none⟩,
   ⟨(.some 103), (.mv (.tmp 11)), (.some (102, .false))⟩,
   ⟨(.some 104), (.bin .neq (.tmp 103) (.const (.int .i64 0))), (.some (102, .false))⟩,
   ⟨(.some 105), (.pick (.tmp 102) (.const (.bool .true)) (.tmp 104)), .none⟩,
   ⟨(.some 106), (.mv (.tmp 105)), .none⟩,
   ⟨(.some 107), (.mv (.tmp 13)), (.some (106, .false))⟩,
   ⟨(.some 108), (.bin .neq (.tmp 107) (.const (.int .i64 0))), (.some (106, .false))⟩,
   ⟨(.some 109), (.pick (.tmp 106) (.const (.bool .true)) (.tmp 108)), .none⟩,
   ⟨(.some 110), (.mv (.tmp 109)), .none⟩,
   ⟨(.some 111), (.mv (.tmp 15)), (.some (110, .false))⟩,
   ⟨(.some 112), (.bin .neq (.tmp 111) (.const (.int .i64 0))), (.some (110, .false))⟩,
   ⟨(.some 113), (.pick (.tmp 110) (.const (.bool .true)) (.tmp 112)), .none⟩,
   ⟨(.some 114), (.mv (.tmp 113)), .none⟩,
   ⟨(.some 115), (.mv (.tmp 17)), (.some (114, .false))⟩,
   ⟨(.some 116), (.bin .neq (.tmp 115) (.const (.int .i64 0))), (.some (114, .false))⟩,
   ⟨(.some 117), (.pick (.tmp 114) (.const (.bool .true)) (.tmp 116)), .none⟩,
   ⟨(.some 118), (.mv (.tmp 117)), .none⟩,
   ⟨(.some 119), (.mv (.tmp 16)), (.some (118, .false))⟩,
   ⟨(.some 120), (.len .false (.tmp 119)), (.some (118, .false))⟩,
   ⟨(.some 121), (.bin .neq (.tmp 120) (.const (.int .i64 2))), (.some (118, .false))⟩,
   ⟨(.some 122), (.pick (.tmp 118) (.const (.bool .true)) (.tmp 121)), .none⟩]
def f9g13 : List RO :=
  [⟨(.some 0), (.mv (.const (.bool .false))), .none⟩]
def f9g14 : List RO :=
  [⟨(.some 18), (.new [(.D (.I .i64 0)), (.fl [])]), .none⟩]
def f9g15 : List RO :=
  [⟨(.some 124), (.load (.some 2) (.tmp 18)), .none⟩,
   ⟨(.some 125), (.mv (.tmp 16)), .none⟩,
   ⟨(.some 126), (.iaddr 3 (.tmp 125) (.const (.int .i64 1))), .none⟩,
   ⟨(.some 127), (.load (.some 3) (.tmp 126)), .none⟩,
   ⟨(.some 128), (.call (.func 23) [(.tmp 124), (.tmp 127)]), .none⟩,
   ⟨(.some 123), (.mv (.tmp 128)), .none⟩,
   ⟨(.some 129), (.ext (.tmp 123) 0), .none⟩,
   ⟨(.some 130), (.ext (.tmp 123) 1), .none⟩,
   ⟨(.some 131), (.ext (.tmp 123) 2), .none⟩,
   ⟨.none, (.store 2 (.tmp 18) (.tmp 129)), .none⟩,
   ⟨(.some 19), (.mv (.tmp 130)), .none⟩,
   ⟨(.some 20), (.mv (.tmp 131)), .none⟩]
def f9g16 : List RO :=
  [⟨(.some 133), (.load (.some 2) (.tmp 18)), .none⟩,
   ⟨(.some 134), (.mv (.tmp 16)), .none⟩,
   ⟨(.some 135), (.iaddr 3 (.tmp 134) (.const (.int .i64 0))), .none⟩,
   ⟨(.some 136), (.load (.some 3) (.tmp 135)), .none⟩,
   ⟨(.some 137), (.call (.func 23) [(.tmp 133), (.tmp 136)]), .none⟩,
   ⟨(.some 132), (.mv (.tmp 137)), .none⟩,
   ⟨(.some 138), (.ext (.tmp 132) 0), .none⟩,
   ⟨(.some 139), (.ext (.tmp 132) 1), .none⟩,
   ⟨(.some 140), (.ext (.tmp 132) 2), .none⟩,
   ⟨.none, (.store 2 (.tmp 18) (.tmp 138)), .none⟩,
   ⟨(.some 21), (.mv (.tmp 139)), .none⟩,
   ⟨(.some 22), (.mv (.tmp 140)), .none⟩]
def f9g17 : List RO :=
  [⟨(.some 141), (.mv (.tmp 6)), .none⟩,
   ⟨(.some 142), (.len .false (.tmp 141)), .none⟩,
   ⟨(.some 143), (.bin .eql (.tmp 142) (.const (.int .i64 0))), .none⟩,
   ⟨(.some 144), (.mv (.tmp 143)), .none⟩,
   ⟨(.some 145), (.mv (.tmp 8)), (.some (144, .true))⟩,
   ⟨(.some 146), (.mv (.tmp 3)), (.some (144, .true))⟩,
   ⟨(.some 147), (.call (.func 21) [(.tmp 145), (.tmp 146)]), (.some (144, .true))⟩,
   ⟨(.some 148), (.pick (.tmp 144) (.tmp 147) (.const (.bool .false))), .none⟩,
   ⟨(.some 149), (.mv (.tmp 148)), .none⟩,
   ⟨(.some 150), (.faddr 0 (.tmp 5)), (.some (149, .true))⟩,
   ⟨(.some 151), (.load .none (.tmp 150)), (.some (149, .true))⟩,
   ⟨(.some 152), (.bin .eql (.tmp 151) (.const (.int .i64 2))), (.some (149, .true))⟩,
   ⟨(.some 153), (.pick (.tmp 149) (.tmp 152) (.const (.bool .false))), .none⟩,
   ⟨(.some 154), (.mv (.tmp 153)), .none⟩,
   ⟨(.some 155), (.faddr 0 (.tmp 10)), (.some (154, .true))⟩,
   ⟨(.some 156), (.load .none (.tmp 155)), (.some (154, .true))⟩,
   ⟨(.some 157), (.bin .eql (.tmp 156) (.const (.int .i64 2))), (.some (154, .true))⟩,
   ⟨(.some 158), (.pick (.tmp 154) (.tmp 157) (.const (.bool .false))), .none⟩,
   ⟨(.some 159), (.mv (.tmp 158)), .none⟩,
   ⟨(.some 160), (.mv (.tmp 12)), (.some (159, .true))⟩,
   ⟨(.some 161), (.build [(.D (.B .false)), (.D (.I .i64 0)), (.D (.S []))] [(1, (1, (.const (.int .i64 2)))), (2, (1, (.const (.string ⟨#[99]⟩))))]), (.some (159, .true))⟩,
   ⟨(.some 162), (.bslice 3 [(.tmp 161)]), (.some (159, .true))⟩,
   ⟨(.some 163), (.call (.func 21) [(.tmp 160), (.tmp 162)]), (.some (159, .true))⟩,
   ⟨(.some 164), (.pick (.tmp 159) (.tmp 163) (.const (.bool .false))), .none⟩,
   ⟨(.some 165), (.mv (.tmp 164)), .none⟩,
   ⟨(.some 166), (.mv (.tmp 16)), (.some (165, .true))⟩,
   ⟨(.some 167), (.iaddr 3 (.tmp 166) (.const (.int .i64 0))), (.some (165, .true))⟩,
   ⟨(.some 168), (.load (.some 3) (.tmp 167)), (.some (165, .true))⟩,
   ⟨(.some 169), (.build [(.D (.B .false)), (.D (.I .i64 0)), (.D (.S []))] [(0, (1, (.const (.bool .true)))), (1, (1, (.const (.int .i64 2)))), (2, (1, (.const (.string ⟨#[97, 98]⟩))))]), (.some (165, .true))⟩,
   ⟨(.some 170), (.eqs .false [0, 1, 2] (.tmp 168) (.tmp 169)), (.some (165, .true))⟩,
   ⟨(.some 171), (.pick (.tmp 165) (.tmp 170) (.const (.bool .false))), .none⟩,
   ⟨(.some 23), (.mv (.tmp 171)), .none⟩]
def f9g18 : List RO :=
  [⟨(.some 172), (.mv (.tmp 23)), .none⟩,
   ⟨(.some 173), (.mv (.tmp 172)), .none⟩,
   ⟨(.some 174), (.mv (.tmp 20)), (.some (173, .true))⟩,
   ⟨(.some 175), (.bin .eql (.tmp 174) (.const (.int .i64 0))), (.some (173, .true))⟩,
   ⟨(.some 176), (.pick (.tmp 173) (.tmp 175) (.const (.bool .false))), .none⟩,
   ⟨(.some 177), (.mv (.tmp 176)), .none⟩,
   ⟨(.some 178), (.mv (.tmp 22)), (.some (177, .true))⟩,
   ⟨(.some 179), (.bin .eql (.tmp 178) (.const (.int .i64 0))), (.some (177, .true))⟩,
   ⟨(.some 180), (.pick (.tmp 177) (.tmp 179) (.const (.bool .false))), .none⟩,
   ⟨(.some 181), (.mv (.tmp 180)), .none⟩,
   ⟨(.some 182), (.mv (.tmp 19)), (.some (181, .true))⟩,
   ⟨(.some 183), (.len .false (.tmp 182)), (.some (181, .true))⟩,
   ⟨(.some 184), (.bin .eql (.tmp 183) (.const (.int .i64 0))), (.some (181, .true))⟩,
   ⟨(.some 185), (.pick (.tmp 181) (.tmp 184) (.const (.bool .false))), .none⟩,
   ⟨(.some 186), (.mv (.tmp 185)), .none⟩,
   ⟨(.some 187), (.mv (.tmp 21)), (.some (186, .true))⟩,
   ⟨(.some 188), (.mv (.tmp 16)), (.some (186, .true))⟩,
   ⟨(.some 189), (.call (.func 21) [(.tmp 187), (.tmp 188)]), (.some (186, .true))⟩,
   ⟨(.some 190), (.pick (.tmp 186) (.tmp 189) (.const (.bool .false))), .none⟩,
   ⟨(.some 191), (.mv (.tmp 190)), .none⟩,
   ⟨(.some 192), (.faddr 0 (.tmp 18)), (.some (191, .true))⟩,
   ⟨(.some 193), (.load .none (.tmp 192)), (.some (191, .true))⟩,
   ⟨(.some 194), (.bin .eql (.tmp 193) (.const (.int .i64 3))), (.some (191, .true))⟩,
   ⟨(.some 195), (.pick (.tmp 191) (.tmp 194) (.const (.bool .false))), .none⟩,
   ⟨(.some 0), (.mv (.tmp 195)), .none⟩]
def f9c : RCode := (.seq (.reg .false f9g0) (.seq (.reg .false f9g1) (.seq (.reg .false f9g2) (.seq (.seq (.reg .false f9g3) (.cond (.tmp 57) (.seq (.reg .false f9g4) .ret) .skip)) (.seq (.reg .false f9g5) (.seq (.reg .true f9g6) (.seq (.reg .true f9g7) (.seq (.reg .false f9g8) (.seq (.reg .false f9g9) (.seq (.reg .false f9g10) (.seq (.reg .false f9g11) (.seq (.seq (.reg .false f9g12) (.cond (.tmp 122) (.seq (.reg .false f9g13) .ret) .skip)) (.seq (.reg .false f9g14) (.seq (.reg .true f9g15) (.seq (.reg .true f9g16) (.seq (.reg .false f9g17) (.seq (.reg .false f9g18) .ret)))))))))))))))))
def f9r : List RRes := [(.tmp 0)]
attribute [push_cast] f9g0 f9g1 f9g2 f9g3 f9g4 f9g5 f9g6 f9g7 f9g8 f9g9 f9g10 f9g11 f9g12 f9g13 f9g14 f9g15 f9g16 f9g17 f9g18
def F9 (N : Nat) : Option Bool := bd? (F30 N ) fun v1 => bd? (F12 N v1.1 2) fun v2 => if? (v1.2) (if? ((v2.2 != 0)) (some (false)) (if? (((v2.1.length : Int) != 2)) (some (false)) (get? v2.1 (0) fun x3 => if? (((x3.Sum == false) && ((x3.Seq == 0) && (x3.Body == ([97] : Str))))) (get? v2.1 (1) fun x4 => if? (((x4.Sum == false) && ((x4.Seq == 1) && (x4.Body == ([98] : Str))))) (bd? (F23 N (Inbox.mk 0 []) x4) fun v5 => bd? (F23 N v5.1 x3) fun v6 => bd? (F13 N v1.1 2) fun v7 => bd? (F12 N v7.1 9) fun v8 => bd? (F11 N v1.1 2 ([97, 98] : Str)) fun v9 => bd? (F12 N v9.1 9) fun v10 => if? ((v5.2.2 != 0)) (some (false)) (if? ((v6.2.2 != 0)) (some (false)) (if? ((v7.2 != 0)) (some (false)) (if? ((v8.2 != 0)) (some (false)) (if? ((v9.2 != 0)) (some (false)) (if? ((v10.2 != 0)) (some (false)) (if? (((v10.1.length : Int) != 2)) (some (false)) (get? v10.1 (1) fun x11 => bd? (F23 N (Inbox.mk 0 []) x11) fun v12 => get? v10.1 (0) fun x13 => bd? (F23 N v12.1 x13) fun v14 => if? (((v5.2.1.length : Int) == 0)) (bd? (F21 N v6.2.1 v2.1) fun v15 => if? (v15) (if? ((v6.1.Next == 2)) (if? ((v7.1.Base == 2)) (bd? (F21 N v8.1 [(Frame.mk false 2 ([99] : Str))]) fun v16 => if? (v16) (if? (((x13.Sum == true) && ((x13.Seq == 2) && (x13.Body == ([97, 98] : Str))))) (if? ((v12.2.2 == 0)) (if? ((v14.2.2 == 0)) (if? (((v12.2.1.length : Int) == 0)) (bd? (F21 N v14.2.1 v10.1) fun v17 => if? (v17) (some ((v14.1.Next == 3))) (some (false))) (some (false))) (some (false))) (some (false))) (some (false))) (some (false))) (some (false))) (some (false))) (some (false))) (some (false)))))))))) (some (false))) (some (false))))) (some (false))
theorem c9 (N : Nat) (r : Bool) (h : F9 N = some r) : ACall Try.prog 9 [] [] (.D (.B r)) [] [] := by
  refine ACall.of_bodyW [] (fn := Try.f9) (rc := f9c) (rs := f9r) Try.func9 rfl rfl (by kernel_rfl) (by kernel_rfl) (by kernel_rfl) (by rw [Try.ntmps9]; simp) ?_
  unfold F9 at h
  unfold f9c f9r
  rw [entry_eq _ _]
  obtain ⟨v1, h257, h⟩ := F_bd h
  simp (config := { maxSteps := 1000000 }) (disch := first | assumption | (simp; done) | omega | (simp; omega)) only [push_cast, reduceCtorEq, Nat.reduceEqDiff, Nat.reduceAdd, Nat.reduceSub, Nat.reduceMul, Nat.reduceLeDiff, Nat.reduceLT, Int.reduceEq, Int.reduceNe, Int.reduceLT, Int.reduceLE, Int.reduceGT, Int.reduceGE, Int.reduceBEq, Int.reduceBNe, ↓reduceIte]
  refine call_new (by rfl) (c30 N _ h257) ?_ rfl ?_
  · simp (config := { maxSteps := 1000000 }) (disch := first | assumption | (simp; done) | omega | (simp; omega)) only [push_cast, reduceCtorEq, Nat.reduceEqDiff, Nat.reduceAdd, Nat.reduceSub, Nat.reduceMul, Nat.reduceLeDiff, Nat.reduceLT, Int.reduceEq, Int.reduceNe, Int.reduceLT, Int.reduceLE, Int.reduceGT, Int.reduceGE, Int.reduceBEq, Int.reduceBNe, ↓reduceIte] <;> rfl
  obtain ⟨v2, h258, h⟩ := F_bd h
  simp (config := { maxSteps := 1000000 }) (disch := first | assumption | (simp; done) | omega | (simp; omega)) only [push_cast, reduceCtorEq, Nat.reduceEqDiff, Nat.reduceAdd, Nat.reduceSub, Nat.reduceMul, Nat.reduceLeDiff, Nat.reduceLT, Int.reduceEq, Int.reduceNe, Int.reduceLT, Int.reduceLE, Int.reduceGT, Int.reduceGE, Int.reduceBEq, Int.reduceBNe, ↓reduceIte]
  refine call_new (by rfl) (c12 N _ _ _ h258) ?_ rfl ?_
  · simp (config := { maxSteps := 1000000 }) (disch := first | assumption | (simp; done) | omega | (simp; omega)) only [push_cast, reduceCtorEq, Nat.reduceEqDiff, Nat.reduceAdd, Nat.reduceSub, Nat.reduceMul, Nat.reduceLeDiff, Nat.reduceLT, Int.reduceEq, Int.reduceNe, Int.reduceLT, Int.reduceLE, Int.reduceGT, Int.reduceGE, Int.reduceBEq, Int.reduceBNe, ↓reduceIte] <;> rfl
  rcases F_if h with ⟨h259, h⟩ | ⟨h259, h⟩
  · try simp (disch := first | assumption | (simp; done) | omega | (simp; omega)) only [push_cast, reduceCtorEq, Nat.reduceEqDiff, Nat.reduceAdd, Nat.reduceSub, Nat.reduceMul, Nat.reduceLeDiff, Nat.reduceLT, Int.reduceEq, Int.reduceNe, Int.reduceLT, Int.reduceLE, Int.reduceGT, Int.reduceGE, Int.reduceBEq, Int.reduceBNe, ↓reduceIte] at h259
    rcases F_if h with ⟨h260, h⟩ | ⟨h260, h⟩
    · try simp (disch := first | assumption | (simp; done) | omega | (simp; omega)) only [push_cast, reduceCtorEq, Nat.reduceEqDiff, Nat.reduceAdd, Nat.reduceSub, Nat.reduceMul, Nat.reduceLeDiff, Nat.reduceLT, Int.reduceEq, Int.reduceNe, Int.reduceLT, Int.reduceLE, Int.reduceGT, Int.reduceGE, Int.reduceBEq, Int.reduceBNe, ↓reduceIte] at h260
      obtain rfl := Option.some.inj h
      simp (config := { maxSteps := 1000000 }) (disch := first | assumption | (simp; done) | omega | (simp; omega)) only [push_cast, reduceCtorEq, Nat.reduceEqDiff, Nat.reduceAdd, Nat.reduceSub, Nat.reduceMul, Nat.reduceLeDiff, Nat.reduceLT, Int.reduceEq, Int.reduceNe, Int.reduceLT, Int.reduceLE, Int.reduceGT, Int.reduceGE, Int.reduceBEq, Int.reduceBNe, ↓reduceIte, h259, h260]
      refine e_ret (.inr rfl) ?_
      simp (config := { maxSteps := 1000000 }) (disch := first | assumption | (simp; done) | omega | (simp; omega)) only [push_cast, reduceCtorEq, Nat.reduceEqDiff, Nat.reduceAdd, Nat.reduceSub, Nat.reduceMul, Nat.reduceLeDiff, Nat.reduceLT, Int.reduceEq, Int.reduceNe, Int.reduceLT, Int.reduceLE, Int.reduceGT, Int.reduceGE, Int.reduceBEq, Int.reduceBNe, ↓reduceIte, aret, aresults, aresult, h259, h260]
      refine ⟨_, rfl, ?_⟩
      first | (simp (config := { maxSteps := 1000000 }) (disch := first | assumption | (simp; done) | omega | (simp; omega)) only [push_cast, reduceCtorEq, Nat.reduceEqDiff, Nat.reduceAdd, Nat.reduceSub, Nat.reduceMul, Nat.reduceLeDiff, Nat.reduceLT, Int.reduceEq, Int.reduceNe, Int.reduceLT, Int.reduceLE, Int.reduceGT, Int.reduceGE, Int.reduceBEq, Int.reduceBNe, ↓reduceIte, h259, h260] <;> rfl) | rfl
    · try simp (disch := first | assumption | (simp; done) | omega | (simp; omega)) only [push_cast, reduceCtorEq, Nat.reduceEqDiff, Nat.reduceAdd, Nat.reduceSub, Nat.reduceMul, Nat.reduceLeDiff, Nat.reduceLT, Int.reduceEq, Int.reduceNe, Int.reduceLT, Int.reduceLE, Int.reduceGT, Int.reduceGE, Int.reduceBEq, Int.reduceBNe, ↓reduceIte] at h260
      rcases F_if h with ⟨h261, h⟩ | ⟨h261, h⟩
      · try simp (disch := first | assumption | (simp; done) | omega | (simp; omega)) only [push_cast, reduceCtorEq, Nat.reduceEqDiff, Nat.reduceAdd, Nat.reduceSub, Nat.reduceMul, Nat.reduceLeDiff, Nat.reduceLT, Int.reduceEq, Int.reduceNe, Int.reduceLT, Int.reduceLE, Int.reduceGT, Int.reduceGE, Int.reduceBEq, Int.reduceBNe, ↓reduceIte] at h261
        obtain rfl := Option.some.inj h
        simp (config := { maxSteps := 1000000 }) (disch := first | assumption | (simp; done) | omega | (simp; omega)) only [push_cast, reduceCtorEq, Nat.reduceEqDiff, Nat.reduceAdd, Nat.reduceSub, Nat.reduceMul, Nat.reduceLeDiff, Nat.reduceLT, Int.reduceEq, Int.reduceNe, Int.reduceLT, Int.reduceLE, Int.reduceGT, Int.reduceGE, Int.reduceBEq, Int.reduceBNe, ↓reduceIte, h259, h260, h261]
        refine e_ret (.inr rfl) ?_
        simp (config := { maxSteps := 1000000 }) (disch := first | assumption | (simp; done) | omega | (simp; omega)) only [push_cast, reduceCtorEq, Nat.reduceEqDiff, Nat.reduceAdd, Nat.reduceSub, Nat.reduceMul, Nat.reduceLeDiff, Nat.reduceLT, Int.reduceEq, Int.reduceNe, Int.reduceLT, Int.reduceLE, Int.reduceGT, Int.reduceGE, Int.reduceBEq, Int.reduceBNe, ↓reduceIte, aret, aresults, aresult, h259, h260, h261]
        refine ⟨_, rfl, ?_⟩
        first | (simp (config := { maxSteps := 1000000 }) (disch := first | assumption | (simp; done) | omega | (simp; omega)) only [push_cast, reduceCtorEq, Nat.reduceEqDiff, Nat.reduceAdd, Nat.reduceSub, Nat.reduceMul, Nat.reduceLeDiff, Nat.reduceLT, Int.reduceEq, Int.reduceNe, Int.reduceLT, Int.reduceLE, Int.reduceGT, Int.reduceGE, Int.reduceBEq, Int.reduceBNe, ↓reduceIte, h259, h260, h261] <;> rfl) | rfl
      · try simp (disch := first | assumption | (simp; done) | omega | (simp; omega)) only [push_cast, reduceCtorEq, Nat.reduceEqDiff, Nat.reduceAdd, Nat.reduceSub, Nat.reduceMul, Nat.reduceLeDiff, Nat.reduceLT, Int.reduceEq, Int.reduceNe, Int.reduceLT, Int.reduceLE, Int.reduceGT, Int.reduceGE, Int.reduceBEq, Int.reduceBNe, ↓reduceIte] at h261
        obtain ⟨x3, h262, h263, h⟩ := F_get h
        have h265 := get_lt h262 h263
        have h264 := map_get Frame.row h263
        try simp (disch := first | assumption | (simp; done) | omega | (simp; omega)) only [push_cast, reduceCtorEq, Nat.reduceEqDiff, Nat.reduceAdd, Nat.reduceSub, Nat.reduceMul, Nat.reduceLeDiff, Nat.reduceLT, Int.reduceEq, Int.reduceNe, Int.reduceLT, Int.reduceLE, Int.reduceGT, Int.reduceGE, Int.reduceBEq, Int.reduceBNe, ↓reduceIte] at h264
        try simp (disch := first | assumption | (simp; done) | omega | (simp; omega)) only [push_cast, reduceCtorEq, Nat.reduceEqDiff, Nat.reduceAdd, Nat.reduceSub, Nat.reduceMul, Nat.reduceLeDiff, Nat.reduceLT, Int.reduceEq, Int.reduceNe, Int.reduceLT, Int.reduceLE, Int.reduceGT, Int.reduceGE, Int.reduceBEq, Int.reduceBNe, ↓reduceIte] at h265
        rcases F_if h with ⟨h266, h⟩ | ⟨h266, h⟩
        · try simp (disch := first | assumption | (simp; done) | omega | (simp; omega)) only [push_cast, reduceCtorEq, Nat.reduceEqDiff, Nat.reduceAdd, Nat.reduceSub, Nat.reduceMul, Nat.reduceLeDiff, Nat.reduceLT, Int.reduceEq, Int.reduceNe, Int.reduceLT, Int.reduceLE, Int.reduceGT, Int.reduceGE, Int.reduceBEq, Int.reduceBNe, ↓reduceIte] at h266
          obtain ⟨x4, h267, h268, h⟩ := F_get h
          have h270 := get_lt h267 h268
          have h269 := map_get Frame.row h268
          try simp (disch := first | assumption | (simp; done) | omega | (simp; omega)) only [push_cast, reduceCtorEq, Nat.reduceEqDiff, Nat.reduceAdd, Nat.reduceSub, Nat.reduceMul, Nat.reduceLeDiff, Nat.reduceLT, Int.reduceEq, Int.reduceNe, Int.reduceLT, Int.reduceLE, Int.reduceGT, Int.reduceGE, Int.reduceBEq, Int.reduceBNe, ↓reduceIte] at h269
          try simp (disch := first | assumption | (simp; done) | omega | (simp; omega)) only [push_cast, reduceCtorEq, Nat.reduceEqDiff, Nat.reduceAdd, Nat.reduceSub, Nat.reduceMul, Nat.reduceLeDiff, Nat.reduceLT, Int.reduceEq, Int.reduceNe, Int.reduceLT, Int.reduceLE, Int.reduceGT, Int.reduceGE, Int.reduceBEq, Int.reduceBNe, ↓reduceIte] at h270
          rcases F_if h with ⟨h271, h⟩ | ⟨h271, h⟩
          · try simp (disch := first | assumption | (simp; done) | omega | (simp; omega)) only [push_cast, reduceCtorEq, Nat.reduceEqDiff, Nat.reduceAdd, Nat.reduceSub, Nat.reduceMul, Nat.reduceLeDiff, Nat.reduceLT, Int.reduceEq, Int.reduceNe, Int.reduceLT, Int.reduceLE, Int.reduceGT, Int.reduceGE, Int.reduceBEq, Int.reduceBNe, ↓reduceIte] at h271
            obtain ⟨v5, h272, h⟩ := F_bd h
            simp (config := { maxSteps := 1000000 }) (disch := first | assumption | (simp; done) | omega | (simp; omega)) only [push_cast, reduceCtorEq, Nat.reduceEqDiff, Nat.reduceAdd, Nat.reduceSub, Nat.reduceMul, Nat.reduceLeDiff, Nat.reduceLT, Int.reduceEq, Int.reduceNe, Int.reduceLT, Int.reduceLE, Int.reduceGT, Int.reduceGE, Int.reduceBEq, Int.reduceBNe, ↓reduceIte, h259, h260, h261, h262, h264, h265, h266, h267, h269, h270, h271]
            refine call_new (by rfl) (c23 N _ _ _ h272) ?_ rfl ?_
            · simp (config := { maxSteps := 1000000 }) (disch := first | assumption | (simp; done) | omega | (simp; omega)) only [push_cast, reduceCtorEq, Nat.reduceEqDiff, Nat.reduceAdd, Nat.reduceSub, Nat.reduceMul, Nat.reduceLeDiff, Nat.reduceLT, Int.reduceEq, Int.reduceNe, Int.reduceLT, Int.reduceLE, Int.reduceGT, Int.reduceGE, Int.reduceBEq, Int.reduceBNe, ↓reduceIte, h259, h260, h261, h262, h264, h265, h266, h267, h269, h270, h271] <;> rfl
            obtain ⟨v6, h273, h⟩ := F_bd h
            simp (config := { maxSteps := 1000000 }) (disch := first | assumption | (simp; done) | omega | (simp; omega)) only [push_cast, reduceCtorEq, Nat.reduceEqDiff, Nat.reduceAdd, Nat.reduceSub, Nat.reduceMul, Nat.reduceLeDiff, Nat.reduceLT, Int.reduceEq, Int.reduceNe, Int.reduceLT, Int.reduceLE, Int.reduceGT, Int.reduceGE, Int.reduceBEq, Int.reduceBNe, ↓reduceIte, h259, h260, h261, h262, h264, h265, h266, h267, h269, h270, h271]
            refine call_new (by rfl) (c23 N _ _ _ h273) ?_ rfl ?_
            · simp (config := { maxSteps := 1000000 }) (disch := first | assumption | (simp; done) | omega | (simp; omega)) only [push_cast, reduceCtorEq, Nat.reduceEqDiff, Nat.reduceAdd, Nat.reduceSub, Nat.reduceMul, Nat.reduceLeDiff, Nat.reduceLT, Int.reduceEq, Int.reduceNe, Int.reduceLT, Int.reduceLE, Int.reduceGT, Int.reduceGE, Int.reduceBEq, Int.reduceBNe, ↓reduceIte, h259, h260, h261, h262, h264, h265, h266, h267, h269, h270, h271] <;> rfl
            obtain ⟨v7, h274, h⟩ := F_bd h
            simp (config := { maxSteps := 1000000 }) (disch := first | assumption | (simp; done) | omega | (simp; omega)) only [push_cast, reduceCtorEq, Nat.reduceEqDiff, Nat.reduceAdd, Nat.reduceSub, Nat.reduceMul, Nat.reduceLeDiff, Nat.reduceLT, Int.reduceEq, Int.reduceNe, Int.reduceLT, Int.reduceLE, Int.reduceGT, Int.reduceGE, Int.reduceBEq, Int.reduceBNe, ↓reduceIte, h259, h260, h261, h262, h264, h265, h266, h267, h269, h270, h271]
            refine call_new (by rfl) (c13 N _ _ _ h274) ?_ rfl ?_
            · simp (config := { maxSteps := 1000000 }) (disch := first | assumption | (simp; done) | omega | (simp; omega)) only [push_cast, reduceCtorEq, Nat.reduceEqDiff, Nat.reduceAdd, Nat.reduceSub, Nat.reduceMul, Nat.reduceLeDiff, Nat.reduceLT, Int.reduceEq, Int.reduceNe, Int.reduceLT, Int.reduceLE, Int.reduceGT, Int.reduceGE, Int.reduceBEq, Int.reduceBNe, ↓reduceIte, h259, h260, h261, h262, h264, h265, h266, h267, h269, h270, h271] <;> rfl
            obtain ⟨v8, h275, h⟩ := F_bd h
            simp (config := { maxSteps := 1000000 }) (disch := first | assumption | (simp; done) | omega | (simp; omega)) only [push_cast, reduceCtorEq, Nat.reduceEqDiff, Nat.reduceAdd, Nat.reduceSub, Nat.reduceMul, Nat.reduceLeDiff, Nat.reduceLT, Int.reduceEq, Int.reduceNe, Int.reduceLT, Int.reduceLE, Int.reduceGT, Int.reduceGE, Int.reduceBEq, Int.reduceBNe, ↓reduceIte, h259, h260, h261, h262, h264, h265, h266, h267, h269, h270, h271]
            refine call_new (by rfl) (c12 N _ _ _ h275) ?_ rfl ?_
            · simp (config := { maxSteps := 1000000 }) (disch := first | assumption | (simp; done) | omega | (simp; omega)) only [push_cast, reduceCtorEq, Nat.reduceEqDiff, Nat.reduceAdd, Nat.reduceSub, Nat.reduceMul, Nat.reduceLeDiff, Nat.reduceLT, Int.reduceEq, Int.reduceNe, Int.reduceLT, Int.reduceLE, Int.reduceGT, Int.reduceGE, Int.reduceBEq, Int.reduceBNe, ↓reduceIte, h259, h260, h261, h262, h264, h265, h266, h267, h269, h270, h271] <;> rfl
            obtain ⟨v9, h276, h⟩ := F_bd h
            simp (config := { maxSteps := 1000000 }) (disch := first | assumption | (simp; done) | omega | (simp; omega)) only [push_cast, reduceCtorEq, Nat.reduceEqDiff, Nat.reduceAdd, Nat.reduceSub, Nat.reduceMul, Nat.reduceLeDiff, Nat.reduceLT, Int.reduceEq, Int.reduceNe, Int.reduceLT, Int.reduceLE, Int.reduceGT, Int.reduceGE, Int.reduceBEq, Int.reduceBNe, ↓reduceIte, h259, h260, h261, h262, h264, h265, h266, h267, h269, h270, h271]
            refine call_new (by rfl) (c11 N _ _ _ _ h276) ?_ rfl ?_
            · simp (config := { maxSteps := 1000000 }) (disch := first | assumption | (simp; done) | omega | (simp; omega)) only [push_cast, reduceCtorEq, Nat.reduceEqDiff, Nat.reduceAdd, Nat.reduceSub, Nat.reduceMul, Nat.reduceLeDiff, Nat.reduceLT, Int.reduceEq, Int.reduceNe, Int.reduceLT, Int.reduceLE, Int.reduceGT, Int.reduceGE, Int.reduceBEq, Int.reduceBNe, ↓reduceIte, h259, h260, h261, h262, h264, h265, h266, h267, h269, h270, h271] <;> rfl
            obtain ⟨v10, h277, h⟩ := F_bd h
            simp (config := { maxSteps := 1000000 }) (disch := first | assumption | (simp; done) | omega | (simp; omega)) only [push_cast, reduceCtorEq, Nat.reduceEqDiff, Nat.reduceAdd, Nat.reduceSub, Nat.reduceMul, Nat.reduceLeDiff, Nat.reduceLT, Int.reduceEq, Int.reduceNe, Int.reduceLT, Int.reduceLE, Int.reduceGT, Int.reduceGE, Int.reduceBEq, Int.reduceBNe, ↓reduceIte, h259, h260, h261, h262, h264, h265, h266, h267, h269, h270, h271]
            refine call_new (by rfl) (c12 N _ _ _ h277) ?_ rfl ?_
            · simp (config := { maxSteps := 1000000 }) (disch := first | assumption | (simp; done) | omega | (simp; omega)) only [push_cast, reduceCtorEq, Nat.reduceEqDiff, Nat.reduceAdd, Nat.reduceSub, Nat.reduceMul, Nat.reduceLeDiff, Nat.reduceLT, Int.reduceEq, Int.reduceNe, Int.reduceLT, Int.reduceLE, Int.reduceGT, Int.reduceGE, Int.reduceBEq, Int.reduceBNe, ↓reduceIte, h259, h260, h261, h262, h264, h265, h266, h267, h269, h270, h271] <;> rfl
            rcases F_if h with ⟨h278, h⟩ | ⟨h278, h⟩
            · try simp (disch := first | assumption | (simp; done) | omega | (simp; omega)) only [push_cast, reduceCtorEq, Nat.reduceEqDiff, Nat.reduceAdd, Nat.reduceSub, Nat.reduceMul, Nat.reduceLeDiff, Nat.reduceLT, Int.reduceEq, Int.reduceNe, Int.reduceLT, Int.reduceLE, Int.reduceGT, Int.reduceGE, Int.reduceBEq, Int.reduceBNe, ↓reduceIte] at h278
              obtain rfl := Option.some.inj h
              simp (config := { maxSteps := 1000000 }) (disch := first | assumption | (simp; done) | omega | (simp; omega)) only [push_cast, reduceCtorEq, Nat.reduceEqDiff, Nat.reduceAdd, Nat.reduceSub, Nat.reduceMul, Nat.reduceLeDiff, Nat.reduceLT, Int.reduceEq, Int.reduceNe, Int.reduceLT, Int.reduceLE, Int.reduceGT, Int.reduceGE, Int.reduceBEq, Int.reduceBNe, ↓reduceIte, h259, h260, h261, h262, h264, h265, h266, h267, h269, h270, h271, h278]
              refine e_ret (.inr rfl) ?_
              simp (config := { maxSteps := 1000000 }) (disch := first | assumption | (simp; done) | omega | (simp; omega)) only [push_cast, reduceCtorEq, Nat.reduceEqDiff, Nat.reduceAdd, Nat.reduceSub, Nat.reduceMul, Nat.reduceLeDiff, Nat.reduceLT, Int.reduceEq, Int.reduceNe, Int.reduceLT, Int.reduceLE, Int.reduceGT, Int.reduceGE, Int.reduceBEq, Int.reduceBNe, ↓reduceIte, aret, aresults, aresult, h259, h260, h261, h262, h264, h265, h266, h267, h269, h270, h271, h278]
              refine ⟨_, rfl, ?_⟩
              first | (simp (config := { maxSteps := 1000000 }) (disch := first | assumption | (simp; done) | omega | (simp; omega)) only [push_cast, reduceCtorEq, Nat.reduceEqDiff, Nat.reduceAdd, Nat.reduceSub, Nat.reduceMul, Nat.reduceLeDiff, Nat.reduceLT, Int.reduceEq, Int.reduceNe, Int.reduceLT, Int.reduceLE, Int.reduceGT, Int.reduceGE, Int.reduceBEq, Int.reduceBNe, ↓reduceIte, h259, h260, h261, h262, h264, h265, h266, h267, h269, h270, h271, h278] <;> rfl) | rfl
            · try simp (disch := first | assumption | (simp; done) | omega | (simp; omega)) only [push_cast, reduceCtorEq, Nat.reduceEqDiff, Nat.reduceAdd, Nat.reduceSub, Nat.reduceMul, Nat.reduceLeDiff, Nat.reduceLT, Int.reduceEq, Int.reduceNe, Int.reduceLT, Int.reduceLE, Int.reduceGT, Int.reduceGE, Int.reduceBEq, Int.reduceBNe, ↓reduceIte] at h278
              rcases F_if h with ⟨h279, h⟩ | ⟨h279, h⟩
              · try simp (disch := first | assumption | (simp; done) | omega | (simp; omega)) only [push_cast, reduceCtorEq, Nat.reduceEqDiff, Nat.reduceAdd, Nat.reduceSub, Nat.reduceMul, Nat.reduceLeDiff, Nat.reduceLT, Int.reduceEq, Int.reduceNe, Int.reduceLT, Int.reduceLE, Int.reduceGT, Int.reduceGE, Int.reduceBEq, Int.reduceBNe, ↓reduceIte] at h279
                obtain rfl := Option.some.inj h
                simp (config := { maxSteps := 1000000 }) (disch := first | assumption | (simp; done) | omega | (simp; omega)) only [push_cast, reduceCtorEq, Nat.reduceEqDiff, Nat.reduceAdd, Nat.reduceSub, Nat.reduceMul, Nat.reduceLeDiff, Nat.reduceLT, Int.reduceEq, Int.reduceNe, Int.reduceLT, Int.reduceLE, Int.reduceGT, Int.reduceGE, Int.reduceBEq, Int.reduceBNe, ↓reduceIte, h259, h260, h261, h262, h264, h265, h266, h267, h269, h270, h271, h278, h279]
                refine e_ret (.inr rfl) ?_
                simp (config := { maxSteps := 1000000 }) (disch := first | assumption | (simp; done) | omega | (simp; omega)) only [push_cast, reduceCtorEq, Nat.reduceEqDiff, Nat.reduceAdd, Nat.reduceSub, Nat.reduceMul, Nat.reduceLeDiff, Nat.reduceLT, Int.reduceEq, Int.reduceNe, Int.reduceLT, Int.reduceLE, Int.reduceGT, Int.reduceGE, Int.reduceBEq, Int.reduceBNe, ↓reduceIte, aret, aresults, aresult, h259, h260, h261, h262, h264, h265, h266, h267, h269, h270, h271, h278, h279]
                refine ⟨_, rfl, ?_⟩
                first | (simp (config := { maxSteps := 1000000 }) (disch := first | assumption | (simp; done) | omega | (simp; omega)) only [push_cast, reduceCtorEq, Nat.reduceEqDiff, Nat.reduceAdd, Nat.reduceSub, Nat.reduceMul, Nat.reduceLeDiff, Nat.reduceLT, Int.reduceEq, Int.reduceNe, Int.reduceLT, Int.reduceLE, Int.reduceGT, Int.reduceGE, Int.reduceBEq, Int.reduceBNe, ↓reduceIte, h259, h260, h261, h262, h264, h265, h266, h267, h269, h270, h271, h278, h279] <;> rfl) | rfl
              · try simp (disch := first | assumption | (simp; done) | omega | (simp; omega)) only [push_cast, reduceCtorEq, Nat.reduceEqDiff, Nat.reduceAdd, Nat.reduceSub, Nat.reduceMul, Nat.reduceLeDiff, Nat.reduceLT, Int.reduceEq, Int.reduceNe, Int.reduceLT, Int.reduceLE, Int.reduceGT, Int.reduceGE, Int.reduceBEq, Int.reduceBNe, ↓reduceIte] at h279
                rcases F_if h with ⟨h280, h⟩ | ⟨h280, h⟩
                · try simp (disch := first | assumption | (simp; done) | omega | (simp; omega)) only [push_cast, reduceCtorEq, Nat.reduceEqDiff, Nat.reduceAdd, Nat.reduceSub, Nat.reduceMul, Nat.reduceLeDiff, Nat.reduceLT, Int.reduceEq, Int.reduceNe, Int.reduceLT, Int.reduceLE, Int.reduceGT, Int.reduceGE, Int.reduceBEq, Int.reduceBNe, ↓reduceIte] at h280
                  obtain rfl := Option.some.inj h
                  simp (config := { maxSteps := 1000000 }) (disch := first | assumption | (simp; done) | omega | (simp; omega)) only [push_cast, reduceCtorEq, Nat.reduceEqDiff, Nat.reduceAdd, Nat.reduceSub, Nat.reduceMul, Nat.reduceLeDiff, Nat.reduceLT, Int.reduceEq, Int.reduceNe, Int.reduceLT, Int.reduceLE, Int.reduceGT, Int.reduceGE, Int.reduceBEq, Int.reduceBNe, ↓reduceIte, h259, h260, h261, h262, h264, h265, h266, h267, h269, h270, h271, h278, h279, h280]
                  refine e_ret (.inr rfl) ?_
                  simp (config := { maxSteps := 1000000 }) (disch := first | assumption | (simp; done) | omega | (simp; omega)) only [push_cast, reduceCtorEq, Nat.reduceEqDiff, Nat.reduceAdd, Nat.reduceSub, Nat.reduceMul, Nat.reduceLeDiff, Nat.reduceLT, Int.reduceEq, Int.reduceNe, Int.reduceLT, Int.reduceLE, Int.reduceGT, Int.reduceGE, Int.reduceBEq, Int.reduceBNe, ↓reduceIte, aret, aresults, aresult, h259, h260, h261, h262, h264, h265, h266, h267, h269, h270, h271, h278, h279, h280]
                  refine ⟨_, rfl, ?_⟩
                  first | (simp (config := { maxSteps := 1000000 }) (disch := first | assumption | (simp; done) | omega | (simp; omega)) only [push_cast, reduceCtorEq, Nat.reduceEqDiff, Nat.reduceAdd, Nat.reduceSub, Nat.reduceMul, Nat.reduceLeDiff, Nat.reduceLT, Int.reduceEq, Int.reduceNe, Int.reduceLT, Int.reduceLE, Int.reduceGT, Int.reduceGE, Int.reduceBEq, Int.reduceBNe, ↓reduceIte, h259, h260, h261, h262, h264, h265, h266, h267, h269, h270, h271, h278, h279, h280] <;> rfl) | rfl
                · try simp (disch := first | assumption | (simp; done) | omega | (simp; omega)) only [push_cast, reduceCtorEq, Nat.reduceEqDiff, Nat.reduceAdd, Nat.reduceSub, Nat.reduceMul, Nat.reduceLeDiff, Nat.reduceLT, Int.reduceEq, Int.reduceNe, Int.reduceLT, Int.reduceLE, Int.reduceGT, Int.reduceGE, Int.reduceBEq, Int.reduceBNe, ↓reduceIte] at h280
                  rcases F_if h with ⟨h281, h⟩ | ⟨h281, h⟩
                  · try simp (disch := first | assumption | (simp; done) | omega | (simp; omega)) only [push_cast, reduceCtorEq, Nat.reduceEqDiff, Nat.reduceAdd, Nat.reduceSub, Nat.reduceMul, Nat.reduceLeDiff, Nat.reduceLT, Int.reduceEq, Int.reduceNe, Int.reduceLT, Int.reduceLE, Int.reduceGT, Int.reduceGE, Int.reduceBEq, Int.reduceBNe, ↓reduceIte] at h281
                    obtain rfl := Option.some.inj h
                    simp (config := { maxSteps := 1000000 }) (disch := first | assumption | (simp; done) | omega | (simp; omega)) only [push_cast, reduceCtorEq, Nat.reduceEqDiff, Nat.reduceAdd, Nat.reduceSub, Nat.reduceMul, Nat.reduceLeDiff, Nat.reduceLT, Int.reduceEq, Int.reduceNe, Int.reduceLT, Int.reduceLE, Int.reduceGT, Int.reduceGE, Int.reduceBEq, Int.reduceBNe, ↓reduceIte, h259, h260, h261, h262, h264, h265, h266, h267, h269, h270, h271, h278, h279, h280, h281]
                    refine e_ret (.inr rfl) ?_
                    simp (config := { maxSteps := 1000000 }) (disch := first | assumption | (simp; done) | omega | (simp; omega)) only [push_cast, reduceCtorEq, Nat.reduceEqDiff, Nat.reduceAdd, Nat.reduceSub, Nat.reduceMul, Nat.reduceLeDiff, Nat.reduceLT, Int.reduceEq, Int.reduceNe, Int.reduceLT, Int.reduceLE, Int.reduceGT, Int.reduceGE, Int.reduceBEq, Int.reduceBNe, ↓reduceIte, aret, aresults, aresult, h259, h260, h261, h262, h264, h265, h266, h267, h269, h270, h271, h278, h279, h280, h281]
                    refine ⟨_, rfl, ?_⟩
                    first | (simp (config := { maxSteps := 1000000 }) (disch := first | assumption | (simp; done) | omega | (simp; omega)) only [push_cast, reduceCtorEq, Nat.reduceEqDiff, Nat.reduceAdd, Nat.reduceSub, Nat.reduceMul, Nat.reduceLeDiff, Nat.reduceLT, Int.reduceEq, Int.reduceNe, Int.reduceLT, Int.reduceLE, Int.reduceGT, Int.reduceGE, Int.reduceBEq, Int.reduceBNe, ↓reduceIte, h259, h260, h261, h262, h264, h265, h266, h267, h269, h270, h271, h278, h279, h280, h281] <;> rfl) | rfl
                  · try simp (disch := first | assumption | (simp; done) | omega | (simp; omega)) only [push_cast, reduceCtorEq, Nat.reduceEqDiff, Nat.reduceAdd, Nat.reduceSub, Nat.reduceMul, Nat.reduceLeDiff, Nat.reduceLT, Int.reduceEq, Int.reduceNe, Int.reduceLT, Int.reduceLE, Int.reduceGT, Int.reduceGE, Int.reduceBEq, Int.reduceBNe, ↓reduceIte] at h281
                    rcases F_if h with ⟨h282, h⟩ | ⟨h282, h⟩
                    · try simp (disch := first | assumption | (simp; done) | omega | (simp; omega)) only [push_cast, reduceCtorEq, Nat.reduceEqDiff, Nat.reduceAdd, Nat.reduceSub, Nat.reduceMul, Nat.reduceLeDiff, Nat.reduceLT, Int.reduceEq, Int.reduceNe, Int.reduceLT, Int.reduceLE, Int.reduceGT, Int.reduceGE, Int.reduceBEq, Int.reduceBNe, ↓reduceIte] at h282
                      obtain rfl := Option.some.inj h
                      simp (config := { maxSteps := 1000000 }) (disch := first | assumption | (simp; done) | omega | (simp; omega)) only [push_cast, reduceCtorEq, Nat.reduceEqDiff, Nat.reduceAdd, Nat.reduceSub, Nat.reduceMul, Nat.reduceLeDiff, Nat.reduceLT, Int.reduceEq, Int.reduceNe, Int.reduceLT, Int.reduceLE, Int.reduceGT, Int.reduceGE, Int.reduceBEq, Int.reduceBNe, ↓reduceIte, h259, h260, h261, h262, h264, h265, h266, h267, h269, h270, h271, h278, h279, h280, h281, h282]
                      refine e_ret (.inr rfl) ?_
                      simp (config := { maxSteps := 1000000 }) (disch := first | assumption | (simp; done) | omega | (simp; omega)) only [push_cast, reduceCtorEq, Nat.reduceEqDiff, Nat.reduceAdd, Nat.reduceSub, Nat.reduceMul, Nat.reduceLeDiff, Nat.reduceLT, Int.reduceEq, Int.reduceNe, Int.reduceLT, Int.reduceLE, Int.reduceGT, Int.reduceGE, Int.reduceBEq, Int.reduceBNe, ↓reduceIte, aret, aresults, aresult, h259, h260, h261, h262, h264, h265, h266, h267, h269, h270, h271, h278, h279, h280, h281, h282]
                      refine ⟨_, rfl, ?_⟩
                      first | (simp (config := { maxSteps := 1000000 }) (disch := first | assumption | (simp; done) | omega | (simp; omega)) only [push_cast, reduceCtorEq, Nat.reduceEqDiff, Nat.reduceAdd, Nat.reduceSub, Nat.reduceMul, Nat.reduceLeDiff, Nat.reduceLT, Int.reduceEq, Int.reduceNe, Int.reduceLT, Int.reduceLE, Int.reduceGT, Int.reduceGE, Int.reduceBEq, Int.reduceBNe, ↓reduceIte, h259, h260, h261, h262, h264, h265, h266, h267, h269, h270, h271, h278, h279, h280, h281, h282] <;> rfl) | rfl
                    · try simp (disch := first | assumption | (simp; done) | omega | (simp; omega)) only [push_cast, reduceCtorEq, Nat.reduceEqDiff, Nat.reduceAdd, Nat.reduceSub, Nat.reduceMul, Nat.reduceLeDiff, Nat.reduceLT, Int.reduceEq, Int.reduceNe, Int.reduceLT, Int.reduceLE, Int.reduceGT, Int.reduceGE, Int.reduceBEq, Int.reduceBNe, ↓reduceIte] at h282
                      rcases F_if h with ⟨h283, h⟩ | ⟨h283, h⟩
                      · try simp (disch := first | assumption | (simp; done) | omega | (simp; omega)) only [push_cast, reduceCtorEq, Nat.reduceEqDiff, Nat.reduceAdd, Nat.reduceSub, Nat.reduceMul, Nat.reduceLeDiff, Nat.reduceLT, Int.reduceEq, Int.reduceNe, Int.reduceLT, Int.reduceLE, Int.reduceGT, Int.reduceGE, Int.reduceBEq, Int.reduceBNe, ↓reduceIte] at h283
                        obtain rfl := Option.some.inj h
                        simp (config := { maxSteps := 1000000 }) (disch := first | assumption | (simp; done) | omega | (simp; omega)) only [push_cast, reduceCtorEq, Nat.reduceEqDiff, Nat.reduceAdd, Nat.reduceSub, Nat.reduceMul, Nat.reduceLeDiff, Nat.reduceLT, Int.reduceEq, Int.reduceNe, Int.reduceLT, Int.reduceLE, Int.reduceGT, Int.reduceGE, Int.reduceBEq, Int.reduceBNe, ↓reduceIte, h259, h260, h261, h262, h264, h265, h266, h267, h269, h270, h271, h278, h279, h280, h281, h282, h283]
                        refine e_ret (.inr rfl) ?_
                        simp (config := { maxSteps := 1000000 }) (disch := first | assumption | (simp; done) | omega | (simp; omega)) only [push_cast, reduceCtorEq, Nat.reduceEqDiff, Nat.reduceAdd, Nat.reduceSub, Nat.reduceMul, Nat.reduceLeDiff, Nat.reduceLT, Int.reduceEq, Int.reduceNe, Int.reduceLT, Int.reduceLE, Int.reduceGT, Int.reduceGE, Int.reduceBEq, Int.reduceBNe, ↓reduceIte, aret, aresults, aresult, h259, h260, h261, h262, h264, h265, h266, h267, h269, h270, h271, h278, h279, h280, h281, h282, h283]
                        refine ⟨_, rfl, ?_⟩
                        first | (simp (config := { maxSteps := 1000000 }) (disch := first | assumption | (simp; done) | omega | (simp; omega)) only [push_cast, reduceCtorEq, Nat.reduceEqDiff, Nat.reduceAdd, Nat.reduceSub, Nat.reduceMul, Nat.reduceLeDiff, Nat.reduceLT, Int.reduceEq, Int.reduceNe, Int.reduceLT, Int.reduceLE, Int.reduceGT, Int.reduceGE, Int.reduceBEq, Int.reduceBNe, ↓reduceIte, h259, h260, h261, h262, h264, h265, h266, h267, h269, h270, h271, h278, h279, h280, h281, h282, h283] <;> rfl) | rfl
                      · try simp (disch := first | assumption | (simp; done) | omega | (simp; omega)) only [push_cast, reduceCtorEq, Nat.reduceEqDiff, Nat.reduceAdd, Nat.reduceSub, Nat.reduceMul, Nat.reduceLeDiff, Nat.reduceLT, Int.reduceEq, Int.reduceNe, Int.reduceLT, Int.reduceLE, Int.reduceGT, Int.reduceGE, Int.reduceBEq, Int.reduceBNe, ↓reduceIte] at h283
                        rcases F_if h with ⟨h284, h⟩ | ⟨h284, h⟩
                        · try simp (disch := first | assumption | (simp; done) | omega | (simp; omega)) only [push_cast, reduceCtorEq, Nat.reduceEqDiff, Nat.reduceAdd, Nat.reduceSub, Nat.reduceMul, Nat.reduceLeDiff, Nat.reduceLT, Int.reduceEq, Int.reduceNe, Int.reduceLT, Int.reduceLE, Int.reduceGT, Int.reduceGE, Int.reduceBEq, Int.reduceBNe, ↓reduceIte] at h284
                          obtain rfl := Option.some.inj h
                          simp (config := { maxSteps := 1000000 }) (disch := first | assumption | (simp; done) | omega | (simp; omega)) only [push_cast, reduceCtorEq, Nat.reduceEqDiff, Nat.reduceAdd, Nat.reduceSub, Nat.reduceMul, Nat.reduceLeDiff, Nat.reduceLT, Int.reduceEq, Int.reduceNe, Int.reduceLT, Int.reduceLE, Int.reduceGT, Int.reduceGE, Int.reduceBEq, Int.reduceBNe, ↓reduceIte, h259, h260, h261, h262, h264, h265, h266, h267, h269, h270, h271, h278, h279, h280, h281, h282, h283, h284]
                          refine e_ret (.inr rfl) ?_
                          simp (config := { maxSteps := 1000000 }) (disch := first | assumption | (simp; done) | omega | (simp; omega)) only [push_cast, reduceCtorEq, Nat.reduceEqDiff, Nat.reduceAdd, Nat.reduceSub, Nat.reduceMul, Nat.reduceLeDiff, Nat.reduceLT, Int.reduceEq, Int.reduceNe, Int.reduceLT, Int.reduceLE, Int.reduceGT, Int.reduceGE, Int.reduceBEq, Int.reduceBNe, ↓reduceIte, aret, aresults, aresult, h259, h260, h261, h262, h264, h265, h266, h267, h269, h270, h271, h278, h279, h280, h281, h282, h283, h284]
                          refine ⟨_, rfl, ?_⟩
                          first | (simp (config := { maxSteps := 1000000 }) (disch := first | assumption | (simp; done) | omega | (simp; omega)) only [push_cast, reduceCtorEq, Nat.reduceEqDiff, Nat.reduceAdd, Nat.reduceSub, Nat.reduceMul, Nat.reduceLeDiff, Nat.reduceLT, Int.reduceEq, Int.reduceNe, Int.reduceLT, Int.reduceLE, Int.reduceGT, Int.reduceGE, Int.reduceBEq, Int.reduceBNe, ↓reduceIte, h259, h260, h261, h262, h264, h265, h266, h267, h269, h270, h271, h278, h279, h280, h281, h282, h283, h284] <;> rfl) | rfl
                        · try simp (disch := first | assumption | (simp; done) | omega | (simp; omega)) only [push_cast, reduceCtorEq, Nat.reduceEqDiff, Nat.reduceAdd, Nat.reduceSub, Nat.reduceMul, Nat.reduceLeDiff, Nat.reduceLT, Int.reduceEq, Int.reduceNe, Int.reduceLT, Int.reduceLE, Int.reduceGT, Int.reduceGE, Int.reduceBEq, Int.reduceBNe, ↓reduceIte] at h284
                          obtain ⟨x11, h285, h286, h⟩ := F_get h
                          have h288 := get_lt h285 h286
                          have h287 := map_get Frame.row h286
                          try simp (disch := first | assumption | (simp; done) | omega | (simp; omega)) only [push_cast, reduceCtorEq, Nat.reduceEqDiff, Nat.reduceAdd, Nat.reduceSub, Nat.reduceMul, Nat.reduceLeDiff, Nat.reduceLT, Int.reduceEq, Int.reduceNe, Int.reduceLT, Int.reduceLE, Int.reduceGT, Int.reduceGE, Int.reduceBEq, Int.reduceBNe, ↓reduceIte] at h287
                          try simp (disch := first | assumption | (simp; done) | omega | (simp; omega)) only [push_cast, reduceCtorEq, Nat.reduceEqDiff, Nat.reduceAdd, Nat.reduceSub, Nat.reduceMul, Nat.reduceLeDiff, Nat.reduceLT, Int.reduceEq, Int.reduceNe, Int.reduceLT, Int.reduceLE, Int.reduceGT, Int.reduceGE, Int.reduceBEq, Int.reduceBNe, ↓reduceIte] at h288
                          obtain ⟨v12, h289, h⟩ := F_bd h
                          simp (config := { maxSteps := 1000000 }) (disch := first | assumption | (simp; done) | omega | (simp; omega)) only [push_cast, reduceCtorEq, Nat.reduceEqDiff, Nat.reduceAdd, Nat.reduceSub, Nat.reduceMul, Nat.reduceLeDiff, Nat.reduceLT, Int.reduceEq, Int.reduceNe, Int.reduceLT, Int.reduceLE, Int.reduceGT, Int.reduceGE, Int.reduceBEq, Int.reduceBNe, ↓reduceIte, h259, h260, h261, h262, h264, h265, h266, h267, h269, h270, h271, h278, h279, h280, h281, h282, h283, h284, h285, h287, h288]
                          refine call_new (by rfl) (c23 N _ _ _ h289) ?_ rfl ?_
                          · simp (config := { maxSteps := 1000000 }) (disch := first | assumption | (simp; done) | omega | (simp; omega)) only [push_cast, reduceCtorEq, Nat.reduceEqDiff, Nat.reduceAdd, Nat.reduceSub, Nat.reduceMul, Nat.reduceLeDiff, Nat.reduceLT, Int.reduceEq, Int.reduceNe, Int.reduceLT, Int.reduceLE, Int.reduceGT, Int.reduceGE, Int.reduceBEq, Int.reduceBNe, ↓reduceIte, h259, h260, h261, h262, h264, h265, h266, h267, h269, h270, h271, h278, h279, h280, h281, h282, h283, h284, h285, h287, h288] <;> rfl
                          obtain ⟨x13, h290, h291, h⟩ := F_get h
                          have h293 := get_lt h290 h291
                          have h292 := map_get Frame.row h291
                          try simp (disch := first | assumption | (simp; done) | omega | (simp; omega)) only [push_cast, reduceCtorEq, Nat.reduceEqDiff, Nat.reduceAdd, Nat.reduceSub, Nat.reduceMul, Nat.reduceLeDiff, Nat.reduceLT, Int.reduceEq, Int.reduceNe, Int.reduceLT, Int.reduceLE, Int.reduceGT, Int.reduceGE, Int.reduceBEq, Int.reduceBNe, ↓reduceIte] at h292
                          try simp (disch := first | assumption | (simp; done) | omega | (simp; omega)) only [push_cast, reduceCtorEq, Nat.reduceEqDiff, Nat.reduceAdd, Nat.reduceSub, Nat.reduceMul, Nat.reduceLeDiff, Nat.reduceLT, Int.reduceEq, Int.reduceNe, Int.reduceLT, Int.reduceLE, Int.reduceGT, Int.reduceGE, Int.reduceBEq, Int.reduceBNe, ↓reduceIte] at h293
                          obtain ⟨v14, h294, h⟩ := F_bd h
                          simp (config := { maxSteps := 1000000 }) (disch := first | assumption | (simp; done) | omega | (simp; omega)) only [push_cast, reduceCtorEq, Nat.reduceEqDiff, Nat.reduceAdd, Nat.reduceSub, Nat.reduceMul, Nat.reduceLeDiff, Nat.reduceLT, Int.reduceEq, Int.reduceNe, Int.reduceLT, Int.reduceLE, Int.reduceGT, Int.reduceGE, Int.reduceBEq, Int.reduceBNe, ↓reduceIte, h259, h260, h261, h262, h264, h265, h266, h267, h269, h270, h271, h278, h279, h280, h281, h282, h283, h284, h285, h287, h288, h290, h292, h293]
                          refine call_new (by rfl) (c23 N _ _ _ h294) ?_ rfl ?_
                          · simp (config := { maxSteps := 1000000 }) (disch := first | assumption | (simp; done) | omega | (simp; omega)) only [push_cast, reduceCtorEq, Nat.reduceEqDiff, Nat.reduceAdd, Nat.reduceSub, Nat.reduceMul, Nat.reduceLeDiff, Nat.reduceLT, Int.reduceEq, Int.reduceNe, Int.reduceLT, Int.reduceLE, Int.reduceGT, Int.reduceGE, Int.reduceBEq, Int.reduceBNe, ↓reduceIte, h259, h260, h261, h262, h264, h265, h266, h267, h269, h270, h271, h278, h279, h280, h281, h282, h283, h284, h285, h287, h288, h290, h292, h293] <;> rfl
                          rcases F_if h with ⟨h295, h⟩ | ⟨h295, h⟩
                          · try simp (disch := first | assumption | (simp; done) | omega | (simp; omega)) only [push_cast, reduceCtorEq, Nat.reduceEqDiff, Nat.reduceAdd, Nat.reduceSub, Nat.reduceMul, Nat.reduceLeDiff, Nat.reduceLT, Int.reduceEq, Int.reduceNe, Int.reduceLT, Int.reduceLE, Int.reduceGT, Int.reduceGE, Int.reduceBEq, Int.reduceBNe, ↓reduceIte] at h295
                            obtain ⟨v15, h296, h⟩ := F_bd h
                            simp (config := { maxSteps := 1000000 }) (disch := first | assumption | (simp; done) | omega | (simp; omega)) only [push_cast, reduceCtorEq, Nat.reduceEqDiff, Nat.reduceAdd, Nat.reduceSub, Nat.reduceMul, Nat.reduceLeDiff, Nat.reduceLT, Int.reduceEq, Int.reduceNe, Int.reduceLT, Int.reduceLE, Int.reduceGT, Int.reduceGE, Int.reduceBEq, Int.reduceBNe, ↓reduceIte, h259, h260, h261, h262, h264, h265, h266, h267, h269, h270, h271, h278, h279, h280, h281, h282, h283, h284, h285, h287, h288, h290, h292, h293, h295]
                            refine call_flat (by rfl) (c21 N _ _ _ h296) ?_ rfl ?_
                            · simp (config := { maxSteps := 1000000 }) (disch := first | assumption | (simp; done) | omega | (simp; omega)) only [push_cast, reduceCtorEq, Nat.reduceEqDiff, Nat.reduceAdd, Nat.reduceSub, Nat.reduceMul, Nat.reduceLeDiff, Nat.reduceLT, Int.reduceEq, Int.reduceNe, Int.reduceLT, Int.reduceLE, Int.reduceGT, Int.reduceGE, Int.reduceBEq, Int.reduceBNe, ↓reduceIte, h259, h260, h261, h262, h264, h265, h266, h267, h269, h270, h271, h278, h279, h280, h281, h282, h283, h284, h285, h287, h288, h290, h292, h293, h295] <;> rfl
                            rcases F_if h with ⟨h297, h⟩ | ⟨h297, h⟩
                            · try simp (disch := first | assumption | (simp; done) | omega | (simp; omega)) only [push_cast, reduceCtorEq, Nat.reduceEqDiff, Nat.reduceAdd, Nat.reduceSub, Nat.reduceMul, Nat.reduceLeDiff, Nat.reduceLT, Int.reduceEq, Int.reduceNe, Int.reduceLT, Int.reduceLE, Int.reduceGT, Int.reduceGE, Int.reduceBEq, Int.reduceBNe, ↓reduceIte] at h297
                              rcases F_if h with ⟨h298, h⟩ | ⟨h298, h⟩
                              · try simp (disch := first | assumption | (simp; done) | omega | (simp; omega)) only [push_cast, reduceCtorEq, Nat.reduceEqDiff, Nat.reduceAdd, Nat.reduceSub, Nat.reduceMul, Nat.reduceLeDiff, Nat.reduceLT, Int.reduceEq, Int.reduceNe, Int.reduceLT, Int.reduceLE, Int.reduceGT, Int.reduceGE, Int.reduceBEq, Int.reduceBNe, ↓reduceIte] at h298
                                rcases F_if h with ⟨h299, h⟩ | ⟨h299, h⟩
                                · try simp (disch := first | assumption | (simp; done) | omega | (simp; omega)) only [push_cast, reduceCtorEq, Nat.reduceEqDiff, Nat.reduceAdd, Nat.reduceSub, Nat.reduceMul, Nat.reduceLeDiff, Nat.reduceLT, Int.reduceEq, Int.reduceNe, Int.reduceLT, Int.reduceLE, Int.reduceGT, Int.reduceGE, Int.reduceBEq, Int.reduceBNe, ↓reduceIte] at h299
                                  obtain ⟨v16, h300, h⟩ := F_bd h
                                  simp (config := { maxSteps := 1000000 }) (disch := first | assumption | (simp; done) | omega | (simp; omega)) only [push_cast, reduceCtorEq, Nat.reduceEqDiff, Nat.reduceAdd, Nat.reduceSub, Nat.reduceMul, Nat.reduceLeDiff, Nat.reduceLT, Int.reduceEq, Int.reduceNe, Int.reduceLT, Int.reduceLE, Int.reduceGT, Int.reduceGE, Int.reduceBEq, Int.reduceBNe, ↓reduceIte, h259, h260, h261, h262, h264, h265, h266, h267, h269, h270, h271, h278, h279, h280, h281, h282, h283, h284, h285, h287, h288, h290, h292, h293, h295, h297, h298, h299]
                                  refine call_flat (by rfl) (c21 N _ _ _ h300) ?_ rfl ?_
                                  · simp (config := { maxSteps := 1000000 }) (disch := first | assumption | (simp; done) | omega | (simp; omega)) only [push_cast, reduceCtorEq, Nat.reduceEqDiff, Nat.reduceAdd, Nat.reduceSub, Nat.reduceMul, Nat.reduceLeDiff, Nat.reduceLT, Int.reduceEq, Int.reduceNe, Int.reduceLT, Int.reduceLE, Int.reduceGT, Int.reduceGE, Int.reduceBEq, Int.reduceBNe, ↓reduceIte, h259, h260, h261, h262, h264, h265, h266, h267, h269, h270, h271, h278, h279, h280, h281, h282, h283, h284, h285, h287, h288, h290, h292, h293, h295, h297, h298, h299] <;> rfl
                                  rcases F_if h with ⟨h301, h⟩ | ⟨h301, h⟩
                                  · try simp (disch := first | assumption | (simp; done) | omega | (simp; omega)) only [push_cast, reduceCtorEq, Nat.reduceEqDiff, Nat.reduceAdd, Nat.reduceSub, Nat.reduceMul, Nat.reduceLeDiff, Nat.reduceLT, Int.reduceEq, Int.reduceNe, Int.reduceLT, Int.reduceLE, Int.reduceGT, Int.reduceGE, Int.reduceBEq, Int.reduceBNe, ↓reduceIte] at h301
                                    rcases F_if h with ⟨h302, h⟩ | ⟨h302, h⟩
                                    · try simp (disch := first | assumption | (simp; done) | omega | (simp; omega)) only [push_cast, reduceCtorEq, Nat.reduceEqDiff, Nat.reduceAdd, Nat.reduceSub, Nat.reduceMul, Nat.reduceLeDiff, Nat.reduceLT, Int.reduceEq, Int.reduceNe, Int.reduceLT, Int.reduceLE, Int.reduceGT, Int.reduceGE, Int.reduceBEq, Int.reduceBNe, ↓reduceIte] at h302
                                      rcases F_if h with ⟨h303, h⟩ | ⟨h303, h⟩
                                      · try simp (disch := first | assumption | (simp; done) | omega | (simp; omega)) only [push_cast, reduceCtorEq, Nat.reduceEqDiff, Nat.reduceAdd, Nat.reduceSub, Nat.reduceMul, Nat.reduceLeDiff, Nat.reduceLT, Int.reduceEq, Int.reduceNe, Int.reduceLT, Int.reduceLE, Int.reduceGT, Int.reduceGE, Int.reduceBEq, Int.reduceBNe, ↓reduceIte] at h303
                                        rcases F_if h with ⟨h304, h⟩ | ⟨h304, h⟩
                                        · try simp (disch := first | assumption | (simp; done) | omega | (simp; omega)) only [push_cast, reduceCtorEq, Nat.reduceEqDiff, Nat.reduceAdd, Nat.reduceSub, Nat.reduceMul, Nat.reduceLeDiff, Nat.reduceLT, Int.reduceEq, Int.reduceNe, Int.reduceLT, Int.reduceLE, Int.reduceGT, Int.reduceGE, Int.reduceBEq, Int.reduceBNe, ↓reduceIte] at h304
                                          rcases F_if h with ⟨h305, h⟩ | ⟨h305, h⟩
                                          · try simp (disch := first | assumption | (simp; done) | omega | (simp; omega)) only [push_cast, reduceCtorEq, Nat.reduceEqDiff, Nat.reduceAdd, Nat.reduceSub, Nat.reduceMul, Nat.reduceLeDiff, Nat.reduceLT, Int.reduceEq, Int.reduceNe, Int.reduceLT, Int.reduceLE, Int.reduceGT, Int.reduceGE, Int.reduceBEq, Int.reduceBNe, ↓reduceIte] at h305
                                            obtain ⟨v17, h306, h⟩ := F_bd h
                                            simp (config := { maxSteps := 1000000 }) (disch := first | assumption | (simp; done) | omega | (simp; omega)) only [push_cast, reduceCtorEq, Nat.reduceEqDiff, Nat.reduceAdd, Nat.reduceSub, Nat.reduceMul, Nat.reduceLeDiff, Nat.reduceLT, Int.reduceEq, Int.reduceNe, Int.reduceLT, Int.reduceLE, Int.reduceGT, Int.reduceGE, Int.reduceBEq, Int.reduceBNe, ↓reduceIte, h259, h260, h261, h262, h264, h265, h266, h267, h269, h270, h271, h278, h279, h280, h281, h282, h283, h284, h285, h287, h288, h290, h292, h293, h295, h297, h298, h299, h301, h302, h303, h304, h305]
                                            refine call_flat (by rfl) (c21 N _ _ _ h306) ?_ rfl ?_
                                            · simp (config := { maxSteps := 1000000 }) (disch := first | assumption | (simp; done) | omega | (simp; omega)) only [push_cast, reduceCtorEq, Nat.reduceEqDiff, Nat.reduceAdd, Nat.reduceSub, Nat.reduceMul, Nat.reduceLeDiff, Nat.reduceLT, Int.reduceEq, Int.reduceNe, Int.reduceLT, Int.reduceLE, Int.reduceGT, Int.reduceGE, Int.reduceBEq, Int.reduceBNe, ↓reduceIte, h259, h260, h261, h262, h264, h265, h266, h267, h269, h270, h271, h278, h279, h280, h281, h282, h283, h284, h285, h287, h288, h290, h292, h293, h295, h297, h298, h299, h301, h302, h303, h304, h305] <;> rfl
                                            rcases F_if h with ⟨h307, h⟩ | ⟨h307, h⟩
                                            · try simp (disch := first | assumption | (simp; done) | omega | (simp; omega)) only [push_cast, reduceCtorEq, Nat.reduceEqDiff, Nat.reduceAdd, Nat.reduceSub, Nat.reduceMul, Nat.reduceLeDiff, Nat.reduceLT, Int.reduceEq, Int.reduceNe, Int.reduceLT, Int.reduceLE, Int.reduceGT, Int.reduceGE, Int.reduceBEq, Int.reduceBNe, ↓reduceIte] at h307
                                              obtain rfl := Option.some.inj h
                                              simp (config := { maxSteps := 1000000 }) (disch := first | assumption | (simp; done) | omega | (simp; omega)) only [push_cast, reduceCtorEq, Nat.reduceEqDiff, Nat.reduceAdd, Nat.reduceSub, Nat.reduceMul, Nat.reduceLeDiff, Nat.reduceLT, Int.reduceEq, Int.reduceNe, Int.reduceLT, Int.reduceLE, Int.reduceGT, Int.reduceGE, Int.reduceBEq, Int.reduceBNe, ↓reduceIte, h259, h260, h261, h262, h264, h265, h266, h267, h269, h270, h271, h278, h279, h280, h281, h282, h283, h284, h285, h287, h288, h290, h292, h293, h295, h297, h298, h299, h301, h302, h303, h304, h305, h307]
                                              refine e_ret (.inr rfl) ?_
                                              simp (config := { maxSteps := 1000000 }) (disch := first | assumption | (simp; done) | omega | (simp; omega)) only [push_cast, reduceCtorEq, Nat.reduceEqDiff, Nat.reduceAdd, Nat.reduceSub, Nat.reduceMul, Nat.reduceLeDiff, Nat.reduceLT, Int.reduceEq, Int.reduceNe, Int.reduceLT, Int.reduceLE, Int.reduceGT, Int.reduceGE, Int.reduceBEq, Int.reduceBNe, ↓reduceIte, aret, aresults, aresult, h259, h260, h261, h262, h264, h265, h266, h267, h269, h270, h271, h278, h279, h280, h281, h282, h283, h284, h285, h287, h288, h290, h292, h293, h295, h297, h298, h299, h301, h302, h303, h304, h305, h307]
                                              refine ⟨_, rfl, ?_⟩
                                              first | (simp (config := { maxSteps := 1000000 }) (disch := first | assumption | (simp; done) | omega | (simp; omega)) only [push_cast, reduceCtorEq, Nat.reduceEqDiff, Nat.reduceAdd, Nat.reduceSub, Nat.reduceMul, Nat.reduceLeDiff, Nat.reduceLT, Int.reduceEq, Int.reduceNe, Int.reduceLT, Int.reduceLE, Int.reduceGT, Int.reduceGE, Int.reduceBEq, Int.reduceBNe, ↓reduceIte, h259, h260, h261, h262, h264, h265, h266, h267, h269, h270, h271, h278, h279, h280, h281, h282, h283, h284, h285, h287, h288, h290, h292, h293, h295, h297, h298, h299, h301, h302, h303, h304, h305, h307] <;> rfl) | rfl
                                            · try simp (disch := first | assumption | (simp; done) | omega | (simp; omega)) only [push_cast, reduceCtorEq, Nat.reduceEqDiff, Nat.reduceAdd, Nat.reduceSub, Nat.reduceMul, Nat.reduceLeDiff, Nat.reduceLT, Int.reduceEq, Int.reduceNe, Int.reduceLT, Int.reduceLE, Int.reduceGT, Int.reduceGE, Int.reduceBEq, Int.reduceBNe, ↓reduceIte] at h307
                                              obtain rfl := Option.some.inj h
                                              simp (config := { maxSteps := 1000000 }) (disch := first | assumption | (simp; done) | omega | (simp; omega)) only [push_cast, reduceCtorEq, Nat.reduceEqDiff, Nat.reduceAdd, Nat.reduceSub, Nat.reduceMul, Nat.reduceLeDiff, Nat.reduceLT, Int.reduceEq, Int.reduceNe, Int.reduceLT, Int.reduceLE, Int.reduceGT, Int.reduceGE, Int.reduceBEq, Int.reduceBNe, ↓reduceIte, h259, h260, h261, h262, h264, h265, h266, h267, h269, h270, h271, h278, h279, h280, h281, h282, h283, h284, h285, h287, h288, h290, h292, h293, h295, h297, h298, h299, h301, h302, h303, h304, h305, h307]
                                              refine e_ret (.inr rfl) ?_
                                              simp (config := { maxSteps := 1000000 }) (disch := first | assumption | (simp; done) | omega | (simp; omega)) only [push_cast, reduceCtorEq, Nat.reduceEqDiff, Nat.reduceAdd, Nat.reduceSub, Nat.reduceMul, Nat.reduceLeDiff, Nat.reduceLT, Int.reduceEq, Int.reduceNe, Int.reduceLT, Int.reduceLE, Int.reduceGT, Int.reduceGE, Int.reduceBEq, Int.reduceBNe, ↓reduceIte, aret, aresults, aresult, h259, h260, h261, h262, h264, h265, h266, h267, h269, h270, h271, h278, h279, h280, h281, h282, h283, h284, h285, h287, h288, h290, h292, h293, h295, h297, h298, h299, h301, h302, h303, h304, h305, h307]
                                              refine ⟨_, rfl, ?_⟩
                                              first | (simp (config := { maxSteps := 1000000 }) (disch := first | assumption | (simp; done) | omega | (simp; omega)) only [push_cast, reduceCtorEq, Nat.reduceEqDiff, Nat.reduceAdd, Nat.reduceSub, Nat.reduceMul, Nat.reduceLeDiff, Nat.reduceLT, Int.reduceEq, Int.reduceNe, Int.reduceLT, Int.reduceLE, Int.reduceGT, Int.reduceGE, Int.reduceBEq, Int.reduceBNe, ↓reduceIte, h259, h260, h261, h262, h264, h265, h266, h267, h269, h270, h271, h278, h279, h280, h281, h282, h283, h284, h285, h287, h288, h290, h292, h293, h295, h297, h298, h299, h301, h302, h303, h304, h305, h307] <;> rfl) | rfl
                                          · try simp (disch := first | assumption | (simp; done) | omega | (simp; omega)) only [push_cast, reduceCtorEq, Nat.reduceEqDiff, Nat.reduceAdd, Nat.reduceSub, Nat.reduceMul, Nat.reduceLeDiff, Nat.reduceLT, Int.reduceEq, Int.reduceNe, Int.reduceLT, Int.reduceLE, Int.reduceGT, Int.reduceGE, Int.reduceBEq, Int.reduceBNe, ↓reduceIte] at h305
                                            obtain rfl := Option.some.inj h
                                            simp (config := { maxSteps := 1000000 }) (disch := first | assumption | (simp; done) | omega | (simp; omega)) only [push_cast, reduceCtorEq, Nat.reduceEqDiff, Nat.reduceAdd, Nat.reduceSub, Nat.reduceMul, Nat.reduceLeDiff, Nat.reduceLT, Int.reduceEq, Int.reduceNe, Int.reduceLT, Int.reduceLE, Int.reduceGT, Int.reduceGE, Int.reduceBEq, Int.reduceBNe, ↓reduceIte, h259, h260, h261, h262, h264, h265, h266, h267, h269, h270, h271, h278, h279, h280, h281, h282, h283, h284, h285, h287, h288, h290, h292, h293, h295, h297, h298, h299, h301, h302, h303, h304, h305]
                                            refine e_ret (.inr rfl) ?_
                                            simp (config := { maxSteps := 1000000 }) (disch := first | assumption | (simp; done) | omega | (simp; omega)) only [push_cast, reduceCtorEq, Nat.reduceEqDiff, Nat.reduceAdd, Nat.reduceSub, Nat.reduceMul, Nat.reduceLeDiff, Nat.reduceLT, Int.reduceEq, Int.reduceNe, Int.reduceLT, Int.reduceLE, Int.reduceGT, Int.reduceGE, Int.reduceBEq, Int.reduceBNe, ↓reduceIte, aret, aresults, aresult, h259, h260, h261, h262, h264, h265, h266, h267, h269, h270, h271, h278, h279, h280, h281, h282, h283, h284, h285, h287, h288, h290, h292, h293, h295, h297, h298, h299, h301, h302, h303, h304, h305]
                                            refine ⟨_, rfl, ?_⟩
                                            first | (simp (config := { maxSteps := 1000000 }) (disch := first | assumption | (simp; done) | omega | (simp; omega)) only [push_cast, reduceCtorEq, Nat.reduceEqDiff, Nat.reduceAdd, Nat.reduceSub, Nat.reduceMul, Nat.reduceLeDiff, Nat.reduceLT, Int.reduceEq, Int.reduceNe, Int.reduceLT, Int.reduceLE, Int.reduceGT, Int.reduceGE, Int.reduceBEq, Int.reduceBNe, ↓reduceIte, h259, h260, h261, h262, h264, h265, h266, h267, h269, h270, h271, h278, h279, h280, h281, h282, h283, h284, h285, h287, h288, h290, h292, h293, h295, h297, h298, h299, h301, h302, h303, h304, h305] <;> rfl) | rfl
                                        · try simp (disch := first | assumption | (simp; done) | omega | (simp; omega)) only [push_cast, reduceCtorEq, Nat.reduceEqDiff, Nat.reduceAdd, Nat.reduceSub, Nat.reduceMul, Nat.reduceLeDiff, Nat.reduceLT, Int.reduceEq, Int.reduceNe, Int.reduceLT, Int.reduceLE, Int.reduceGT, Int.reduceGE, Int.reduceBEq, Int.reduceBNe, ↓reduceIte] at h304
                                          obtain rfl := Option.some.inj h
                                          simp (config := { maxSteps := 1000000 }) (disch := first | assumption | (simp; done) | omega | (simp; omega)) only [push_cast, reduceCtorEq, Nat.reduceEqDiff, Nat.reduceAdd, Nat.reduceSub, Nat.reduceMul, Nat.reduceLeDiff, Nat.reduceLT, Int.reduceEq, Int.reduceNe, Int.reduceLT, Int.reduceLE, Int.reduceGT, Int.reduceGE, Int.reduceBEq, Int.reduceBNe, ↓reduceIte, h259, h260, h261, h262, h264, h265, h266, h267, h269, h270, h271, h278, h279, h280, h281, h282, h283, h284, h285, h287, h288, h290, h292, h293, h295, h297, h298, h299, h301, h302, h303, h304]
                                          refine e_ret (.inr rfl) ?_
                                          simp (config := { maxSteps := 1000000 }) (disch := first | assumption | (simp; done) | omega | (simp; omega)) only [push_cast, reduceCtorEq, Nat.reduceEqDiff, Nat.reduceAdd, Nat.reduceSub, Nat.reduceMul, Nat.reduceLeDiff, Nat.reduceLT, Int.reduceEq, Int.reduceNe, Int.reduceLT, Int.reduceLE, Int.reduceGT, Int.reduceGE, Int.reduceBEq, Int.reduceBNe, ↓reduceIte, aret, aresults, aresult, h259, h260, h261, h262, h264, h265, h266, h267, h269, h270, h271, h278, h279, h280, h281, h282, h283, h284, h285, h287, h288, h290, h292, h293, h295, h297, h298, h299, h301, h302, h303, h304]
                                          refine ⟨_, rfl, ?_⟩
                                          first | (simp (config := { maxSteps := 1000000 }) (disch := first | assumption | (simp; done) | omega | (simp; omega)) only [push_cast, reduceCtorEq, Nat.reduceEqDiff, Nat.reduceAdd, Nat.reduceSub, Nat.reduceMul, Nat.reduceLeDiff, Nat.reduceLT, Int.reduceEq, Int.reduceNe, Int.reduceLT, Int.reduceLE, Int.reduceGT, Int.reduceGE, Int.reduceBEq, Int.reduceBNe, ↓reduceIte, h259, h260, h261, h262, h264, h265, h266, h267, h269, h270, h271, h278, h279, h280, h281, h282, h283, h284, h285, h287, h288, h290, h292, h293, h295, h297, h298, h299, h301, h302, h303, h304] <;> rfl) | rfl
                                      · try simp (disch := first | assumption | (simp; done) | omega | (simp; omega)) only [push_cast, reduceCtorEq, Nat.reduceEqDiff, Nat.reduceAdd, Nat.reduceSub, Nat.reduceMul, Nat.reduceLeDiff, Nat.reduceLT, Int.reduceEq, Int.reduceNe, Int.reduceLT, Int.reduceLE, Int.reduceGT, Int.reduceGE, Int.reduceBEq, Int.reduceBNe, ↓reduceIte] at h303
                                        obtain rfl := Option.some.inj h
                                        simp (config := { maxSteps := 1000000 }) (disch := first | assumption | (simp; done) | omega | (simp; omega)) only [push_cast, reduceCtorEq, Nat.reduceEqDiff, Nat.reduceAdd, Nat.reduceSub, Nat.reduceMul, Nat.reduceLeDiff, Nat.reduceLT, Int.reduceEq, Int.reduceNe, Int.reduceLT, Int.reduceLE, Int.reduceGT, Int.reduceGE, Int.reduceBEq, Int.reduceBNe, ↓reduceIte, h259, h260, h261, h262, h264, h265, h266, h267, h269, h270, h271, h278, h279, h280, h281, h282, h283, h284, h285, h287, h288, h290, h292, h293, h295, h297, h298, h299, h301, h302, h303]
                                        refine e_ret (.inr rfl) ?_
                                        simp (config := { maxSteps := 1000000 }) (disch := first | assumption | (simp; done) | omega | (simp; omega)) only [push_cast, reduceCtorEq, Nat.reduceEqDiff, Nat.reduceAdd, Nat.reduceSub, Nat.reduceMul, Nat.reduceLeDiff, Nat.reduceLT, Int.reduceEq, Int.reduceNe, Int.reduceLT, Int.reduceLE, Int.reduceGT, Int.reduceGE, Int.reduceBEq, Int.reduceBNe, ↓reduceIte, aret, aresults, aresult, h259, h260, h261, h262, h264, h265, h266, h267, h269, h270, h271, h278, h279, h280, h281, h282, h283, h284, h285, h287, h288, h290, h292, h293, h295, h297, h298, h299, h301, h302, h303]
                                        refine ⟨_, rfl, ?_⟩
                                        first | (simp (config := { maxSteps := 1000000 }) (disch := first | assumption | (simp; done) | omega | (simp; omega)) only [push_cast, reduceCtorEq, Nat.reduceEqDiff, Nat.reduceAdd, Nat.reduceSub, Nat.reduceMul, Nat.reduceLeDiff, Nat.reduceLT, Int.reduceEq, Int.reduceNe, Int.reduceLT, Int.reduceLE, Int.reduceGT, Int.reduceGE, Int.reduceBEq, Int.reduceBNe, ↓reduceIte, h259, h260, h261, h262, h264, h265, h266, h267, h269, h270, h271, h278, h279, h280, h281, h282, h283, h284, h285, h287, h288, h290, h292, h293, h295, h297, h298, h299, h301, h302, h303] <;> rfl) | rfl
                                    · try simp (disch := first | assumption | (simp; done) | omega | (simp; omega)) only [push_cast, reduceCtorEq, Nat.reduceEqDiff, Nat.reduceAdd, Nat.reduceSub, Nat.reduceMul, Nat.reduceLeDiff, Nat.reduceLT, Int.reduceEq, Int.reduceNe, Int.reduceLT, Int.reduceLE, Int.reduceGT, Int.reduceGE, Int.reduceBEq, Int.reduceBNe, ↓reduceIte] at h302
                                      obtain rfl := Option.some.inj h
                                      simp (config := { maxSteps := 1000000 }) (disch := first | assumption | (simp; done) | omega | (simp; omega)) only [push_cast, reduceCtorEq, Nat.reduceEqDiff, Nat.reduceAdd, Nat.reduceSub, Nat.reduceMul, Nat.reduceLeDiff, Nat.reduceLT, Int.reduceEq, Int.reduceNe, Int.reduceLT, Int.reduceLE, Int.reduceGT, Int.reduceGE, Int.reduceBEq, Int.reduceBNe, ↓reduceIte, h259, h260, h261, h262, h264, h265, h266, h267, h269, h270, h271, h278, h279, h280, h281, h282, h283, h284, h285, h287, h288, h290, h292, h293, h295, h297, h298, h299, h301, h302]
                                      refine e_ret (.inr rfl) ?_
                                      simp (config := { maxSteps := 1000000 }) (disch := first | assumption | (simp; done) | omega | (simp; omega)) only [push_cast, reduceCtorEq, Nat.reduceEqDiff, Nat.reduceAdd, Nat.reduceSub, Nat.reduceMul, Nat.reduceLeDiff, Nat.reduceLT, Int.reduceEq, Int.reduceNe, Int.reduceLT, Int.reduceLE, Int.reduceGT, Int.reduceGE, Int.reduceBEq, Int.reduceBNe, ↓reduceIte, aret, aresults, aresult, h259, h260, h261, h262, h264, h265, h266, h267, h269, h270, h271, h278, h279, h280, h281, h282, h283, h284, h285, h287, h288, h290, h292, h293, h295, h297, h298, h299, h301, h302]
                                      refine ⟨_, rfl, ?_⟩
                                      first | (simp (config := { maxSteps := 1000000 }) (disch := first | assumption | (simp; done) | omega | (simp; omega)) only [push_cast, reduceCtorEq, Nat.reduceEqDiff, Nat.reduceAdd, Nat.reduceSub, Nat.reduceMul, Nat.reduceLeDiff, Nat.reduceLT, Int.reduceEq, Int.reduceNe, Int.reduceLT, Int.reduceLE, Int.reduceGT, Int.reduceGE, Int.reduceBEq, Int.reduceBNe, ↓reduceIte, h259, h260, h261, h262, h264, h265, h266, h267, h269, h270, h271, h278, h279, h280, h281, h282, h283, h284, h285, h287, h288, h290, h292, h293, h295, h297, h298, h299, h301, h302] <;> rfl) | rfl
                                  · try simp (disch := first | assumption | (simp; done) | omega | (simp; omega)) only [push_cast, reduceCtorEq, Nat.reduceEqDiff, Nat.reduceAdd, Nat.reduceSub, Nat.reduceMul, Nat.reduceLeDiff, Nat.reduceLT, Int.reduceEq, Int.reduceNe, Int.reduceLT, Int.reduceLE, Int.reduceGT, Int.reduceGE, Int.reduceBEq, Int.reduceBNe, ↓reduceIte] at h301
                                    obtain rfl := Option.some.inj h
                                    simp (config := { maxSteps := 1000000 }) (disch := first | assumption | (simp; done) | omega | (simp; omega)) only [push_cast, reduceCtorEq, Nat.reduceEqDiff, Nat.reduceAdd, Nat.reduceSub, Nat.reduceMul, Nat.reduceLeDiff, Nat.reduceLT, Int.reduceEq, Int.reduceNe, Int.reduceLT, Int.reduceLE, Int.reduceGT, Int.reduceGE, Int.reduceBEq, Int.reduceBNe, ↓reduceIte, h259, h260, h261, h262, h264, h265, h266, h267, h269, h270, h271, h278, h279, h280, h281, h282, h283, h284, h285, h287, h288, h290, h292, h293, h295, h297, h298, h299, h301]
                                    refine e_ret (.inr rfl) ?_
                                    simp (config := { maxSteps := 1000000 }) (disch := first | assumption | (simp; done) | omega | (simp; omega)) only [push_cast, reduceCtorEq, Nat.reduceEqDiff, Nat.reduceAdd, Nat.reduceSub, Nat.reduceMul, Nat.reduceLeDiff, Nat.reduceLT, Int.reduceEq, Int.reduceNe, Int.reduceLT, Int.reduceLE, Int.reduceGT, Int.reduceGE, Int.reduceBEq, Int.reduceBNe, ↓reduceIte, aret, aresults, aresult, h259, h260, h261, h262, h264, h265, h266, h267, h269, h270, h271, h278, h279, h280, h281, h282, h283, h284, h285, h287, h288, h290, h292, h293, h295, h297, h298, h299, h301]
                                    refine ⟨_, rfl, ?_⟩
                                    first | (simp (config := { maxSteps := 1000000 }) (disch := first | assumption | (simp; done) | omega | (simp; omega)) only [push_cast, reduceCtorEq, Nat.reduceEqDiff, Nat.reduceAdd, Nat.reduceSub, Nat.reduceMul, Nat.reduceLeDiff, Nat.reduceLT, Int.reduceEq, Int.reduceNe, Int.reduceLT, Int.reduceLE, Int.reduceGT, Int.reduceGE, Int.reduceBEq, Int.reduceBNe, ↓reduceIte, h259, h260, h261, h262, h264, h265, h266, h267, h269, h270, h271, h278, h279, h280, h281, h282, h283, h284, h285, h287, h288, h290, h292, h293, h295, h297, h298, h299, h301] <;> rfl) | rfl
                                · try simp (disch := first | assumption | (simp; done) | omega | (simp; omega)) only [push_cast, reduceCtorEq, Nat.reduceEqDiff, Nat.reduceAdd, Nat.reduceSub, Nat.reduceMul, Nat.reduceLeDiff, Nat.reduceLT, Int.reduceEq, Int.reduceNe, Int.reduceLT, Int.reduceLE, Int.reduceGT, Int.reduceGE, Int.reduceBEq, Int.reduceBNe, ↓reduceIte] at h299
                                  obtain rfl := Option.some.inj h
                                  simp (config := { maxSteps := 1000000 }) (disch := first | assumption | (simp; done) | omega | (simp; omega)) only [push_cast, reduceCtorEq, Nat.reduceEqDiff, Nat.reduceAdd, Nat.reduceSub, Nat.reduceMul, Nat.reduceLeDiff, Nat.reduceLT, Int.reduceEq, Int.reduceNe, Int.reduceLT, Int.reduceLE, Int.reduceGT, Int.reduceGE, Int.reduceBEq, Int.reduceBNe, ↓reduceIte, h259, h260, h261, h262, h264, h265, h266, h267, h269, h270, h271, h278, h279, h280, h281, h282, h283, h284, h285, h287, h288, h290, h292, h293, h295, h297, h298, h299]
                                  refine e_ret (.inr rfl) ?_
                                  simp (config := { maxSteps := 1000000 }) (disch := first | assumption | (simp; done) | omega | (simp; omega)) only [push_cast, reduceCtorEq, Nat.reduceEqDiff, Nat.reduceAdd, Nat.reduceSub, Nat.reduceMul, Nat.reduceLeDiff, Nat.reduceLT, Int.reduceEq, Int.reduceNe, Int.reduceLT, Int.reduceLE, Int.reduceGT, Int.reduceGE, Int.reduceBEq, Int.reduceBNe, ↓reduceIte, aret, aresults, aresult, h259, h260, h261, h262, h264, h265, h266, h267, h269, h270, h271, h278, h279, h280, h281, h282, h283, h284, h285, h287, h288, h290, h292, h293, h295, h297, h298, h299]
                                  refine ⟨_, rfl, ?_⟩
                                  first | (simp (config := { maxSteps := 1000000 }) (disch := first | assumption | (simp; done) | omega | (simp; omega)) only [push_cast, reduceCtorEq, Nat.reduceEqDiff, Nat.reduceAdd, Nat.reduceSub, Nat.reduceMul, Nat.reduceLeDiff, Nat.reduceLT, Int.reduceEq, Int.reduceNe, Int.reduceLT, Int.reduceLE, Int.reduceGT, Int.reduceGE, Int.reduceBEq, Int.reduceBNe, ↓reduceIte, h259, h260, h261, h262, h264, h265, h266, h267, h269, h270, h271, h278, h279, h280, h281, h282, h283, h284, h285, h287, h288, h290, h292, h293, h295, h297, h298, h299] <;> rfl) | rfl
                              · try simp (disch := first | assumption | (simp; done) | omega | (simp; omega)) only [push_cast, reduceCtorEq, Nat.reduceEqDiff, Nat.reduceAdd, Nat.reduceSub, Nat.reduceMul, Nat.reduceLeDiff, Nat.reduceLT, Int.reduceEq, Int.reduceNe, Int.reduceLT, Int.reduceLE, Int.reduceGT, Int.reduceGE, Int.reduceBEq, Int.reduceBNe, ↓reduceIte] at h298
                                obtain rfl := Option.some.inj h
                                simp (config := { maxSteps := 1000000 }) (disch := first | assumption | (simp; done) | omega | (simp; omega)) only [push_cast, reduceCtorEq, Nat.reduceEqDiff, Nat.reduceAdd, Nat.reduceSub, Nat.reduceMul, Nat.reduceLeDiff, Nat.reduceLT, Int.reduceEq, Int.reduceNe, Int.reduceLT, Int.reduceLE, Int.reduceGT, Int.reduceGE, Int.reduceBEq, Int.reduceBNe, ↓reduceIte, h259, h260, h261, h262, h264, h265, h266, h267, h269, h270, h271, h278, h279, h280, h281, h282, h283, h284, h285, h287, h288, h290, h292, h293, h295, h297, h298]
                                refine e_ret (.inr rfl) ?_
                                simp (config := { maxSteps := 1000000 }) (disch := first | assumption | (simp; done) | omega | (simp; omega)) only [push_cast, reduceCtorEq, Nat.reduceEqDiff, Nat.reduceAdd, Nat.reduceSub, Nat.reduceMul, Nat.reduceLeDiff, Nat.reduceLT, Int.reduceEq, Int.reduceNe, Int.reduceLT, Int.reduceLE, Int.reduceGT, Int.reduceGE, Int.reduceBEq, Int.reduceBNe, ↓reduceIte, aret, aresults, aresult, h259, h260, h261, h262, h264, h265, h266, h267, h269, h270, h271, h278, h279, h280, h281, h282, h283, h284, h285, h287, h288, h290, h292, h293, h295, h297, h298]
                                refine ⟨_, rfl, ?_⟩
                                first | (simp (config := { maxSteps := 1000000 }) (disch := first | assumption | (simp; done) | omega | (simp; omega)) only [push_cast, reduceCtorEq, Nat.reduceEqDiff, Nat.reduceAdd, Nat.reduceSub, Nat.reduceMul, Nat.reduceLeDiff, Nat.reduceLT, Int.reduceEq, Int.reduceNe, Int.reduceLT, Int.reduceLE, Int.reduceGT, Int.reduceGE, Int.reduceBEq, Int.reduceBNe, ↓reduceIte, h259, h260, h261, h262, h264, h265, h266, h267, h269, h270, h271, h278, h279, h280, h281, h282, h283, h284, h285, h287, h288, h290, h292, h293, h295, h297, h298] <;> rfl) | rfl
                            · try simp (disch := first | assumption | (simp; done) | omega | (simp; omega)) only [push_cast, reduceCtorEq, Nat.reduceEqDiff, Nat.reduceAdd, Nat.reduceSub, Nat.reduceMul, Nat.reduceLeDiff, Nat.reduceLT, Int.reduceEq, Int.reduceNe, Int.reduceLT, Int.reduceLE, Int.reduceGT, Int.reduceGE, Int.reduceBEq, Int.reduceBNe, ↓reduceIte] at h297
                              obtain rfl := Option.some.inj h
                              simp (config := { maxSteps := 1000000 }) (disch := first | assumption | (simp; done) | omega | (simp; omega)) only [push_cast, reduceCtorEq, Nat.reduceEqDiff, Nat.reduceAdd, Nat.reduceSub, Nat.reduceMul, Nat.reduceLeDiff, Nat.reduceLT, Int.reduceEq, Int.reduceNe, Int.reduceLT, Int.reduceLE, Int.reduceGT, Int.reduceGE, Int.reduceBEq, Int.reduceBNe, ↓reduceIte, h259, h260, h261, h262, h264, h265, h266, h267, h269, h270, h271, h278, h279, h280, h281, h282, h283, h284, h285, h287, h288, h290, h292, h293, h295, h297]
                              refine e_ret (.inr rfl) ?_
                              simp (config := { maxSteps := 1000000 }) (disch := first | assumption | (simp; done) | omega | (simp; omega)) only [push_cast, reduceCtorEq, Nat.reduceEqDiff, Nat.reduceAdd, Nat.reduceSub, Nat.reduceMul, Nat.reduceLeDiff, Nat.reduceLT, Int.reduceEq, Int.reduceNe, Int.reduceLT, Int.reduceLE, Int.reduceGT, Int.reduceGE, Int.reduceBEq, Int.reduceBNe, ↓reduceIte, aret, aresults, aresult, h259, h260, h261, h262, h264, h265, h266, h267, h269, h270, h271, h278, h279, h280, h281, h282, h283, h284, h285, h287, h288, h290, h292, h293, h295, h297]
                              refine ⟨_, rfl, ?_⟩
                              first | (simp (config := { maxSteps := 1000000 }) (disch := first | assumption | (simp; done) | omega | (simp; omega)) only [push_cast, reduceCtorEq, Nat.reduceEqDiff, Nat.reduceAdd, Nat.reduceSub, Nat.reduceMul, Nat.reduceLeDiff, Nat.reduceLT, Int.reduceEq, Int.reduceNe, Int.reduceLT, Int.reduceLE, Int.reduceGT, Int.reduceGE, Int.reduceBEq, Int.reduceBNe, ↓reduceIte, h259, h260, h261, h262, h264, h265, h266, h267, h269, h270, h271, h278, h279, h280, h281, h282, h283, h284, h285, h287, h288, h290, h292, h293, h295, h297] <;> rfl) | rfl
                          · try simp (disch := first | assumption | (simp; done) | omega | (simp; omega)) only [push_cast, reduceCtorEq, Nat.reduceEqDiff, Nat.reduceAdd, Nat.reduceSub, Nat.reduceMul, Nat.reduceLeDiff, Nat.reduceLT, Int.reduceEq, Int.reduceNe, Int.reduceLT, Int.reduceLE, Int.reduceGT, Int.reduceGE, Int.reduceBEq, Int.reduceBNe, ↓reduceIte] at h295
                            obtain rfl := Option.some.inj h
                            simp (config := { maxSteps := 1000000 }) (disch := first | assumption | (simp; done) | omega | (simp; omega)) only [push_cast, reduceCtorEq, Nat.reduceEqDiff, Nat.reduceAdd, Nat.reduceSub, Nat.reduceMul, Nat.reduceLeDiff, Nat.reduceLT, Int.reduceEq, Int.reduceNe, Int.reduceLT, Int.reduceLE, Int.reduceGT, Int.reduceGE, Int.reduceBEq, Int.reduceBNe, ↓reduceIte, h259, h260, h261, h262, h264, h265, h266, h267, h269, h270, h271, h278, h279, h280, h281, h282, h283, h284, h285, h287, h288, h290, h292, h293, h295]
                            refine e_ret (.inr rfl) ?_
                            simp (config := { maxSteps := 1000000 }) (disch := first | assumption | (simp; done) | omega | (simp; omega)) only [push_cast, reduceCtorEq, Nat.reduceEqDiff, Nat.reduceAdd, Nat.reduceSub, Nat.reduceMul, Nat.reduceLeDiff, Nat.reduceLT, Int.reduceEq, Int.reduceNe, Int.reduceLT, Int.reduceLE, Int.reduceGT, Int.reduceGE, Int.reduceBEq, Int.reduceBNe, ↓reduceIte, aret, aresults, aresult, h259, h260, h261, h262, h264, h265, h266, h267, h269, h270, h271, h278, h279, h280, h281, h282, h283, h284, h285, h287, h288, h290, h292, h293, h295]
                            refine ⟨_, rfl, ?_⟩
                            first | (simp (config := { maxSteps := 1000000 }) (disch := first | assumption | (simp; done) | omega | (simp; omega)) only [push_cast, reduceCtorEq, Nat.reduceEqDiff, Nat.reduceAdd, Nat.reduceSub, Nat.reduceMul, Nat.reduceLeDiff, Nat.reduceLT, Int.reduceEq, Int.reduceNe, Int.reduceLT, Int.reduceLE, Int.reduceGT, Int.reduceGE, Int.reduceBEq, Int.reduceBNe, ↓reduceIte, h259, h260, h261, h262, h264, h265, h266, h267, h269, h270, h271, h278, h279, h280, h281, h282, h283, h284, h285, h287, h288, h290, h292, h293, h295] <;> rfl) | rfl
          · try simp (disch := first | assumption | (simp; done) | omega | (simp; omega)) only [push_cast, reduceCtorEq, Nat.reduceEqDiff, Nat.reduceAdd, Nat.reduceSub, Nat.reduceMul, Nat.reduceLeDiff, Nat.reduceLT, Int.reduceEq, Int.reduceNe, Int.reduceLT, Int.reduceLE, Int.reduceGT, Int.reduceGE, Int.reduceBEq, Int.reduceBNe, ↓reduceIte] at h271
            obtain rfl := Option.some.inj h
            simp (config := { maxSteps := 1000000 }) (disch := first | assumption | (simp; done) | omega | (simp; omega)) only [push_cast, reduceCtorEq, Nat.reduceEqDiff, Nat.reduceAdd, Nat.reduceSub, Nat.reduceMul, Nat.reduceLeDiff, Nat.reduceLT, Int.reduceEq, Int.reduceNe, Int.reduceLT, Int.reduceLE, Int.reduceGT, Int.reduceGE, Int.reduceBEq, Int.reduceBNe, ↓reduceIte, h259, h260, h261, h262, h264, h265, h266, h267, h269, h270, h271]
            refine e_ret (.inr rfl) ?_
            simp (config := { maxSteps := 1000000 }) (disch := first | assumption | (simp; done) | omega | (simp; omega)) only [push_cast, reduceCtorEq, Nat.reduceEqDiff, Nat.reduceAdd, Nat.reduceSub, Nat.reduceMul, Nat.reduceLeDiff, Nat.reduceLT, Int.reduceEq, Int.reduceNe, Int.reduceLT, Int.reduceLE, Int.reduceGT, Int.reduceGE, Int.reduceBEq, Int.reduceBNe, ↓reduceIte, aret, aresults, aresult, h259, h260, h261, h262, h264, h265, h266, h267, h269, h270, h271]
            refine ⟨_, rfl, ?_⟩
            first | (simp (config := { maxSteps := 1000000 }) (disch := first | assumption | (simp; done) | omega | (simp; omega)) only [push_cast, reduceCtorEq, Nat.reduceEqDiff, Nat.reduceAdd, Nat.reduceSub, Nat.reduceMul, Nat.reduceLeDiff, Nat.reduceLT, Int.reduceEq, Int.reduceNe, Int.reduceLT, Int.reduceLE, Int.reduceGT, Int.reduceGE, Int.reduceBEq, Int.reduceBNe, ↓reduceIte, h259, h260, h261, h262, h264, h265, h266, h267, h269, h270, h271] <;> rfl) | rfl
        · try simp (disch := first | assumption | (simp; done) | omega | (simp; omega)) only [push_cast, reduceCtorEq, Nat.reduceEqDiff, Nat.reduceAdd, Nat.reduceSub, Nat.reduceMul, Nat.reduceLeDiff, Nat.reduceLT, Int.reduceEq, Int.reduceNe, Int.reduceLT, Int.reduceLE, Int.reduceGT, Int.reduceGE, Int.reduceBEq, Int.reduceBNe, ↓reduceIte] at h266
          obtain rfl := Option.some.inj h
          simp (config := { maxSteps := 1000000 }) (disch := first | assumption | (simp; done) | omega | (simp; omega)) only [push_cast, reduceCtorEq, Nat.reduceEqDiff, Nat.reduceAdd, Nat.reduceSub, Nat.reduceMul, Nat.reduceLeDiff, Nat.reduceLT, Int.reduceEq, Int.reduceNe, Int.reduceLT, Int.reduceLE, Int.reduceGT, Int.reduceGE, Int.reduceBEq, Int.reduceBNe, ↓reduceIte, h259, h260, h261, h262, h264, h265, h266]
          refine e_ret (.inr rfl) ?_
          simp (config := { maxSteps := 1000000 }) (disch := first | assumption | (simp; done) | omega | (simp; omega)) only [push_cast, reduceCtorEq, Nat.reduceEqDiff, Nat.reduceAdd, Nat.reduceSub, Nat.reduceMul, Nat.reduceLeDiff, Nat.reduceLT, Int.reduceEq, Int.reduceNe, Int.reduceLT, Int.reduceLE, Int.reduceGT, Int.reduceGE, Int.reduceBEq, Int.reduceBNe, ↓reduceIte, aret, aresults, aresult, h259, h260, h261, h262, h264, h265, h266]
          refine ⟨_, rfl, ?_⟩
          first | (simp (config := { maxSteps := 1000000 }) (disch := first | assumption | (simp; done) | omega | (simp; omega)) only [push_cast, reduceCtorEq, Nat.reduceEqDiff, Nat.reduceAdd, Nat.reduceSub, Nat.reduceMul, Nat.reduceLeDiff, Nat.reduceLT, Int.reduceEq, Int.reduceNe, Int.reduceLT, Int.reduceLE, Int.reduceGT, Int.reduceGE, Int.reduceBEq, Int.reduceBNe, ↓reduceIte, h259, h260, h261, h262, h264, h265, h266] <;> rfl) | rfl
  · try simp (disch := first | assumption | (simp; done) | omega | (simp; omega)) only [push_cast, reduceCtorEq, Nat.reduceEqDiff, Nat.reduceAdd, Nat.reduceSub, Nat.reduceMul, Nat.reduceLeDiff, Nat.reduceLT, Int.reduceEq, Int.reduceNe, Int.reduceLT, Int.reduceLE, Int.reduceGT, Int.reduceGE, Int.reduceBEq, Int.reduceBNe, ↓reduceIte] at h259
    obtain rfl := Option.some.inj h
    simp (config := { maxSteps := 1000000 }) (disch := first | assumption | (simp; done) | omega | (simp; omega)) only [push_cast, reduceCtorEq, Nat.reduceEqDiff, Nat.reduceAdd, Nat.reduceSub, Nat.reduceMul, Nat.reduceLeDiff, Nat.reduceLT, Int.reduceEq, Int.reduceNe, Int.reduceLT, Int.reduceLE, Int.reduceGT, Int.reduceGE, Int.reduceBEq, Int.reduceBNe, ↓reduceIte, h259]
    refine e_ret (.inr rfl) ?_
    simp (config := { maxSteps := 1000000 }) (disch := first | assumption | (simp; done) | omega | (simp; omega)) only [push_cast, reduceCtorEq, Nat.reduceEqDiff, Nat.reduceAdd, Nat.reduceSub, Nat.reduceMul, Nat.reduceLeDiff, Nat.reduceLT, Int.reduceEq, Int.reduceNe, Int.reduceLT, Int.reduceLE, Int.reduceGT, Int.reduceGE, Int.reduceBEq, Int.reduceBNe, ↓reduceIte, aret, aresults, aresult, h259]
    refine ⟨_, rfl, ?_⟩
    first | (simp (config := { maxSteps := 1000000 }) (disch := first | assumption | (simp; done) | omega | (simp; omega)) only [push_cast, reduceCtorEq, Nat.reduceEqDiff, Nat.reduceAdd, Nat.reduceSub, Nat.reduceMul, Nat.reduceLeDiff, Nat.reduceLT, Int.reduceEq, Int.reduceNe, Int.reduceLT, Int.reduceLE, Int.reduceGT, Int.reduceGE, Int.reduceBEq, Int.reduceBNe, ↓reduceIte, h259] <;> rfl) | rfl

/-! ## 46 rivermark.rivermarklaw11.message -/
def f46g0 : List RO :=
  [⟨(.some 2), (.mv (.const (.string ⟨#[]⟩))), .none⟩]
def f46g1 : List RO :=
  [⟨(.some 3), (.mv (.tmp 0)), .none⟩,
   ⟨(.some 4), (.bin .rem (.tmp 3) (.const (.int .i64 26))), .none⟩,
   ⟨(.some 5), (.bin .add (.const (.int .i64 97)) (.tmp 4)), .none⟩,
   ⟨(.some 6), (.cvI .u8 (.tmp 5)), .none⟩,
   ⟨(.some 7), (.mv (.tmp 0)), .none⟩,
   ⟨(.some 8), (.bin .quo (.tmp 7) (.const (.int .i64 26))), .none⟩,
   ⟨(.some 9), (.bin .rem (.tmp 8) (.const (.int .i64 26))), .none⟩,
   ⟨(.some 10), (.bin .add (.const (.int .i64 97)) (.tmp 9)), .none⟩,
   ⟨(.some 11), (.cvI .u8 (.tmp 10)), .none⟩,
   ⟨(.some 12), (.bslice 1 [(.tmp 6), (.tmp 11)]), .none⟩,
   ⟨(.some 13), (.cvS (.tmp 12)), .none⟩,
   ⟨(.some 14), (.bin .add (.const (.string ⟨#[109]⟩)) (.tmp 13)), .none⟩,
   ⟨(.some 2), (.mv (.tmp 14)), .none⟩]
def f46c : RCode := (.seq (.reg .false f46g0) (.seq (.reg .false f46g1) .ret))
def f46r : List RRes := [(.tmp 2)]
attribute [push_cast] f46g0 f46g1
def F46 (N : Nat) (p0 : Int) : Option Str := ck .i64 (97 + (Int.tmod p0 26)) (ck .i64 (Int.tdiv p0 26) (ck .i64 (97 + (Int.tmod (Int.tdiv p0 26) 26)) (gd? (([109] : Str).length + (bytesI [(IntKind.wrap .u8 ((97 + (Int.tmod p0 26)))), (IntKind.wrap .u8 ((97 + (Int.tmod (Int.tdiv p0 26) 26))))]).length ≤ 9223372036854775807) (some ((([109] : Str) ++ (bytesI [(IntKind.wrap .u8 ((97 + (Int.tmod p0 26)))), (IntKind.wrap .u8 ((97 + (Int.tmod (Int.tdiv p0 26) 26))))])))))))
theorem c46 (N : Nat) (p0 : Int) (r : Str) (h : F46 N p0 = some r) : ACall Try.prog 46 [.D (.I .i64 p0)] [] (.D (.S r)) [] [] := by
  refine ACall.of_bodyW [] (fn := Try.f46) (rc := f46c) (rs := f46r) Try.func46 rfl rfl (by kernel_rfl) (by kernel_rfl) (by kernel_rfl) (by rw [Try.ntmps46]; simp) ?_
  unfold F46 at h
  unfold f46c f46r
  rw [entry_eq _ _]
  obtain ⟨h308, h⟩ := F_ck h
  try simp (disch := first | assumption | (simp; done) | omega | (simp; omega)) only [push_cast, reduceCtorEq, Nat.reduceEqDiff, Nat.reduceAdd, Nat.reduceSub, Nat.reduceMul, Nat.reduceLeDiff, Nat.reduceLT, Int.reduceEq, Int.reduceNe, Int.reduceLT, Int.reduceLE, Int.reduceGT, Int.reduceGE, Int.reduceBEq, Int.reduceBNe, ↓reduceIte] at h308
  obtain ⟨h309, h⟩ := F_ck h
  try simp (disch := first | assumption | (simp; done) | omega | (simp; omega)) only [push_cast, reduceCtorEq, Nat.reduceEqDiff, Nat.reduceAdd, Nat.reduceSub, Nat.reduceMul, Nat.reduceLeDiff, Nat.reduceLT, Int.reduceEq, Int.reduceNe, Int.reduceLT, Int.reduceLE, Int.reduceGT, Int.reduceGE, Int.reduceBEq, Int.reduceBNe, ↓reduceIte] at h309
  obtain ⟨h310, h⟩ := F_ck h
  try simp (disch := first | assumption | (simp; done) | omega | (simp; omega)) only [push_cast, reduceCtorEq, Nat.reduceEqDiff, Nat.reduceAdd, Nat.reduceSub, Nat.reduceMul, Nat.reduceLeDiff, Nat.reduceLT, Int.reduceEq, Int.reduceNe, Int.reduceLT, Int.reduceLE, Int.reduceGT, Int.reduceGE, Int.reduceBEq, Int.reduceBNe, ↓reduceIte] at h310
  obtain ⟨h311, h⟩ := F_gd h
  try simp (disch := first | assumption | (simp; done) | omega | (simp; omega)) only [push_cast, reduceCtorEq, Nat.reduceEqDiff, Nat.reduceAdd, Nat.reduceSub, Nat.reduceMul, Nat.reduceLeDiff, Nat.reduceLT, Int.reduceEq, Int.reduceNe, Int.reduceLT, Int.reduceLE, Int.reduceGT, Int.reduceGE, Int.reduceBEq, Int.reduceBNe, ↓reduceIte] at h311
  obtain rfl := Option.some.inj h
  simp (config := { maxSteps := 1000000 }) (disch := first | assumption | (simp; done) | omega | (simp; omega)) only [push_cast, reduceCtorEq, Nat.reduceEqDiff, Nat.reduceAdd, Nat.reduceSub, Nat.reduceMul, Nat.reduceLeDiff, Nat.reduceLT, Int.reduceEq, Int.reduceNe, Int.reduceLT, Int.reduceLE, Int.reduceGT, Int.reduceGE, Int.reduceBEq, Int.reduceBNe, ↓reduceIte, h308, h309, h310, h311]
  refine e_ret (.inr rfl) ?_
  simp (config := { maxSteps := 1000000 }) (disch := first | assumption | (simp; done) | omega | (simp; omega)) only [push_cast, reduceCtorEq, Nat.reduceEqDiff, Nat.reduceAdd, Nat.reduceSub, Nat.reduceMul, Nat.reduceLeDiff, Nat.reduceLT, Int.reduceEq, Int.reduceNe, Int.reduceLT, Int.reduceLE, Int.reduceGT, Int.reduceGE, Int.reduceBEq, Int.reduceBNe, ↓reduceIte, aret, aresults, aresult, h308, h309, h310, h311]
  refine ⟨_, rfl, ?_⟩
  first | (simp (config := { maxSteps := 1000000 }) (disch := first | assumption | (simp; done) | omega | (simp; omega)) only [push_cast, reduceCtorEq, Nat.reduceEqDiff, Nat.reduceAdd, Nat.reduceSub, Nat.reduceMul, Nat.reduceLeDiff, Nat.reduceLT, Int.reduceEq, Int.reduceNe, Int.reduceLT, Int.reduceLE, Int.reduceGT, Int.reduceGE, Int.reduceBEq, Int.reduceBNe, ↓reduceIte, h308, h309, h310, h311] <;> rfl) | rfl

/-! ## 47 rivermark.rivermarklaw11.summary -/
def f47g0 : List RO :=
  [⟨(.some 2), (.mv (.const (.string ⟨#[]⟩))), .none⟩]
def f47g1 : List RO :=
  [⟨(.some 3), (.mv (.tmp 0)), .none⟩,
   ⟨(.some 4), (.call (.func 46) [(.tmp 3)]), .none⟩,
   ⟨(.some 5), (.bin .add (.const (.string ⟨#[115]⟩)) (.tmp 4)), .none⟩,
   ⟨(.some 2), (.mv (.tmp 5)), .none⟩]
def f47c : RCode := (.seq (.reg .false f47g0) (.seq (.reg .false f47g1) .ret))
def f47r : List RRes := [(.tmp 2)]
attribute [push_cast] f47g0 f47g1
def F47 (N : Nat) (p0 : Int) : Option Str := bd? (F46 N p0) fun v1 => gd? (([115] : Str).length + v1.length ≤ 9223372036854775807) (some ((([115] : Str) ++ v1)))
theorem c47 (N : Nat) (p0 : Int) (r : Str) (h : F47 N p0 = some r) : ACall Try.prog 47 [.D (.I .i64 p0)] [] (.D (.S r)) [] [] := by
  refine ACall.of_bodyW [] (fn := Try.f47) (rc := f47c) (rs := f47r) Try.func47 rfl rfl (by kernel_rfl) (by kernel_rfl) (by kernel_rfl) (by rw [Try.ntmps47]; simp) ?_
  unfold F47 at h
  unfold f47c f47r
  rw [entry_eq _ _]
  obtain ⟨v1, h312, h⟩ := F_bd h
  simp (config := { maxSteps := 1000000 }) (disch := first | assumption | (simp; done) | omega | (simp; omega)) only [push_cast, reduceCtorEq, Nat.reduceEqDiff, Nat.reduceAdd, Nat.reduceSub, Nat.reduceMul, Nat.reduceLeDiff, Nat.reduceLT, Int.reduceEq, Int.reduceNe, Int.reduceLT, Int.reduceLE, Int.reduceGT, Int.reduceGE, Int.reduceBEq, Int.reduceBNe, ↓reduceIte]
  refine call_flat (by rfl) (c46 N _ _ h312) ?_ rfl ?_
  · simp (config := { maxSteps := 1000000 }) (disch := first | assumption | (simp; done) | omega | (simp; omega)) only [push_cast, reduceCtorEq, Nat.reduceEqDiff, Nat.reduceAdd, Nat.reduceSub, Nat.reduceMul, Nat.reduceLeDiff, Nat.reduceLT, Int.reduceEq, Int.reduceNe, Int.reduceLT, Int.reduceLE, Int.reduceGT, Int.reduceGE, Int.reduceBEq, Int.reduceBNe, ↓reduceIte] <;> rfl
  obtain ⟨h313, h⟩ := F_gd h
  try simp (disch := first | assumption | (simp; done) | omega | (simp; omega)) only [push_cast, reduceCtorEq, Nat.reduceEqDiff, Nat.reduceAdd, Nat.reduceSub, Nat.reduceMul, Nat.reduceLeDiff, Nat.reduceLT, Int.reduceEq, Int.reduceNe, Int.reduceLT, Int.reduceLE, Int.reduceGT, Int.reduceGE, Int.reduceBEq, Int.reduceBNe, ↓reduceIte] at h313
  obtain rfl := Option.some.inj h
  simp (config := { maxSteps := 1000000 }) (disch := first | assumption | (simp; done) | omega | (simp; omega)) only [push_cast, reduceCtorEq, Nat.reduceEqDiff, Nat.reduceAdd, Nat.reduceSub, Nat.reduceMul, Nat.reduceLeDiff, Nat.reduceLT, Int.reduceEq, Int.reduceNe, Int.reduceLT, Int.reduceLE, Int.reduceGT, Int.reduceGE, Int.reduceBEq, Int.reduceBNe, ↓reduceIte, h313]
  refine e_ret (.inr rfl) ?_
  simp (config := { maxSteps := 1000000 }) (disch := first | assumption | (simp; done) | omega | (simp; omega)) only [push_cast, reduceCtorEq, Nat.reduceEqDiff, Nat.reduceAdd, Nat.reduceSub, Nat.reduceMul, Nat.reduceLeDiff, Nat.reduceLT, Int.reduceEq, Int.reduceNe, Int.reduceLT, Int.reduceLE, Int.reduceGT, Int.reduceGE, Int.reduceBEq, Int.reduceBNe, ↓reduceIte, aret, aresults, aresult, h313]
  refine ⟨_, rfl, ?_⟩
  first | (simp (config := { maxSteps := 1000000 }) (disch := first | assumption | (simp; done) | omega | (simp; omega)) only [push_cast, reduceCtorEq, Nat.reduceEqDiff, Nat.reduceAdd, Nat.reduceSub, Nat.reduceMul, Nat.reduceLeDiff, Nat.reduceLT, Int.reduceEq, Int.reduceNe, Int.reduceLT, Int.reduceLE, Int.reduceGT, Int.reduceGE, Int.reduceBEq, Int.reduceBNe, ↓reduceIte, h313] <;> rfl) | rfl

/-! ## 25 rivermark.link.Restart -/
def f25g0 : List RO :=
  [⟨(.some 1), (.box (.tmp 0)), .none⟩,
   ⟨(.some 2), (.new [(.D (.I .i64 0)), (.fl [])]), .none⟩]
def f25g1 : List RO :=
  [⟨(.some 3), (.faddr 0 (.tmp 1)), .none⟩,
   ⟨(.some 4), (.load .none (.tmp 3)), .none⟩,
   ⟨(.some 5), (.build [(.D (.I .i64 0)), (.fl [])] [(0, (1, (.tmp 4)))]), .none⟩,
   ⟨.none, (.store 2 (.tmp 2) (.tmp 5)), .none⟩]
def f25c : RCode := (.seq (.reg .false f25g0) (.seq (.reg .false f25g1) .ret))
def f25r : List RRes := [(.cell (.some 2) 2)]
attribute [push_cast] f25g0 f25g1
def F25 (N : Nat) (p0 : Inbox) : Option Inbox := some ((Inbox.mk p0.Next []))
theorem c25 (N : Nat) (p0 : Inbox) (r : Inbox) (h : F25 N p0 = some r) : ACall Try.prog 25 [.agg [.D (.I .i64 p0.Next), .D (.L (p0.Ahead.map Frame.row))]] [] (.agg [.D (.I .i64 r.Next), .D (.L (r.Ahead.map Frame.row))]) [] [] := by
  refine ACall.of_bodyW [] (fn := Try.f25) (rc := f25c) (rs := f25r) Try.func25 rfl rfl (by kernel_rfl) (by kernel_rfl) (by kernel_rfl) (by rw [Try.ntmps25]; simp) ?_
  unfold F25 at h
  unfold f25c f25r
  rw [entry_eq _ _]
  obtain rfl := Option.some.inj h
  simp (config := { maxSteps := 1000000 }) (disch := first | assumption | (simp; done) | omega | (simp; omega)) only [push_cast, reduceCtorEq, Nat.reduceEqDiff, Nat.reduceAdd, Nat.reduceSub, Nat.reduceMul, Nat.reduceLeDiff, Nat.reduceLT, Int.reduceEq, Int.reduceNe, Int.reduceLT, Int.reduceLE, Int.reduceGT, Int.reduceGE, Int.reduceBEq, Int.reduceBNe, ↓reduceIte]
  refine e_ret (.inr rfl) ?_
  simp (config := { maxSteps := 1000000 }) (disch := first | assumption | (simp; done) | omega | (simp; omega)) only [push_cast, reduceCtorEq, Nat.reduceEqDiff, Nat.reduceAdd, Nat.reduceSub, Nat.reduceMul, Nat.reduceLeDiff, Nat.reduceLT, Int.reduceEq, Int.reduceNe, Int.reduceLT, Int.reduceLE, Int.reduceGT, Int.reduceGE, Int.reduceBEq, Int.reduceBNe, ↓reduceIte, aret, aresults, aresult]
  refine ⟨_, rfl, ?_⟩
  first | (simp (config := { maxSteps := 1000000 }) (disch := first | assumption | (simp; done) | omega | (simp; omega)) only [push_cast, reduceCtorEq, Nat.reduceEqDiff, Nat.reduceAdd, Nat.reduceSub, Nat.reduceMul, Nat.reduceLeDiff, Nat.reduceLT, Int.reduceEq, Int.reduceNe, Int.reduceLT, Int.reduceLE, Int.reduceGT, Int.reduceGE, Int.reduceBEq, Int.reduceBNe, ↓reduceIte] <;> rfl) | rfl

/-! ## 28 rivermark.rivermarklaw11.act -/
def f28g0 : List RO :=
  [⟨(.some 2), (.box (.tmp 0)), .none⟩,
   ⟨(.some 3), (.box (.tmp 1)), .none⟩,
   ⟨(.some 4), (.new [(.D (.I .i64 0)), (.D (.I .i64 0)), (.D (.S [])), (.fl []), (.D (.I .i64 0)), (.fl []), (.fl []), (.fl []), (.fl []), (.D (.B .false))]), .none⟩]
def f28g1 : List RO :=
  [⟨(.some 18), (.faddr 0 (.tmp 2)), .none⟩,
   ⟨(.some 19), (.faddr 0 (.tmp 18)), .none⟩,
   ⟨(.some 20), (.load .none (.tmp 19)), .none⟩,
   ⟨(.some 21), (.faddr 0 (.tmp 2)), .none⟩,
   ⟨(.some 22), (.faddr 3 (.tmp 21)), .none⟩,
   ⟨(.some 23), (.load .none (.tmp 22)), .none⟩,
   ⟨(.some 24), (.len .false (.tmp 23)), .none⟩,
   ⟨(.some 25), (.bin .add (.tmp 20) (.tmp 24)), .none⟩,
   ⟨(.some 5), (.mv (.tmp 25)), .none⟩]
def f28g2 : List RO :=
  [⟨(.some 26), (.faddr 0 (.tmp 3)), .none⟩,
   ⟨(.some 27), (.load .none (.tmp 26)), .none⟩,
   ⟨(.some 28), (.bin .rem (.tmp 27) (.const (.int .u8 6))), .none⟩]
def f28g3 : List RO :=
  [⟨(.some 30), (.bin .eql (.tmp 28) (.const (.int .u8 0))), .none⟩,
   ⟨(.some 29), (.mv (.tmp 30)), .none⟩]
def f28g4 : List RO :=
  [⟨(.some 32), (.faddr 0 (.tmp 2)), .none⟩,
   ⟨(.some 33), (.load (.some 4) (.tmp 32)), .none⟩,
   ⟨(.some 34), (.mv (.tmp 5)), .none⟩,
   ⟨(.some 35), (.call (.func 46) [(.tmp 34)]), .none⟩,
   ⟨(.some 36), (.call (.func 10) [(.tmp 33), (.tmp 35)]), .none⟩,
   ⟨(.some 31), (.mv (.tmp 36)), .none⟩,
   ⟨(.some 37), (.ext (.tmp 31) 0), .none⟩,
   ⟨(.some 38), (.ext (.tmp 31) 1), .none⟩,
   ⟨(.some 6), (.new [(.D (.I .i64 0)), (.D (.I .i64 0)), (.D (.S [])), (.fl [])]), .none⟩,
   ⟨.none, (.store 4 (.tmp 6) (.tmp 37)), .none⟩,
   ⟨(.some 7), (.mv (.tmp 38)), .none⟩]
def f28g5 : List RO :=
  [⟨(.some 39), (.load (.some 4) (.tmp 6)), .none⟩,
   ⟨(.some 40), (.faddr 0 (.tmp 2)), .none⟩,
   ⟨.none, (.store 4 (.tmp 40) (.tmp 39)), .none⟩]
def f28g6 : List RO :=
  [⟨(.some 41), (.faddr 9 (.tmp 2)), .none⟩,
   ⟨(.some 42), (.load .none (.tmp 41)), .none⟩,
   ⟨(.some 43), (.mv (.tmp 42)), .none⟩,
   ⟨(.some 44), (.mv (.tmp 7)), (.some (43, .false))⟩,
   ⟨(.some 45), (.bin .neq (.tmp 44) (.const (.int .i64 0))), (.some (43, .false))⟩,
   ⟨(.some 46), (.pick (.tmp 43) (.const (.bool .true)) (.tmp 45)), .none⟩,
   ⟨(.some 47), (.faddr 9 (.tmp 2)), .none⟩,
   ⟨.none, (.store 1 (.tmp 47) (.tmp 46)), .none⟩]
def f28g7 : List RO :=
  [⟨(.some 49), (.bin .eql (.tmp 28) (.const (.int .u8 1))), .none⟩,
   ⟨(.some 48), (.mv (.tmp 49)), .none⟩]
def f28g8 : List RO :=
  [⟨(.some 50), (.faddr 0 (.tmp 2)), .none⟩,
   ⟨(.some 51), (.faddr 0 (.tmp 50)), .none⟩,
   ⟨(.some 52), (.load .none (.tmp 51)), .none⟩,
   ⟨(.some 53), (.faddr 1 (.tmp 3)), .none⟩,
   ⟨(.some 54), (.load .none (.tmp 53)), .none⟩,
   ⟨(.some 55), (.cvI .i64 (.tmp 54)), .none⟩,
   ⟨(.some 56), (.faddr 0 (.tmp 2)), .none⟩,
   ⟨(.some 57), (.faddr 3 (.tmp 56)), .none⟩,
   ⟨(.some 58), (.load .none (.tmp 57)), .none⟩,
   ⟨(.some 59), (.len .false (.tmp 58)), .none⟩,
   ⟨(.some 60), (.bin .add (.tmp 59) (.const (.int .i64 1))), .none⟩,
   ⟨(.some 61), (.bin .rem (.tmp 55) (.tmp 60)), .none⟩,
   ⟨(.some 62), (.bin .add (.tmp 52) (.tmp 61)), .none⟩,
   ⟨(.some 8), (.mv (.tmp 62)), .none⟩]
def f28g9 : List RO :=
  [⟨(.some 64), (.faddr 0 (.tmp 2)), .none⟩,
   ⟨(.some 65), (.load (.some 4) (.tmp 64)), .none⟩,
   ⟨(.some 66), (.mv (.tmp 8)), .none⟩,
   ⟨(.some 67), (.mv (.tmp 8)), .none⟩,
   ⟨(.some 68), (.call (.func 47) [(.tmp 67)]), .none⟩,
   ⟨(.some 69), (.call (.func 11) [(.tmp 65), (.tmp 66), (.tmp 68)]), .none⟩,
   ⟨(.some 63), (.mv (.tmp 69)), .none⟩,
   ⟨(.some 70), (.ext (.tmp 63) 0), .none⟩,
   ⟨(.some 71), (.ext (.tmp 63) 1), .none⟩,
   ⟨(.some 9), (.new [(.D (.I .i64 0)), (.D (.I .i64 0)), (.D (.S [])), (.fl [])]), .none⟩,
   ⟨.none, (.store 4 (.tmp 9) (.tmp 70)), .none⟩,
   ⟨(.some 10), (.mv (.tmp 71)), .none⟩]
def f28g10 : List RO :=
  [⟨(.some 72), (.load (.some 4) (.tmp 9)), .none⟩,
   ⟨(.some 73), (.faddr 0 (.tmp 2)), .none⟩,
   ⟨.none, (.store 4 (.tmp 73) (.tmp 72)), .none⟩]
def f28g11 : List RO :=
  [⟨(.some 74), (.faddr 9 (.tmp 2)), .none⟩,
   ⟨(.some 75), (.load .none (.tmp 74)), .none⟩,
   ⟨(.some 76), (.mv (.tmp 75)), .none⟩,
   ⟨(.some 77), (.mv (.tmp 10)), (.some (76, .false))⟩,
   ⟨(.some 78), (.bin .neq (.tmp 77) (.const (.int .i64 0))), (.some (76, .false))⟩,
   ⟨(.some 79), (.pick (.tmp 76) (.const (.bool .true)) (.tmp 78)), .none⟩,
   ⟨(.some 80), (.faddr 9 (.tmp 2)), .none⟩,
   ⟨.none, (.store 1 (.tmp 80) (.tmp 79)), .none⟩]
def f28g12 : List RO :=
  [⟨(.some 82), (.bin .eql (.tmp 28) (.const (.int .u8 2))), .none⟩,
   ⟨(.some 81), (.mv (.tmp 82)), .none⟩]
def f28g13 : List RO :=
  [⟨(.some 84), (.faddr 0 (.tmp 2)), .none⟩,
   ⟨(.some 85), (.load (.some 4) (.tmp 84)), .none⟩,
   ⟨(.some 86), (.faddr 1 (.tmp 3)), .none⟩,
   ⟨(.some 87), (.load .none (.tmp 86)), .none⟩,
   ⟨(.some 88), (.cvI .i64 (.tmp 87)), .none⟩,
   ⟨(.some 89), (.bin .rem (.tmp 88) (.const (.int .i64 20))), .none⟩,
   ⟨(.some 90), (.bin .add (.const (.int .i64 1)) (.tmp 89)), .none⟩,
   ⟨(.some 91), (.call (.func 12) [(.tmp 85), (.tmp 90)]), .none⟩,
   ⟨(.some 83), (.mv (.tmp 91)), .none⟩,
   ⟨(.some 92), (.ext (.tmp 83) 0), .none⟩,
   ⟨(.some 93), (.ext (.tmp 83) 1), .none⟩,
   ⟨(.some 11), (.mv (.tmp 92)), .none⟩,
   ⟨(.some 12), (.mv (.tmp 93)), .none⟩]
def f28g14 : List RO :=
  [⟨(.some 94), (.bslice 3 []), .none⟩,
   ⟨(.some 95), (.faddr 6 (.tmp 2)), .none⟩,
   ⟨(.some 96), (.load .none (.tmp 95)), .none⟩,
   ⟨(.some 97), (.app 3 32 (.tmp 94) (.tmp 96)), .none⟩,
   ⟨(.some 98), (.mv (.tmp 11)), .none⟩,
   ⟨(.some 99), (.appE 3 32 (.tmp 97) (.tmp 98)), .none⟩,
   ⟨(.some 100), (.faddr 6 (.tmp 2)), .none⟩,
   ⟨.none, (.store 1 (.tmp 100) (.tmp 99)), .none⟩]
def f28g15 : List RO :=
  [⟨(.some 101), (.faddr 9 (.tmp 2)), .none⟩,
   ⟨(.some 102), (.load .none (.tmp 101)), .none⟩,
   ⟨(.some 103), (.mv (.tmp 102)), .none⟩,
   ⟨(.some 104), (.mv (.tmp 12)), (.some (103, .false))⟩,
   ⟨(.some 105), (.bin .neq (.tmp 104) (.const (.int .i64 0))), (.some (103, .false))⟩,
   ⟨(.some 106), (.pick (.tmp 103) (.const (.bool .true)) (.tmp 105)), .none⟩,
   ⟨(.some 107), (.faddr 9 (.tmp 2)), .none⟩,
   ⟨.none, (.store 1 (.tmp 107) (.tmp 106)), .none⟩]
def f28g16 : List RO :=
  [⟨(.some 109), (.bin .eql (.tmp 28) (.const (.int .u8 3))), .none⟩,
   ⟨(.some 108), (.mv (.tmp 109)), .none⟩]
def f28g17 : List RO :=
  [⟨(.some 110), (.faddr 6 (.tmp 2)), .none⟩,
   ⟨(.some 111), (.load .none (.tmp 110)), .none⟩,
   ⟨(.some 112), (.len .false (.tmp 111)), .none⟩,
   ⟨(.some 113), (.bin .gtr (.tmp 112) (.const (.int .i64 0))), .none⟩]
def f28g18 : List RO :=
  [⟨(.some 115), (.faddr 4 (.tmp 2)), .none⟩,
   ⟨(.some 116), (.load (.some 2) (.tmp 115)), .none⟩,
   ⟨(.some 117), (.faddr 6 (.tmp 2)), .none⟩,
   ⟨(.some 118), (.load .none (.tmp 117)), .none⟩,
   ⟨(.some 119), (.faddr 1 (.tmp 3)), .none⟩,
   ⟨(.some 120), (.load .none (.tmp 119)), .none⟩,
   ⟨(.some 121), (.cvI .i64 (.tmp 120)), .none⟩,
   ⟨(.some 122), (.faddr 6 (.tmp 2)), .none⟩,
   ⟨(.some 123), (.load .none (.tmp 122)), .none⟩,
   ⟨(.some 124), (.len .false (.tmp 123)), .none⟩,
   ⟨(.some 125), (.bin .rem (.tmp 121) (.tmp 124)), .none⟩,
   ⟨(.some 126), (.iaddr 3 (.tmp 118) (.tmp 125)), .none⟩,
   ⟨(.some 127), (.load (.some 3) (.tmp 126)), .none⟩,
   ⟨(.some 128), (.call (.func 23) [(.tmp 116), (.tmp 127)]), .none⟩,
   ⟨(.some 114), (.mv (.tmp 128)), .none⟩,
   ⟨(.some 129), (.ext (.tmp 114) 0), .none⟩,
   ⟨(.some 130), (.ext (.tmp 114) 1), .none⟩,
   ⟨(.some 131), (.ext (.tmp 114) 2), .none⟩,
   ⟨(.some 13), (.new [(.D (.I .i64 0)), (.fl [])]), .none⟩,
   ⟨.none, (.store 2 (.tmp 13) (.tmp 129)), .none⟩,
   ⟨(.some 14), (.mv (.tmp 130)), .none⟩,
   ⟨(.some 15), (.mv (.tmp 131)), .none⟩]
def f28g19 : List RO :=
  [⟨(.some 132), (.load (.some 2) (.tmp 13)), .none⟩,
   ⟨(.some 133), (.faddr 4 (.tmp 2)), .none⟩,
   ⟨.none, (.store 2 (.tmp 133) (.tmp 132)), .none⟩]
def f28g20 : List RO :=
  [⟨(.some 134), (.bslice 3 []), .none⟩,
   ⟨(.some 135), (.faddr 8 (.tmp 2)), .none⟩,
   ⟨(.some 136), (.load .none (.tmp 135)), .none⟩,
   ⟨(.some 137), (.app 3 32 (.tmp 134) (.tmp 136)), .none⟩,
   ⟨(.some 138), (.mv (.tmp 14)), .none⟩,
   ⟨(.some 139), (.appE 3 32 (.tmp 137) (.tmp 138)), .none⟩,
   ⟨(.some 140), (.faddr 8 (.tmp 2)), .none⟩,
   ⟨.none, (.store 1 (.tmp 140) (.tmp 139)), .none⟩]
def f28g21 : List RO :=
  [⟨(.some 141), (.bslice 1 []), .none⟩,
   ⟨(.some 142), (.faddr 7 (.tmp 2)), .none⟩,
   ⟨(.some 143), (.load .none (.tmp 142)), .none⟩,
   ⟨(.some 144), (.app 1 8 (.tmp 141) (.tmp 143)), .none⟩,
   ⟨(.some 145), (.faddr 0 (.tmp 13)), .none⟩,
   ⟨(.some 146), (.load .none (.tmp 145)), .none⟩,
   ⟨(.some 147), (.bslice 1 [(.tmp 146)]), .none⟩,
   ⟨(.some 148), (.appE 1 8 (.tmp 144) (.tmp 147)), .none⟩,
   ⟨(.some 149), (.faddr 7 (.tmp 2)), .none⟩,
   ⟨.none, (.store 1 (.tmp 149) (.tmp 148)), .none⟩]
def f28g22 : List RO :=
  [⟨(.some 150), (.faddr 9 (.tmp 2)), .none⟩,
   ⟨(.some 151), (.load .none (.tmp 150)), .none⟩,
   ⟨(.some 152), (.mv (.tmp 151)), .none⟩,
   ⟨(.some 153), (.mv (.tmp 15)), (.some (152, .false))⟩,
   ⟨(.some 154), (.bin .neq (.tmp 153) (.const (.int .i64 0))), (.some (152, .false))⟩,
   ⟨(.some 155), (.pick (.tmp 152) (.const (.bool .true)) (.tmp 154)), .none⟩,
   ⟨(.some 156), (.faddr 9 (.tmp 2)), .none⟩,
   ⟨.none, (.store 1 (.tmp 156) (.tmp 155)), .none⟩]
def f28g23 : List RO :=
  [⟨(.some 158), (.bin .eql (.tmp 28) (.const (.int .u8 4))), .none⟩,
   ⟨(.some 157), (.mv (.tmp 158)), .none⟩]
def f28g24 : List RO :=
  [⟨(.some 159), (.faddr 7 (.tmp 2)), .none⟩,
   ⟨(.some 160), (.load .none (.tmp 159)), .none⟩,
   ⟨(.some 161), (.len .false (.tmp 160)), .none⟩,
   ⟨(.some 162), (.bin .gtr (.tmp 161) (.const (.int .i64 0))), .none⟩]
def f28g25 : List RO :=
  [⟨(.some 164), (.faddr 0 (.tmp 2)), .none⟩,
   ⟨(.some 165), (.load (.some 4) (.tmp 164)), .none⟩,
   ⟨(.some 166), (.faddr 7 (.tmp 2)), .none⟩,
   ⟨(.some 167), (.load .none (.tmp 166)), .none⟩,
   ⟨(.some 168), (.faddr 1 (.tmp 3)), .none⟩,
   ⟨(.some 169), (.load .none (.tmp 168)), .none⟩,
   ⟨(.some 170), (.cvI .i64 (.tmp 169)), .none⟩,
   ⟨(.some 171), (.faddr 7 (.tmp 2)), .none⟩,
   ⟨(.some 172), (.load .none (.tmp 171)), .none⟩,
   ⟨(.some 173), (.len .false (.tmp 172)), .none⟩,
   ⟨(.some 174), (.bin .rem (.tmp 170) (.tmp 173)), .none⟩,
   ⟨(.some 175), (.iaddr 1 (.tmp 167) (.tmp 174)), .none⟩,
   ⟨(.some 176), (.load .none (.tmp 175)), .none⟩,
   ⟨(.some 177), (.call (.func 13) [(.tmp 165), (.tmp 176)]), .none⟩,
   ⟨(.some 163), (.mv (.tmp 177)), .none⟩,
   ⟨(.some 178), (.ext (.tmp 163) 0), .none⟩,
   ⟨(.some 179), (.ext (.tmp 163) 1), .none⟩,
   ⟨(.some 16), (.new [(.D (.I .i64 0)), (.D (.I .i64 0)), (.D (.S [])), (.fl [])]), .none⟩,
   ⟨.none, (.store 4 (.tmp 16) (.tmp 178)), .none⟩,
   ⟨(.some 17), (.mv (.tmp 179)), .none⟩]
def f28g26 : List RO :=
  [⟨(.some 180), (.load (.some 4) (.tmp 16)), .none⟩,
   ⟨(.some 181), (.faddr 0 (.tmp 2)), .none⟩,
   ⟨.none, (.store 4 (.tmp 181) (.tmp 180)), .none⟩]
def f28g27 : List RO :=
  [⟨(.some 182), (.faddr 9 (.tmp 2)), .none⟩,
   ⟨(.some 183), (.load .none (.tmp 182)), .none⟩,
   ⟨(.some 184), (.mv (.tmp 183)), .none⟩,
   ⟨(.some 185), (.mv (.tmp 17)), (.some (184, .false))⟩,
   ⟨(.some 186), (.bin .neq (.tmp 185) (.const (.int .i64 0))), (.some (184, .false))⟩,
   ⟨(.some 187), (.pick (.tmp 184) (.const (.bool .true)) (.tmp 186)), .none⟩,
   ⟨(.some 188), (.faddr 9 (.tmp 2)), .none⟩,
   ⟨.none, (.store 1 (.tmp 188) (.tmp 187)), .none⟩]
def f28g28 : List RO :=
  [⟨(.some 190), (.bin .eql (.tmp 28) (.const (.int .u8 5))), .none⟩,
   ⟨(.some 189), (.mv (.tmp 190)), .none⟩]
def f28g29 : List RO :=
  [⟨(.some 191), (.faddr 4 (.tmp 2)), .none⟩,
   ⟨(.some 192), (.load (.some 2) (.tmp 191)), .none⟩,
   ⟨(.some 193), (.call (.func 25) [(.tmp 192)]), .none⟩,
   ⟨(.some 194), (.faddr 4 (.tmp 2)), .none⟩,
   ⟨.none, (.store 2 (.tmp 194) (.tmp 193)), .none⟩]
def f28g30 : List RO :=
  [⟨(.some 195), (.load (.some 10) (.tmp 2)), .none⟩,
   ⟨.none, (.store 10 (.tmp 4) (.tmp 195)), .none⟩]
def f28c : RCode := (.seq (.reg .false f28g0) (.seq (.reg .false f28g1) (.seq (.seq (.reg .false f28g2) (.block 0 (.seq (.reg .false f28g3) (.cond (.tmp 29) (.seq (.reg .true f28g4) (.seq (.reg .false f28g5) (.reg .false f28g6))) (.seq (.reg .false f28g7) (.cond (.tmp 48) (.seq (.reg .true f28g8) (.seq (.reg .true f28g9) (.seq (.reg .false f28g10) (.reg .false f28g11)))) (.seq (.reg .false f28g12) (.cond (.tmp 81) (.seq (.reg .false f28g13) (.seq (.reg .false f28g14) (.reg .false f28g15))) (.seq (.reg .false f28g16) (.cond (.tmp 108) (.seq (.reg .false f28g17) (.cond (.tmp 113) (.seq (.reg .true f28g18) (.seq (.reg .false f28g19) (.seq (.reg .false f28g20) (.seq (.reg .true f28g21) (.reg .false f28g22))))) .skip)) (.seq (.reg .false f28g23) (.cond (.tmp 157) (.seq (.reg .false f28g24) (.cond (.tmp 162) (.seq (.reg .true f28g25) (.seq (.reg .false f28g26) (.reg .false f28g27))) .skip)) (.seq (.reg .false f28g28) (.cond (.tmp 189) (.reg .false f28g29) .skip)))))))))))))) (.seq (.reg .false f28g30) .ret))))
def f28r : List RRes := [(.cell (.some 10) 4)]
attribute [push_cast] f28g0 f28g1 f28g2 f28g3 f28g4 f28g5 f28g6 f28g7 f28g8 f28g9 f28g10 f28g11 f28g12 f28g13 f28g14 f28g15 f28g16 f28g17 f28g18 f28g19 f28g20 f28g21 f28g22 f28g23 f28g24 f28g25 f28g26 f28g27 f28g28 f28g29 f28g30
def F28 (N : Nat) (p0 : WLine) (p1 : WAct) : Option WLine := ck .i64 (p0.O.Base + (p0.O.Queue.length : Int)) (if? (((Int.tmod p1.Kind 6) == 0)) (bd? (F46 N (p0.O.Base + (p0.O.Queue.length : Int))) fun v1 => bd? (F10 N p0.O v1) fun v2 => if? (p0.Bad) (some ((WLine.mk v2.1 p0.I p0.Sent p0.Told p0.Delivered true))) (some ((WLine.mk v2.1 p0.I p0.Sent p0.Told p0.Delivered (v2.2 != 0))))) (if? (((Int.tmod p1.Kind 6) == 1)) (ck .i64 (p1.N) (ck .i64 ((p0.O.Queue.length : Int) + 1) (gd? (((p0.O.Queue.length : Int) + 1) ≠ 0) (ck .i64 (p0.O.Base + (Int.tmod (p1.N) ((p0.O.Queue.length : Int) + 1))) (bd? (F47 N (p0.O.Base + (Int.tmod (p1.N) ((p0.O.Queue.length : Int) + 1)))) fun v3 => bd? (F11 N p0.O (p0.O.Base + (Int.tmod (p1.N) ((p0.O.Queue.length : Int) + 1))) v3) fun v4 => if? (p0.Bad) (some ((WLine.mk v4.1 p0.I p0.Sent p0.Told p0.Delivered true))) (some ((WLine.mk v4.1 p0.I p0.Sent p0.Told p0.Delivered (v4.2 != 0))))))))) (if? (((Int.tmod p1.Kind 6) == 2)) (ck .i64 (p1.N) (ck .i64 (1 + (Int.tmod (p1.N) 20)) (bd? (F12 N p0.O (1 + (Int.tmod (p1.N) 20))) fun v5 => gd? (p0.Sent.length * 32 ≤ 140737488355328) (gd? ((p0.Sent.length + v5.1.length) * 32 ≤ 140737488355328) (if? (p0.Bad) (some ((WLine.mk p0.O p0.I (p0.Sent ++ v5.1) p0.Told p0.Delivered true))) (some ((WLine.mk p0.O p0.I (p0.Sent ++ v5.1) p0.Told p0.Delivered (v5.2 != 0))))))))) (if? (((Int.tmod p1.Kind 6) == 3)) (if? (decide ((p0.Sent.length : Int) > 0)) (ck .i64 (p1.N) (gd? ((p0.Sent.length : Int) ≠ 0) (get? p0.Sent ((Int.tmod (p1.N) (p0.Sent.length : Int))) fun x6 => bd? (F23 N p0.I x6) fun v7 => gd? (p0.Delivered.length * 32 ≤ 140737488355328) (gd? ((p0.Delivered.length + v7.2.1.length) * 32 ≤ 140737488355328) (gd? (p0.Told.length * 8 ≤ 140737488355328) (gd? ((p0.Told.length + [v7.1.Next].length) * 8 ≤ 140737488355328) (if? (p0.Bad) (some ((WLine.mk p0.O v7.1 p0.Sent (p0.Told ++ [v7.1.Next]) (p0.Delivered ++ v7.2.1) true))) (some ((WLine.mk p0.O v7.1 p0.Sent (p0.Told ++ [v7.1.Next]) (p0.Delivered ++ v7.2.1) (v7.2.2 != 0))))))))))) (some (p0))) (if? (((Int.tmod p1.Kind 6) == 4)) (if? (decide ((p0.Told.length : Int) > 0)) (ck .i64 (p1.N) (gd? ((p0.Told.length : Int) ≠ 0) (get? p0.Told ((Int.tmod (p1.N) (p0.Told.length : Int))) fun x8 => bd? (F13 N p0.O x8) fun v9 => if? (p0.Bad) (some ((WLine.mk v9.1 p0.I p0.Sent p0.Told p0.Delivered true))) (some ((WLine.mk v9.1 p0.I p0.Sent p0.Told p0.Delivered (v9.2 != 0))))))) (some (p0))) (if? (((Int.tmod p1.Kind 6) == 5)) (bd? (F25 N p0.I) fun v10 => some ((WLine.mk p0.O v10 p0.Sent p0.Told p0.Delivered p0.Bad))) (some (p0))))))))
theorem c28 (N : Nat) (p0 : WLine) (p1 : WAct) (r : WLine) (h : F28 N p0 p1 = some r) : ACall Try.prog 28 [.agg [.D (.I .i64 p0.O.Base), .D (.I .i64 p0.O.Acked), .D (.S p0.O.Summary), .D (.L (p0.O.Queue.map rS)), .D (.I .i64 p0.I.Next), .D (.L (p0.I.Ahead.map Frame.row)), .D (.L (p0.Sent.map Frame.row)), .D (.L (p0.Told.map (rI .i64))), .D (.L (p0.Delivered.map Frame.row)), .D (.B p0.Bad)], .agg [.D (.I .u8 p1.Kind), .D (.I .u8 p1.N)]] [] (.agg [.D (.I .i64 r.O.Base), .D (.I .i64 r.O.Acked), .D (.S r.O.Summary), .D (.L (r.O.Queue.map rS)), .D (.I .i64 r.I.Next), .D (.L (r.I.Ahead.map Frame.row)), .D (.L (r.Sent.map Frame.row)), .D (.L (r.Told.map (rI .i64))), .D (.L (r.Delivered.map Frame.row)), .D (.B r.Bad)]) [] [] := by
  refine ACall.of_bodyW [99, 139, 148] (fn := Try.f28) (rc := f28c) (rs := f28r) Try.func28 rfl rfl (by kernel_rfl) (by kernel_rfl) (by kernel_rfl) (by rw [Try.ntmps28]; simp) ?_
  unfold F28 at h
  unfold f28c f28r
  rw [entry_eq _ _]
  obtain ⟨h314, h⟩ := F_ck h
  try simp (disch := first | assumption | (simp; done) | omega | (simp; omega)) only [push_cast, reduceCtorEq, Nat.reduceEqDiff, Nat.reduceAdd, Nat.reduceSub, Nat.reduceMul, Nat.reduceLeDiff, Nat.reduceLT, Int.reduceEq, Int.reduceNe, Int.reduceLT, Int.reduceLE, Int.reduceGT, Int.reduceGE, Int.reduceBEq, Int.reduceBNe, ↓reduceIte] at h314
  rcases F_if h with ⟨h315, h⟩ | ⟨h315, h⟩
  · try simp (disch := first | assumption | (simp; done) | omega | (simp; omega)) only [push_cast, reduceCtorEq, Nat.reduceEqDiff, Nat.reduceAdd, Nat.reduceSub, Nat.reduceMul, Nat.reduceLeDiff, Nat.reduceLT, Int.reduceEq, Int.reduceNe, Int.reduceLT, Int.reduceLE, Int.reduceGT, Int.reduceGE, Int.reduceBEq, Int.reduceBNe, ↓reduceIte] at h315
    obtain ⟨v1, h316, h⟩ := F_bd h
    simp (config := { maxSteps := 1000000 }) (disch := first | assumption | (simp; done) | omega | (simp; omega)) only [push_cast, reduceCtorEq, Nat.reduceEqDiff, Nat.reduceAdd, Nat.reduceSub, Nat.reduceMul, Nat.reduceLeDiff, Nat.reduceLT, Int.reduceEq, Int.reduceNe, Int.reduceLT, Int.reduceLE, Int.reduceGT, Int.reduceGE, Int.reduceBEq, Int.reduceBNe, ↓reduceIte, h314, h315]
    refine call_flat (by rfl) (c46 N _ _ h316) ?_ rfl ?_
    · simp (config := { maxSteps := 1000000 }) (disch := first | assumption | (simp; done) | omega | (simp; omega)) only [push_cast, reduceCtorEq, Nat.reduceEqDiff, Nat.reduceAdd, Nat.reduceSub, Nat.reduceMul, Nat.reduceLeDiff, Nat.reduceLT, Int.reduceEq, Int.reduceNe, Int.reduceLT, Int.reduceLE, Int.reduceGT, Int.reduceGE, Int.reduceBEq, Int.reduceBNe, ↓reduceIte, h314, h315] <;> rfl
    obtain ⟨v2, h317, h⟩ := F_bd h
    simp (config := { maxSteps := 1000000 }) (disch := first | assumption | (simp; done) | omega | (simp; omega)) only [push_cast, reduceCtorEq, Nat.reduceEqDiff, Nat.reduceAdd, Nat.reduceSub, Nat.reduceMul, Nat.reduceLeDiff, Nat.reduceLT, Int.reduceEq, Int.reduceNe, Int.reduceLT, Int.reduceLE, Int.reduceGT, Int.reduceGE, Int.reduceBEq, Int.reduceBNe, ↓reduceIte, h314, h315]
    refine call_new (by rfl) (c10 N _ _ _ h317) ?_ rfl ?_
    · simp (config := { maxSteps := 1000000 }) (disch := first | assumption | (simp; done) | omega | (simp; omega)) only [push_cast, reduceCtorEq, Nat.reduceEqDiff, Nat.reduceAdd, Nat.reduceSub, Nat.reduceMul, Nat.reduceLeDiff, Nat.reduceLT, Int.reduceEq, Int.reduceNe, Int.reduceLT, Int.reduceLE, Int.reduceGT, Int.reduceGE, Int.reduceBEq, Int.reduceBNe, ↓reduceIte, h314, h315] <;> rfl
    rcases F_if h with ⟨h318, h⟩ | ⟨h318, h⟩
    · try simp (disch := first | assumption | (simp; done) | omega | (simp; omega)) only [push_cast, reduceCtorEq, Nat.reduceEqDiff, Nat.reduceAdd, Nat.reduceSub, Nat.reduceMul, Nat.reduceLeDiff, Nat.reduceLT, Int.reduceEq, Int.reduceNe, Int.reduceLT, Int.reduceLE, Int.reduceGT, Int.reduceGE, Int.reduceBEq, Int.reduceBNe, ↓reduceIte] at h318
      obtain rfl := Option.some.inj h
      simp (config := { maxSteps := 1000000 }) (disch := first | assumption | (simp; done) | omega | (simp; omega)) only [push_cast, reduceCtorEq, Nat.reduceEqDiff, Nat.reduceAdd, Nat.reduceSub, Nat.reduceMul, Nat.reduceLeDiff, Nat.reduceLT, Int.reduceEq, Int.reduceNe, Int.reduceLT, Int.reduceLE, Int.reduceGT, Int.reduceGE, Int.reduceBEq, Int.reduceBNe, ↓reduceIte, h314, h315, h318]
      refine e_ret (.inr rfl) ?_
      simp (config := { maxSteps := 1000000 }) (disch := first | assumption | (simp; done) | omega | (simp; omega)) only [push_cast, reduceCtorEq, Nat.reduceEqDiff, Nat.reduceAdd, Nat.reduceSub, Nat.reduceMul, Nat.reduceLeDiff, Nat.reduceLT, Int.reduceEq, Int.reduceNe, Int.reduceLT, Int.reduceLE, Int.reduceGT, Int.reduceGE, Int.reduceBEq, Int.reduceBNe, ↓reduceIte, aret, aresults, aresult, h314, h315, h318]
      refine ⟨_, rfl, ?_⟩
      first | (simp (config := { maxSteps := 1000000 }) (disch := first | assumption | (simp; done) | omega | (simp; omega)) only [push_cast, reduceCtorEq, Nat.reduceEqDiff, Nat.reduceAdd, Nat.reduceSub, Nat.reduceMul, Nat.reduceLeDiff, Nat.reduceLT, Int.reduceEq, Int.reduceNe, Int.reduceLT, Int.reduceLE, Int.reduceGT, Int.reduceGE, Int.reduceBEq, Int.reduceBNe, ↓reduceIte, h314, h315, h318] <;> rfl) | rfl
    · try simp (disch := first | assumption | (simp; done) | omega | (simp; omega)) only [push_cast, reduceCtorEq, Nat.reduceEqDiff, Nat.reduceAdd, Nat.reduceSub, Nat.reduceMul, Nat.reduceLeDiff, Nat.reduceLT, Int.reduceEq, Int.reduceNe, Int.reduceLT, Int.reduceLE, Int.reduceGT, Int.reduceGE, Int.reduceBEq, Int.reduceBNe, ↓reduceIte] at h318
      obtain rfl := Option.some.inj h
      simp (config := { maxSteps := 1000000 }) (disch := first | assumption | (simp; done) | omega | (simp; omega)) only [push_cast, reduceCtorEq, Nat.reduceEqDiff, Nat.reduceAdd, Nat.reduceSub, Nat.reduceMul, Nat.reduceLeDiff, Nat.reduceLT, Int.reduceEq, Int.reduceNe, Int.reduceLT, Int.reduceLE, Int.reduceGT, Int.reduceGE, Int.reduceBEq, Int.reduceBNe, ↓reduceIte, h314, h315, h318]
      refine e_ret (.inr rfl) ?_
      simp (config := { maxSteps := 1000000 }) (disch := first | assumption | (simp; done) | omega | (simp; omega)) only [push_cast, reduceCtorEq, Nat.reduceEqDiff, Nat.reduceAdd, Nat.reduceSub, Nat.reduceMul, Nat.reduceLeDiff, Nat.reduceLT, Int.reduceEq, Int.reduceNe, Int.reduceLT, Int.reduceLE, Int.reduceGT, Int.reduceGE, Int.reduceBEq, Int.reduceBNe, ↓reduceIte, aret, aresults, aresult, h314, h315, h318]
      refine ⟨_, rfl, ?_⟩
      first | (simp (config := { maxSteps := 1000000 }) (disch := first | assumption | (simp; done) | omega | (simp; omega)) only [push_cast, reduceCtorEq, Nat.reduceEqDiff, Nat.reduceAdd, Nat.reduceSub, Nat.reduceMul, Nat.reduceLeDiff, Nat.reduceLT, Int.reduceEq, Int.reduceNe, Int.reduceLT, Int.reduceLE, Int.reduceGT, Int.reduceGE, Int.reduceBEq, Int.reduceBNe, ↓reduceIte, h314, h315, h318] <;> rfl) | rfl
  · try simp (disch := first | assumption | (simp; done) | omega | (simp; omega)) only [push_cast, reduceCtorEq, Nat.reduceEqDiff, Nat.reduceAdd, Nat.reduceSub, Nat.reduceMul, Nat.reduceLeDiff, Nat.reduceLT, Int.reduceEq, Int.reduceNe, Int.reduceLT, Int.reduceLE, Int.reduceGT, Int.reduceGE, Int.reduceBEq, Int.reduceBNe, ↓reduceIte] at h315
    rcases F_if h with ⟨h319, h⟩ | ⟨h319, h⟩
    · try simp (disch := first | assumption | (simp; done) | omega | (simp; omega)) only [push_cast, reduceCtorEq, Nat.reduceEqDiff, Nat.reduceAdd, Nat.reduceSub, Nat.reduceMul, Nat.reduceLeDiff, Nat.reduceLT, Int.reduceEq, Int.reduceNe, Int.reduceLT, Int.reduceLE, Int.reduceGT, Int.reduceGE, Int.reduceBEq, Int.reduceBNe, ↓reduceIte] at h319
      obtain ⟨h320, h⟩ := F_ck h
      try simp (disch := first | assumption | (simp; done) | omega | (simp; omega)) only [push_cast, reduceCtorEq, Nat.reduceEqDiff, Nat.reduceAdd, Nat.reduceSub, Nat.reduceMul, Nat.reduceLeDiff, Nat.reduceLT, Int.reduceEq, Int.reduceNe, Int.reduceLT, Int.reduceLE, Int.reduceGT, Int.reduceGE, Int.reduceBEq, Int.reduceBNe, ↓reduceIte] at h320
      obtain ⟨h321, h⟩ := F_ck h
      try simp (disch := first | assumption | (simp; done) | omega | (simp; omega)) only [push_cast, reduceCtorEq, Nat.reduceEqDiff, Nat.reduceAdd, Nat.reduceSub, Nat.reduceMul, Nat.reduceLeDiff, Nat.reduceLT, Int.reduceEq, Int.reduceNe, Int.reduceLT, Int.reduceLE, Int.reduceGT, Int.reduceGE, Int.reduceBEq, Int.reduceBNe, ↓reduceIte] at h321
      obtain ⟨h322, h⟩ := F_gd h
      try simp (disch := first | assumption | (simp; done) | omega | (simp; omega)) only [push_cast, reduceCtorEq, Nat.reduceEqDiff, Nat.reduceAdd, Nat.reduceSub, Nat.reduceMul, Nat.reduceLeDiff, Nat.reduceLT, Int.reduceEq, Int.reduceNe, Int.reduceLT, Int.reduceLE, Int.reduceGT, Int.reduceGE, Int.reduceBEq, Int.reduceBNe, ↓reduceIte] at h322
      obtain ⟨h323, h⟩ := F_ck h
      try simp (disch := first | assumption | (simp; done) | omega | (simp; omega)) only [push_cast, reduceCtorEq, Nat.reduceEqDiff, Nat.reduceAdd, Nat.reduceSub, Nat.reduceMul, Nat.reduceLeDiff, Nat.reduceLT, Int.reduceEq, Int.reduceNe, Int.reduceLT, Int.reduceLE, Int.reduceGT, Int.reduceGE, Int.reduceBEq, Int.reduceBNe, ↓reduceIte] at h323
      obtain ⟨v3, h324, h⟩ := F_bd h
      simp (config := { maxSteps := 1000000 }) (disch := first | assumption | (simp; done) | omega | (simp; omega)) only [push_cast, reduceCtorEq, Nat.reduceEqDiff, Nat.reduceAdd, Nat.reduceSub, Nat.reduceMul, Nat.reduceLeDiff, Nat.reduceLT, Int.reduceEq, Int.reduceNe, Int.reduceLT, Int.reduceLE, Int.reduceGT, Int.reduceGE, Int.reduceBEq, Int.reduceBNe, ↓reduceIte, h314, h315, h319, h320, h321, h322, h323]
      refine call_flat (by rfl) (c47 N _ _ h324) ?_ rfl ?_
      · simp (config := { maxSteps := 1000000 }) (disch := first | assumption | (simp; done) | omega | (simp; omega)) only [push_cast, reduceCtorEq, Nat.reduceEqDiff, Nat.reduceAdd, Nat.reduceSub, Nat.reduceMul, Nat.reduceLeDiff, Nat.reduceLT, Int.reduceEq, Int.reduceNe, Int.reduceLT, Int.reduceLE, Int.reduceGT, Int.reduceGE, Int.reduceBEq, Int.reduceBNe, ↓reduceIte, h314, h315, h319, h320, h321, h322, h323] <;> rfl
      obtain ⟨v4, h325, h⟩ := F_bd h
      simp (config := { maxSteps := 1000000 }) (disch := first | assumption | (simp; done) | omega | (simp; omega)) only [push_cast, reduceCtorEq, Nat.reduceEqDiff, Nat.reduceAdd, Nat.reduceSub, Nat.reduceMul, Nat.reduceLeDiff, Nat.reduceLT, Int.reduceEq, Int.reduceNe, Int.reduceLT, Int.reduceLE, Int.reduceGT, Int.reduceGE, Int.reduceBEq, Int.reduceBNe, ↓reduceIte, h314, h315, h319, h320, h321, h322, h323]
      refine call_new (by rfl) (c11 N _ _ _ _ h325) ?_ rfl ?_
      · simp (config := { maxSteps := 1000000 }) (disch := first | assumption | (simp; done) | omega | (simp; omega)) only [push_cast, reduceCtorEq, Nat.reduceEqDiff, Nat.reduceAdd, Nat.reduceSub, Nat.reduceMul, Nat.reduceLeDiff, Nat.reduceLT, Int.reduceEq, Int.reduceNe, Int.reduceLT, Int.reduceLE, Int.reduceGT, Int.reduceGE, Int.reduceBEq, Int.reduceBNe, ↓reduceIte, h314, h315, h319, h320, h321, h322, h323] <;> rfl
      rcases F_if h with ⟨h326, h⟩ | ⟨h326, h⟩
      · try simp (disch := first | assumption | (simp; done) | omega | (simp; omega)) only [push_cast, reduceCtorEq, Nat.reduceEqDiff, Nat.reduceAdd, Nat.reduceSub, Nat.reduceMul, Nat.reduceLeDiff, Nat.reduceLT, Int.reduceEq, Int.reduceNe, Int.reduceLT, Int.reduceLE, Int.reduceGT, Int.reduceGE, Int.reduceBEq, Int.reduceBNe, ↓reduceIte] at h326
        obtain rfl := Option.some.inj h
        simp (config := { maxSteps := 1000000 }) (disch := first | assumption | (simp; done) | omega | (simp; omega)) only [push_cast, reduceCtorEq, Nat.reduceEqDiff, Nat.reduceAdd, Nat.reduceSub, Nat.reduceMul, Nat.reduceLeDiff, Nat.reduceLT, Int.reduceEq, Int.reduceNe, Int.reduceLT, Int.reduceLE, Int.reduceGT, Int.reduceGE, Int.reduceBEq, Int.reduceBNe, ↓reduceIte, h314, h315, h319, h320, h321, h322, h323, h326]
        refine e_ret (.inr rfl) ?_
        simp (config := { maxSteps := 1000000 }) (disch := first | assumption | (simp; done) | omega | (simp; omega)) only [push_cast, reduceCtorEq, Nat.reduceEqDiff, Nat.reduceAdd, Nat.reduceSub, Nat.reduceMul, Nat.reduceLeDiff, Nat.reduceLT, Int.reduceEq, Int.reduceNe, Int.reduceLT, Int.reduceLE, Int.reduceGT, Int.reduceGE, Int.reduceBEq, Int.reduceBNe, ↓reduceIte, aret, aresults, aresult, h314, h315, h319, h320, h321, h322, h323, h326]
        refine ⟨_, rfl, ?_⟩
        first | (simp (config := { maxSteps := 1000000 }) (disch := first | assumption | (simp; done) | omega | (simp; omega)) only [push_cast, reduceCtorEq, Nat.reduceEqDiff, Nat.reduceAdd, Nat.reduceSub, Nat.reduceMul, Nat.reduceLeDiff, Nat.reduceLT, Int.reduceEq, Int.reduceNe, Int.reduceLT, Int.reduceLE, Int.reduceGT, Int.reduceGE, Int.reduceBEq, Int.reduceBNe, ↓reduceIte, h314, h315, h319, h320, h321, h322, h323, h326] <;> rfl) | rfl
      · try simp (disch := first | assumption | (simp; done) | omega | (simp; omega)) only [push_cast, reduceCtorEq, Nat.reduceEqDiff, Nat.reduceAdd, Nat.reduceSub, Nat.reduceMul, Nat.reduceLeDiff, Nat.reduceLT, Int.reduceEq, Int.reduceNe, Int.reduceLT, Int.reduceLE, Int.reduceGT, Int.reduceGE, Int.reduceBEq, Int.reduceBNe, ↓reduceIte] at h326
        obtain rfl := Option.some.inj h
        simp (config := { maxSteps := 1000000 }) (disch := first | assumption | (simp; done) | omega | (simp; omega)) only [push_cast, reduceCtorEq, Nat.reduceEqDiff, Nat.reduceAdd, Nat.reduceSub, Nat.reduceMul, Nat.reduceLeDiff, Nat.reduceLT, Int.reduceEq, Int.reduceNe, Int.reduceLT, Int.reduceLE, Int.reduceGT, Int.reduceGE, Int.reduceBEq, Int.reduceBNe, ↓reduceIte, h314, h315, h319, h320, h321, h322, h323, h326]
        refine e_ret (.inr rfl) ?_
        simp (config := { maxSteps := 1000000 }) (disch := first | assumption | (simp; done) | omega | (simp; omega)) only [push_cast, reduceCtorEq, Nat.reduceEqDiff, Nat.reduceAdd, Nat.reduceSub, Nat.reduceMul, Nat.reduceLeDiff, Nat.reduceLT, Int.reduceEq, Int.reduceNe, Int.reduceLT, Int.reduceLE, Int.reduceGT, Int.reduceGE, Int.reduceBEq, Int.reduceBNe, ↓reduceIte, aret, aresults, aresult, h314, h315, h319, h320, h321, h322, h323, h326]
        refine ⟨_, rfl, ?_⟩
        first | (simp (config := { maxSteps := 1000000 }) (disch := first | assumption | (simp; done) | omega | (simp; omega)) only [push_cast, reduceCtorEq, Nat.reduceEqDiff, Nat.reduceAdd, Nat.reduceSub, Nat.reduceMul, Nat.reduceLeDiff, Nat.reduceLT, Int.reduceEq, Int.reduceNe, Int.reduceLT, Int.reduceLE, Int.reduceGT, Int.reduceGE, Int.reduceBEq, Int.reduceBNe, ↓reduceIte, h314, h315, h319, h320, h321, h322, h323, h326] <;> rfl) | rfl
    · try simp (disch := first | assumption | (simp; done) | omega | (simp; omega)) only [push_cast, reduceCtorEq, Nat.reduceEqDiff, Nat.reduceAdd, Nat.reduceSub, Nat.reduceMul, Nat.reduceLeDiff, Nat.reduceLT, Int.reduceEq, Int.reduceNe, Int.reduceLT, Int.reduceLE, Int.reduceGT, Int.reduceGE, Int.reduceBEq, Int.reduceBNe, ↓reduceIte] at h319
      rcases F_if h with ⟨h327, h⟩ | ⟨h327, h⟩
      · try simp (disch := first | assumption | (simp; done) | omega | (simp; omega)) only [push_cast, reduceCtorEq, Nat.reduceEqDiff, Nat.reduceAdd, Nat.reduceSub, Nat.reduceMul, Nat.reduceLeDiff, Nat.reduceLT, Int.reduceEq, Int.reduceNe, Int.reduceLT, Int.reduceLE, Int.reduceGT, Int.reduceGE, Int.reduceBEq, Int.reduceBNe, ↓reduceIte] at h327
        obtain ⟨h328, h⟩ := F_ck h
        try simp (disch := first | assumption | (simp; done) | omega | (simp; omega)) only [push_cast, reduceCtorEq, Nat.reduceEqDiff, Nat.reduceAdd, Nat.reduceSub, Nat.reduceMul, Nat.reduceLeDiff, Nat.reduceLT, Int.reduceEq, Int.reduceNe, Int.reduceLT, Int.reduceLE, Int.reduceGT, Int.reduceGE, Int.reduceBEq, Int.reduceBNe, ↓reduceIte] at h328
        obtain ⟨h329, h⟩ := F_ck h
        try simp (disch := first | assumption | (simp; done) | omega | (simp; omega)) only [push_cast, reduceCtorEq, Nat.reduceEqDiff, Nat.reduceAdd, Nat.reduceSub, Nat.reduceMul, Nat.reduceLeDiff, Nat.reduceLT, Int.reduceEq, Int.reduceNe, Int.reduceLT, Int.reduceLE, Int.reduceGT, Int.reduceGE, Int.reduceBEq, Int.reduceBNe, ↓reduceIte] at h329
        obtain ⟨v5, h330, h⟩ := F_bd h
        simp (config := { maxSteps := 1000000 }) (disch := first | assumption | (simp; done) | omega | (simp; omega)) only [push_cast, reduceCtorEq, Nat.reduceEqDiff, Nat.reduceAdd, Nat.reduceSub, Nat.reduceMul, Nat.reduceLeDiff, Nat.reduceLT, Int.reduceEq, Int.reduceNe, Int.reduceLT, Int.reduceLE, Int.reduceGT, Int.reduceGE, Int.reduceBEq, Int.reduceBNe, ↓reduceIte, h314, h315, h319, h327, h328, h329]
        refine call_new (by rfl) (c12 N _ _ _ h330) ?_ rfl ?_
        · simp (config := { maxSteps := 1000000 }) (disch := first | assumption | (simp; done) | omega | (simp; omega)) only [push_cast, reduceCtorEq, Nat.reduceEqDiff, Nat.reduceAdd, Nat.reduceSub, Nat.reduceMul, Nat.reduceLeDiff, Nat.reduceLT, Int.reduceEq, Int.reduceNe, Int.reduceLT, Int.reduceLE, Int.reduceGT, Int.reduceGE, Int.reduceBEq, Int.reduceBNe, ↓reduceIte, h314, h315, h319, h327, h328, h329] <;> rfl
        obtain ⟨h331, h⟩ := F_gd h
        try simp (disch := first | assumption | (simp; done) | omega | (simp; omega)) only [push_cast, reduceCtorEq, Nat.reduceEqDiff, Nat.reduceAdd, Nat.reduceSub, Nat.reduceMul, Nat.reduceLeDiff, Nat.reduceLT, Int.reduceEq, Int.reduceNe, Int.reduceLT, Int.reduceLE, Int.reduceGT, Int.reduceGE, Int.reduceBEq, Int.reduceBNe, ↓reduceIte] at h331
        obtain ⟨h332, h⟩ := F_gd h
        try simp (disch := first | assumption | (simp; done) | omega | (simp; omega)) only [push_cast, reduceCtorEq, Nat.reduceEqDiff, Nat.reduceAdd, Nat.reduceSub, Nat.reduceMul, Nat.reduceLeDiff, Nat.reduceLT, Int.reduceEq, Int.reduceNe, Int.reduceLT, Int.reduceLE, Int.reduceGT, Int.reduceGE, Int.reduceBEq, Int.reduceBNe, ↓reduceIte] at h332
        rcases F_if h with ⟨h333, h⟩ | ⟨h333, h⟩
        · try simp (disch := first | assumption | (simp; done) | omega | (simp; omega)) only [push_cast, reduceCtorEq, Nat.reduceEqDiff, Nat.reduceAdd, Nat.reduceSub, Nat.reduceMul, Nat.reduceLeDiff, Nat.reduceLT, Int.reduceEq, Int.reduceNe, Int.reduceLT, Int.reduceLE, Int.reduceGT, Int.reduceGE, Int.reduceBEq, Int.reduceBNe, ↓reduceIte] at h333
          obtain rfl := Option.some.inj h
          simp (config := { maxSteps := 1000000 }) (disch := first | assumption | (simp; done) | omega | (simp; omega)) only [push_cast, reduceCtorEq, Nat.reduceEqDiff, Nat.reduceAdd, Nat.reduceSub, Nat.reduceMul, Nat.reduceLeDiff, Nat.reduceLT, Int.reduceEq, Int.reduceNe, Int.reduceLT, Int.reduceLE, Int.reduceGT, Int.reduceGE, Int.reduceBEq, Int.reduceBNe, ↓reduceIte, h314, h315, h319, h327, h328, h329, h331, h332, h333]
          refine e_ret (.inr rfl) ?_
          simp (config := { maxSteps := 1000000 }) (disch := first | assumption | (simp; done) | omega | (simp; omega)) only [push_cast, reduceCtorEq, Nat.reduceEqDiff, Nat.reduceAdd, Nat.reduceSub, Nat.reduceMul, Nat.reduceLeDiff, Nat.reduceLT, Int.reduceEq, Int.reduceNe, Int.reduceLT, Int.reduceLE, Int.reduceGT, Int.reduceGE, Int.reduceBEq, Int.reduceBNe, ↓reduceIte, aret, aresults, aresult, h314, h315, h319, h327, h328, h329, h331, h332, h333]
          refine ⟨_, rfl, ?_⟩
          first | (simp (config := { maxSteps := 1000000 }) (disch := first | assumption | (simp; done) | omega | (simp; omega)) only [push_cast, reduceCtorEq, Nat.reduceEqDiff, Nat.reduceAdd, Nat.reduceSub, Nat.reduceMul, Nat.reduceLeDiff, Nat.reduceLT, Int.reduceEq, Int.reduceNe, Int.reduceLT, Int.reduceLE, Int.reduceGT, Int.reduceGE, Int.reduceBEq, Int.reduceBNe, ↓reduceIte, h314, h315, h319, h327, h328, h329, h331, h332, h333] <;> rfl) | rfl
        · try simp (disch := first | assumption | (simp; done) | omega | (simp; omega)) only [push_cast, reduceCtorEq, Nat.reduceEqDiff, Nat.reduceAdd, Nat.reduceSub, Nat.reduceMul, Nat.reduceLeDiff, Nat.reduceLT, Int.reduceEq, Int.reduceNe, Int.reduceLT, Int.reduceLE, Int.reduceGT, Int.reduceGE, Int.reduceBEq, Int.reduceBNe, ↓reduceIte] at h333
          obtain rfl := Option.some.inj h
          simp (config := { maxSteps := 1000000 }) (disch := first | assumption | (simp; done) | omega | (simp; omega)) only [push_cast, reduceCtorEq, Nat.reduceEqDiff, Nat.reduceAdd, Nat.reduceSub, Nat.reduceMul, Nat.reduceLeDiff, Nat.reduceLT, Int.reduceEq, Int.reduceNe, Int.reduceLT, Int.reduceLE, Int.reduceGT, Int.reduceGE, Int.reduceBEq, Int.reduceBNe, ↓reduceIte, h314, h315, h319, h327, h328, h329, h331, h332, h333]
          refine e_ret (.inr rfl) ?_
          simp (config := { maxSteps := 1000000 }) (disch := first | assumption | (simp; done) | omega | (simp; omega)) only [push_cast, reduceCtorEq, Nat.reduceEqDiff, Nat.reduceAdd, Nat.reduceSub, Nat.reduceMul, Nat.reduceLeDiff, Nat.reduceLT, Int.reduceEq, Int.reduceNe, Int.reduceLT, Int.reduceLE, Int.reduceGT, Int.reduceGE, Int.reduceBEq, Int.reduceBNe, ↓reduceIte, aret, aresults, aresult, h314, h315, h319, h327, h328, h329, h331, h332, h333]
          refine ⟨_, rfl, ?_⟩
          first | (simp (config := { maxSteps := 1000000 }) (disch := first | assumption | (simp; done) | omega | (simp; omega)) only [push_cast, reduceCtorEq, Nat.reduceEqDiff, Nat.reduceAdd, Nat.reduceSub, Nat.reduceMul, Nat.reduceLeDiff, Nat.reduceLT, Int.reduceEq, Int.reduceNe, Int.reduceLT, Int.reduceLE, Int.reduceGT, Int.reduceGE, Int.reduceBEq, Int.reduceBNe, ↓reduceIte, h314, h315, h319, h327, h328, h329, h331, h332, h333] <;> rfl) | rfl
      · try simp (disch := first | assumption | (simp; done) | omega | (simp; omega)) only [push_cast, reduceCtorEq, Nat.reduceEqDiff, Nat.reduceAdd, Nat.reduceSub, Nat.reduceMul, Nat.reduceLeDiff, Nat.reduceLT, Int.reduceEq, Int.reduceNe, Int.reduceLT, Int.reduceLE, Int.reduceGT, Int.reduceGE, Int.reduceBEq, Int.reduceBNe, ↓reduceIte] at h327
        rcases F_if h with ⟨h334, h⟩ | ⟨h334, h⟩
        · try simp (disch := first | assumption | (simp; done) | omega | (simp; omega)) only [push_cast, reduceCtorEq, Nat.reduceEqDiff, Nat.reduceAdd, Nat.reduceSub, Nat.reduceMul, Nat.reduceLeDiff, Nat.reduceLT, Int.reduceEq, Int.reduceNe, Int.reduceLT, Int.reduceLE, Int.reduceGT, Int.reduceGE, Int.reduceBEq, Int.reduceBNe, ↓reduceIte] at h334
          rcases F_if h with ⟨h335, h⟩ | ⟨h335, h⟩
          · try simp (disch := first | assumption | (simp; done) | omega | (simp; omega)) only [push_cast, reduceCtorEq, Nat.reduceEqDiff, Nat.reduceAdd, Nat.reduceSub, Nat.reduceMul, Nat.reduceLeDiff, Nat.reduceLT, Int.reduceEq, Int.reduceNe, Int.reduceLT, Int.reduceLE, Int.reduceGT, Int.reduceGE, Int.reduceBEq, Int.reduceBNe, ↓reduceIte] at h335
            obtain ⟨h336, h⟩ := F_ck h
            try simp (disch := first | assumption | (simp; done) | omega | (simp; omega)) only [push_cast, reduceCtorEq, Nat.reduceEqDiff, Nat.reduceAdd, Nat.reduceSub, Nat.reduceMul, Nat.reduceLeDiff, Nat.reduceLT, Int.reduceEq, Int.reduceNe, Int.reduceLT, Int.reduceLE, Int.reduceGT, Int.reduceGE, Int.reduceBEq, Int.reduceBNe, ↓reduceIte] at h336
            obtain ⟨h337, h⟩ := F_gd h
            try simp (disch := first | assumption | (simp; done) | omega | (simp; omega)) only [push_cast, reduceCtorEq, Nat.reduceEqDiff, Nat.reduceAdd, Nat.reduceSub, Nat.reduceMul, Nat.reduceLeDiff, Nat.reduceLT, Int.reduceEq, Int.reduceNe, Int.reduceLT, Int.reduceLE, Int.reduceGT, Int.reduceGE, Int.reduceBEq, Int.reduceBNe, ↓reduceIte] at h337
            obtain ⟨x6, h338, h339, h⟩ := F_get h
            have h341 := get_lt h338 h339
            have h340 := map_get Frame.row h339
            try simp (disch := first | assumption | (simp; done) | omega | (simp; omega)) only [push_cast, reduceCtorEq, Nat.reduceEqDiff, Nat.reduceAdd, Nat.reduceSub, Nat.reduceMul, Nat.reduceLeDiff, Nat.reduceLT, Int.reduceEq, Int.reduceNe, Int.reduceLT, Int.reduceLE, Int.reduceGT, Int.reduceGE, Int.reduceBEq, Int.reduceBNe, ↓reduceIte] at h340
            try simp (disch := first | assumption | (simp; done) | omega | (simp; omega)) only [push_cast, reduceCtorEq, Nat.reduceEqDiff, Nat.reduceAdd, Nat.reduceSub, Nat.reduceMul, Nat.reduceLeDiff, Nat.reduceLT, Int.reduceEq, Int.reduceNe, Int.reduceLT, Int.reduceLE, Int.reduceGT, Int.reduceGE, Int.reduceBEq, Int.reduceBNe, ↓reduceIte] at h341
            obtain ⟨v7, h342, h⟩ := F_bd h
            simp (config := { maxSteps := 1000000 }) (disch := first | assumption | (simp; done) | omega | (simp; omega)) only [push_cast, reduceCtorEq, Nat.reduceEqDiff, Nat.reduceAdd, Nat.reduceSub, Nat.reduceMul, Nat.reduceLeDiff, Nat.reduceLT, Int.reduceEq, Int.reduceNe, Int.reduceLT, Int.reduceLE, Int.reduceGT, Int.reduceGE, Int.reduceBEq, Int.reduceBNe, ↓reduceIte, h314, h315, h319, h327, h334, h335, h336, h337, h338, h340, h341]
            refine call_new (by rfl) (c23 N _ _ _ h342) ?_ rfl ?_
            · simp (config := { maxSteps := 1000000 }) (disch := first | assumption | (simp; done) | omega | (simp; omega)) only [push_cast, reduceCtorEq, Nat.reduceEqDiff, Nat.reduceAdd, Nat.reduceSub, Nat.reduceMul, Nat.reduceLeDiff, Nat.reduceLT, Int.reduceEq, Int.reduceNe, Int.reduceLT, Int.reduceLE, Int.reduceGT, Int.reduceGE, Int.reduceBEq, Int.reduceBNe, ↓reduceIte, h314, h315, h319, h327, h334, h335, h336, h337, h338, h340, h341] <;> rfl
            obtain ⟨h343, h⟩ := F_gd h
            try simp (disch := first | assumption | (simp; done) | omega | (simp; omega)) only [push_cast, reduceCtorEq, Nat.reduceEqDiff, Nat.reduceAdd, Nat.reduceSub, Nat.reduceMul, Nat.reduceLeDiff, Nat.reduceLT, Int.reduceEq, Int.reduceNe, Int.reduceLT, Int.reduceLE, Int.reduceGT, Int.reduceGE, Int.reduceBEq, Int.reduceBNe, ↓reduceIte] at h343
            obtain ⟨h344, h⟩ := F_gd h
            try simp (disch := first | assumption | (simp; done) | omega | (simp; omega)) only [push_cast, reduceCtorEq, Nat.reduceEqDiff, Nat.reduceAdd, Nat.reduceSub, Nat.reduceMul, Nat.reduceLeDiff, Nat.reduceLT, Int.reduceEq, Int.reduceNe, Int.reduceLT, Int.reduceLE, Int.reduceGT, Int.reduceGE, Int.reduceBEq, Int.reduceBNe, ↓reduceIte] at h344
            obtain ⟨h345, h⟩ := F_gd h
            try simp (disch := first | assumption | (simp; done) | omega | (simp; omega)) only [push_cast, reduceCtorEq, Nat.reduceEqDiff, Nat.reduceAdd, Nat.reduceSub, Nat.reduceMul, Nat.reduceLeDiff, Nat.reduceLT, Int.reduceEq, Int.reduceNe, Int.reduceLT, Int.reduceLE, Int.reduceGT, Int.reduceGE, Int.reduceBEq, Int.reduceBNe, ↓reduceIte] at h345
            obtain ⟨h346, h⟩ := F_gd h
            try simp (disch := first | assumption | (simp; done) | omega | (simp; omega)) only [push_cast, reduceCtorEq, Nat.reduceEqDiff, Nat.reduceAdd, Nat.reduceSub, Nat.reduceMul, Nat.reduceLeDiff, Nat.reduceLT, Int.reduceEq, Int.reduceNe, Int.reduceLT, Int.reduceLE, Int.reduceGT, Int.reduceGE, Int.reduceBEq, Int.reduceBNe, ↓reduceIte] at h346
            rcases F_if h with ⟨h347, h⟩ | ⟨h347, h⟩
            · try simp (disch := first | assumption | (simp; done) | omega | (simp; omega)) only [push_cast, reduceCtorEq, Nat.reduceEqDiff, Nat.reduceAdd, Nat.reduceSub, Nat.reduceMul, Nat.reduceLeDiff, Nat.reduceLT, Int.reduceEq, Int.reduceNe, Int.reduceLT, Int.reduceLE, Int.reduceGT, Int.reduceGE, Int.reduceBEq, Int.reduceBNe, ↓reduceIte] at h347
              obtain rfl := Option.some.inj h
              simp (config := { maxSteps := 1000000 }) (disch := first | assumption | (simp; done) | omega | (simp; omega)) only [push_cast, reduceCtorEq, Nat.reduceEqDiff, Nat.reduceAdd, Nat.reduceSub, Nat.reduceMul, Nat.reduceLeDiff, Nat.reduceLT, Int.reduceEq, Int.reduceNe, Int.reduceLT, Int.reduceLE, Int.reduceGT, Int.reduceGE, Int.reduceBEq, Int.reduceBNe, ↓reduceIte, h314, h315, h319, h327, h334, h335, h336, h337, h338, h340, h341, h343, h344, h345, h346, h347]
              refine e_ret (.inr rfl) ?_
              simp (config := { maxSteps := 1000000 }) (disch := first | assumption | (simp; done) | omega | (simp; omega)) only [push_cast, reduceCtorEq, Nat.reduceEqDiff, Nat.reduceAdd, Nat.reduceSub, Nat.reduceMul, Nat.reduceLeDiff, Nat.reduceLT, Int.reduceEq, Int.reduceNe, Int.reduceLT, Int.reduceLE, Int.reduceGT, Int.reduceGE, Int.reduceBEq, Int.reduceBNe, ↓reduceIte, aret, aresults, aresult, h314, h315, h319, h327, h334, h335, h336, h337, h338, h340, h341, h343, h344, h345, h346, h347]
              refine ⟨_, rfl, ?_⟩
              first | (simp (config := { maxSteps := 1000000 }) (disch := first | assumption | (simp; done) | omega | (simp; omega)) only [push_cast, reduceCtorEq, Nat.reduceEqDiff, Nat.reduceAdd, Nat.reduceSub, Nat.reduceMul, Nat.reduceLeDiff, Nat.reduceLT, Int.reduceEq, Int.reduceNe, Int.reduceLT, Int.reduceLE, Int.reduceGT, Int.reduceGE, Int.reduceBEq, Int.reduceBNe, ↓reduceIte, h314, h315, h319, h327, h334, h335, h336, h337, h338, h340, h341, h343, h344, h345, h346, h347] <;> rfl) | rfl
            · try simp (disch := first | assumption | (simp; done) | omega | (simp; omega)) only [push_cast, reduceCtorEq, Nat.reduceEqDiff, Nat.reduceAdd, Nat.reduceSub, Nat.reduceMul, Nat.reduceLeDiff, Nat.reduceLT, Int.reduceEq, Int.reduceNe, Int.reduceLT, Int.reduceLE, Int.reduceGT, Int.reduceGE, Int.reduceBEq, Int.reduceBNe, ↓reduceIte] at h347
              obtain rfl := Option.some.inj h
              simp (config := { maxSteps := 1000000 }) (disch := first | assumption | (simp; done) | omega | (simp; omega)) only [push_cast, reduceCtorEq, Nat.reduceEqDiff, Nat.reduceAdd, Nat.reduceSub, Nat.reduceMul, Nat.reduceLeDiff, Nat.reduceLT, Int.reduceEq, Int.reduceNe, Int.reduceLT, Int.reduceLE, Int.reduceGT, Int.reduceGE, Int.reduceBEq, Int.reduceBNe, ↓reduceIte, h314, h315, h319, h327, h334, h335, h336, h337, h338, h340, h341, h343, h344, h345, h346, h347]
              refine e_ret (.inr rfl) ?_
              simp (config := { maxSteps := 1000000 }) (disch := first | assumption | (simp; done) | omega | (simp; omega)) only [push_cast, reduceCtorEq, Nat.reduceEqDiff, Nat.reduceAdd, Nat.reduceSub, Nat.reduceMul, Nat.reduceLeDiff, Nat.reduceLT, Int.reduceEq, Int.reduceNe, Int.reduceLT, Int.reduceLE, Int.reduceGT, Int.reduceGE, Int.reduceBEq, Int.reduceBNe, ↓reduceIte, aret, aresults, aresult, h314, h315, h319, h327, h334, h335, h336, h337, h338, h340, h341, h343, h344, h345, h346, h347]
              refine ⟨_, rfl, ?_⟩
              first | (simp (config := { maxSteps := 1000000 }) (disch := first | assumption | (simp; done) | omega | (simp; omega)) only [push_cast, reduceCtorEq, Nat.reduceEqDiff, Nat.reduceAdd, Nat.reduceSub, Nat.reduceMul, Nat.reduceLeDiff, Nat.reduceLT, Int.reduceEq, Int.reduceNe, Int.reduceLT, Int.reduceLE, Int.reduceGT, Int.reduceGE, Int.reduceBEq, Int.reduceBNe, ↓reduceIte, h314, h315, h319, h327, h334, h335, h336, h337, h338, h340, h341, h343, h344, h345, h346, h347] <;> rfl) | rfl
          · try simp (disch := first | assumption | (simp; done) | omega | (simp; omega)) only [push_cast, reduceCtorEq, Nat.reduceEqDiff, Nat.reduceAdd, Nat.reduceSub, Nat.reduceMul, Nat.reduceLeDiff, Nat.reduceLT, Int.reduceEq, Int.reduceNe, Int.reduceLT, Int.reduceLE, Int.reduceGT, Int.reduceGE, Int.reduceBEq, Int.reduceBNe, ↓reduceIte] at h335
            obtain rfl := Option.some.inj h
            simp (config := { maxSteps := 1000000 }) (disch := first | assumption | (simp; done) | omega | (simp; omega)) only [push_cast, reduceCtorEq, Nat.reduceEqDiff, Nat.reduceAdd, Nat.reduceSub, Nat.reduceMul, Nat.reduceLeDiff, Nat.reduceLT, Int.reduceEq, Int.reduceNe, Int.reduceLT, Int.reduceLE, Int.reduceGT, Int.reduceGE, Int.reduceBEq, Int.reduceBNe, ↓reduceIte, h314, h315, h319, h327, h334, h335]
            refine e_ret (.inr rfl) ?_
            simp (config := { maxSteps := 1000000 }) (disch := first | assumption | (simp; done) | omega | (simp; omega)) only [push_cast, reduceCtorEq, Nat.reduceEqDiff, Nat.reduceAdd, Nat.reduceSub, Nat.reduceMul, Nat.reduceLeDiff, Nat.reduceLT, Int.reduceEq, Int.reduceNe, Int.reduceLT, Int.reduceLE, Int.reduceGT, Int.reduceGE, Int.reduceBEq, Int.reduceBNe, ↓reduceIte, aret, aresults, aresult, h314, h315, h319, h327, h334, h335]
            refine ⟨_, rfl, ?_⟩
            first | (simp (config := { maxSteps := 1000000 }) (disch := first | assumption | (simp; done) | omega | (simp; omega)) only [push_cast, reduceCtorEq, Nat.reduceEqDiff, Nat.reduceAdd, Nat.reduceSub, Nat.reduceMul, Nat.reduceLeDiff, Nat.reduceLT, Int.reduceEq, Int.reduceNe, Int.reduceLT, Int.reduceLE, Int.reduceGT, Int.reduceGE, Int.reduceBEq, Int.reduceBNe, ↓reduceIte, h314, h315, h319, h327, h334, h335] <;> rfl) | rfl
        · try simp (disch := first | assumption | (simp; done) | omega | (simp; omega)) only [push_cast, reduceCtorEq, Nat.reduceEqDiff, Nat.reduceAdd, Nat.reduceSub, Nat.reduceMul, Nat.reduceLeDiff, Nat.reduceLT, Int.reduceEq, Int.reduceNe, Int.reduceLT, Int.reduceLE, Int.reduceGT, Int.reduceGE, Int.reduceBEq, Int.reduceBNe, ↓reduceIte] at h334
          rcases F_if h with ⟨h348, h⟩ | ⟨h348, h⟩
          · try simp (disch := first | assumption | (simp; done) | omega | (simp; omega)) only [push_cast, reduceCtorEq, Nat.reduceEqDiff, Nat.reduceAdd, Nat.reduceSub, Nat.reduceMul, Nat.reduceLeDiff, Nat.reduceLT, Int.reduceEq, Int.reduceNe, Int.reduceLT, Int.reduceLE, Int.reduceGT, Int.reduceGE, Int.reduceBEq, Int.reduceBNe, ↓reduceIte] at h348
            rcases F_if h with ⟨h349, h⟩ | ⟨h349, h⟩
            · try simp (disch := first | assumption | (simp; done) | omega | (simp; omega)) only [push_cast, reduceCtorEq, Nat.reduceEqDiff, Nat.reduceAdd, Nat.reduceSub, Nat.reduceMul, Nat.reduceLeDiff, Nat.reduceLT, Int.reduceEq, Int.reduceNe, Int.reduceLT, Int.reduceLE, Int.reduceGT, Int.reduceGE, Int.reduceBEq, Int.reduceBNe, ↓reduceIte] at h349
              obtain ⟨h350, h⟩ := F_ck h
              try simp (disch := first | assumption | (simp; done) | omega | (simp; omega)) only [push_cast, reduceCtorEq, Nat.reduceEqDiff, Nat.reduceAdd, Nat.reduceSub, Nat.reduceMul, Nat.reduceLeDiff, Nat.reduceLT, Int.reduceEq, Int.reduceNe, Int.reduceLT, Int.reduceLE, Int.reduceGT, Int.reduceGE, Int.reduceBEq, Int.reduceBNe, ↓reduceIte] at h350
              obtain ⟨h351, h⟩ := F_gd h
              try simp (disch := first | assumption | (simp; done) | omega | (simp; omega)) only [push_cast, reduceCtorEq, Nat.reduceEqDiff, Nat.reduceAdd, Nat.reduceSub, Nat.reduceMul, Nat.reduceLeDiff, Nat.reduceLT, Int.reduceEq, Int.reduceNe, Int.reduceLT, Int.reduceLE, Int.reduceGT, Int.reduceGE, Int.reduceBEq, Int.reduceBNe, ↓reduceIte] at h351
              obtain ⟨x8, h352, h353, h⟩ := F_get h
              have h355 := get_lt h352 h353
              have h354 := map_get (rI .i64) h353
              try simp (disch := first | assumption | (simp; done) | omega | (simp; omega)) only [push_cast, reduceCtorEq, Nat.reduceEqDiff, Nat.reduceAdd, Nat.reduceSub, Nat.reduceMul, Nat.reduceLeDiff, Nat.reduceLT, Int.reduceEq, Int.reduceNe, Int.reduceLT, Int.reduceLE, Int.reduceGT, Int.reduceGE, Int.reduceBEq, Int.reduceBNe, ↓reduceIte] at h354
              try simp (disch := first | assumption | (simp; done) | omega | (simp; omega)) only [push_cast, reduceCtorEq, Nat.reduceEqDiff, Nat.reduceAdd, Nat.reduceSub, Nat.reduceMul, Nat.reduceLeDiff, Nat.reduceLT, Int.reduceEq, Int.reduceNe, Int.reduceLT, Int.reduceLE, Int.reduceGT, Int.reduceGE, Int.reduceBEq, Int.reduceBNe, ↓reduceIte] at h355
              obtain ⟨v9, h356, h⟩ := F_bd h
              simp (config := { maxSteps := 1000000 }) (disch := first | assumption | (simp; done) | omega | (simp; omega)) only [push_cast, reduceCtorEq, Nat.reduceEqDiff, Nat.reduceAdd, Nat.reduceSub, Nat.reduceMul, Nat.reduceLeDiff, Nat.reduceLT, Int.reduceEq, Int.reduceNe, Int.reduceLT, Int.reduceLE, Int.reduceGT, Int.reduceGE, Int.reduceBEq, Int.reduceBNe, ↓reduceIte, h314, h315, h319, h327, h334, h348, h349, h350, h351, h352, h354, h355]
              refine call_new (by rfl) (c13 N _ _ _ h356) ?_ rfl ?_
              · simp (config := { maxSteps := 1000000 }) (disch := first | assumption | (simp; done) | omega | (simp; omega)) only [push_cast, reduceCtorEq, Nat.reduceEqDiff, Nat.reduceAdd, Nat.reduceSub, Nat.reduceMul, Nat.reduceLeDiff, Nat.reduceLT, Int.reduceEq, Int.reduceNe, Int.reduceLT, Int.reduceLE, Int.reduceGT, Int.reduceGE, Int.reduceBEq, Int.reduceBNe, ↓reduceIte, h314, h315, h319, h327, h334, h348, h349, h350, h351, h352, h354, h355] <;> rfl
              rcases F_if h with ⟨h357, h⟩ | ⟨h357, h⟩
              · try simp (disch := first | assumption | (simp; done) | omega | (simp; omega)) only [push_cast, reduceCtorEq, Nat.reduceEqDiff, Nat.reduceAdd, Nat.reduceSub, Nat.reduceMul, Nat.reduceLeDiff, Nat.reduceLT, Int.reduceEq, Int.reduceNe, Int.reduceLT, Int.reduceLE, Int.reduceGT, Int.reduceGE, Int.reduceBEq, Int.reduceBNe, ↓reduceIte] at h357
                obtain rfl := Option.some.inj h
                simp (config := { maxSteps := 1000000 }) (disch := first | assumption | (simp; done) | omega | (simp; omega)) only [push_cast, reduceCtorEq, Nat.reduceEqDiff, Nat.reduceAdd, Nat.reduceSub, Nat.reduceMul, Nat.reduceLeDiff, Nat.reduceLT, Int.reduceEq, Int.reduceNe, Int.reduceLT, Int.reduceLE, Int.reduceGT, Int.reduceGE, Int.reduceBEq, Int.reduceBNe, ↓reduceIte, h314, h315, h319, h327, h334, h348, h349, h350, h351, h352, h354, h355, h357]
                refine e_ret (.inr rfl) ?_
                simp (config := { maxSteps := 1000000 }) (disch := first | assumption | (simp; done) | omega | (simp; omega)) only [push_cast, reduceCtorEq, Nat.reduceEqDiff, Nat.reduceAdd, Nat.reduceSub, Nat.reduceMul, Nat.reduceLeDiff, Nat.reduceLT, Int.reduceEq, Int.reduceNe, Int.reduceLT, Int.reduceLE, Int.reduceGT, Int.reduceGE, Int.reduceBEq, Int.reduceBNe, ↓reduceIte, aret, aresults, aresult, h314, h315, h319, h327, h334, h348, h349, h350, h351, h352, h354, h355, h357]
                refine ⟨_, rfl, ?_⟩
                first | (simp (config := { maxSteps := 1000000 }) (disch := first | assumption | (simp; done) | omega | (simp; omega)) only [push_cast, reduceCtorEq, Nat.reduceEqDiff, Nat.reduceAdd, Nat.reduceSub, Nat.reduceMul, Nat.reduceLeDiff, Nat.reduceLT, Int.reduceEq, Int.reduceNe, Int.reduceLT, Int.reduceLE, Int.reduceGT, Int.reduceGE, Int.reduceBEq, Int.reduceBNe, ↓reduceIte, h314, h315, h319, h327, h334, h348, h349, h350, h351, h352, h354, h355, h357] <;> rfl) | rfl
              · try simp (disch := first | assumption | (simp; done) | omega | (simp; omega)) only [push_cast, reduceCtorEq, Nat.reduceEqDiff, Nat.reduceAdd, Nat.reduceSub, Nat.reduceMul, Nat.reduceLeDiff, Nat.reduceLT, Int.reduceEq, Int.reduceNe, Int.reduceLT, Int.reduceLE, Int.reduceGT, Int.reduceGE, Int.reduceBEq, Int.reduceBNe, ↓reduceIte] at h357
                obtain rfl := Option.some.inj h
                simp (config := { maxSteps := 1000000 }) (disch := first | assumption | (simp; done) | omega | (simp; omega)) only [push_cast, reduceCtorEq, Nat.reduceEqDiff, Nat.reduceAdd, Nat.reduceSub, Nat.reduceMul, Nat.reduceLeDiff, Nat.reduceLT, Int.reduceEq, Int.reduceNe, Int.reduceLT, Int.reduceLE, Int.reduceGT, Int.reduceGE, Int.reduceBEq, Int.reduceBNe, ↓reduceIte, h314, h315, h319, h327, h334, h348, h349, h350, h351, h352, h354, h355, h357]
                refine e_ret (.inr rfl) ?_
                simp (config := { maxSteps := 1000000 }) (disch := first | assumption | (simp; done) | omega | (simp; omega)) only [push_cast, reduceCtorEq, Nat.reduceEqDiff, Nat.reduceAdd, Nat.reduceSub, Nat.reduceMul, Nat.reduceLeDiff, Nat.reduceLT, Int.reduceEq, Int.reduceNe, Int.reduceLT, Int.reduceLE, Int.reduceGT, Int.reduceGE, Int.reduceBEq, Int.reduceBNe, ↓reduceIte, aret, aresults, aresult, h314, h315, h319, h327, h334, h348, h349, h350, h351, h352, h354, h355, h357]
                refine ⟨_, rfl, ?_⟩
                first | (simp (config := { maxSteps := 1000000 }) (disch := first | assumption | (simp; done) | omega | (simp; omega)) only [push_cast, reduceCtorEq, Nat.reduceEqDiff, Nat.reduceAdd, Nat.reduceSub, Nat.reduceMul, Nat.reduceLeDiff, Nat.reduceLT, Int.reduceEq, Int.reduceNe, Int.reduceLT, Int.reduceLE, Int.reduceGT, Int.reduceGE, Int.reduceBEq, Int.reduceBNe, ↓reduceIte, h314, h315, h319, h327, h334, h348, h349, h350, h351, h352, h354, h355, h357] <;> rfl) | rfl
            · try simp (disch := first | assumption | (simp; done) | omega | (simp; omega)) only [push_cast, reduceCtorEq, Nat.reduceEqDiff, Nat.reduceAdd, Nat.reduceSub, Nat.reduceMul, Nat.reduceLeDiff, Nat.reduceLT, Int.reduceEq, Int.reduceNe, Int.reduceLT, Int.reduceLE, Int.reduceGT, Int.reduceGE, Int.reduceBEq, Int.reduceBNe, ↓reduceIte] at h349
              obtain rfl := Option.some.inj h
              simp (config := { maxSteps := 1000000 }) (disch := first | assumption | (simp; done) | omega | (simp; omega)) only [push_cast, reduceCtorEq, Nat.reduceEqDiff, Nat.reduceAdd, Nat.reduceSub, Nat.reduceMul, Nat.reduceLeDiff, Nat.reduceLT, Int.reduceEq, Int.reduceNe, Int.reduceLT, Int.reduceLE, Int.reduceGT, Int.reduceGE, Int.reduceBEq, Int.reduceBNe, ↓reduceIte, h314, h315, h319, h327, h334, h348, h349]
              refine e_ret (.inr rfl) ?_
              simp (config := { maxSteps := 1000000 }) (disch := first | assumption | (simp; done) | omega | (simp; omega)) only [push_cast, reduceCtorEq, Nat.reduceEqDiff, Nat.reduceAdd, Nat.reduceSub, Nat.reduceMul, Nat.reduceLeDiff, Nat.reduceLT, Int.reduceEq, Int.reduceNe, Int.reduceLT, Int.reduceLE, Int.reduceGT, Int.reduceGE, Int.reduceBEq, Int.reduceBNe, ↓reduceIte, aret, aresults, aresult, h314, h315, h319, h327, h334, h348, h349]
              refine ⟨_, rfl, ?_⟩
              first | (simp (config := { maxSteps := 1000000 }) (disch := first | assumption | (simp; done) | omega | (simp; omega)) only [push_cast, reduceCtorEq, Nat.reduceEqDiff, Nat.reduceAdd, Nat.reduceSub, Nat.reduceMul, Nat.reduceLeDiff, Nat.reduceLT, Int.reduceEq, Int.reduceNe, Int.reduceLT, Int.reduceLE, Int.reduceGT, Int.reduceGE, Int.reduceBEq, Int.reduceBNe, ↓reduceIte, h314, h315, h319, h327, h334, h348, h349] <;> rfl) | rfl
          · try simp (disch := first | assumption | (simp; done) | omega | (simp; omega)) only [push_cast, reduceCtorEq, Nat.reduceEqDiff, Nat.reduceAdd, Nat.reduceSub, Nat.reduceMul, Nat.reduceLeDiff, Nat.reduceLT, Int.reduceEq, Int.reduceNe, Int.reduceLT, Int.reduceLE, Int.reduceGT, Int.reduceGE, Int.reduceBEq, Int.reduceBNe, ↓reduceIte] at h348
            rcases F_if h with ⟨h358, h⟩ | ⟨h358, h⟩
            · try simp (disch := first | assumption | (simp; done) | omega | (simp; omega)) only [push_cast, reduceCtorEq, Nat.reduceEqDiff, Nat.reduceAdd, Nat.reduceSub, Nat.reduceMul, Nat.reduceLeDiff, Nat.reduceLT, Int.reduceEq, Int.reduceNe, Int.reduceLT, Int.reduceLE, Int.reduceGT, Int.reduceGE, Int.reduceBEq, Int.reduceBNe, ↓reduceIte] at h358
              obtain ⟨v10, h359, h⟩ := F_bd h
              simp (config := { maxSteps := 1000000 }) (disch := first | assumption | (simp; done) | omega | (simp; omega)) only [push_cast, reduceCtorEq, Nat.reduceEqDiff, Nat.reduceAdd, Nat.reduceSub, Nat.reduceMul, Nat.reduceLeDiff, Nat.reduceLT, Int.reduceEq, Int.reduceNe, Int.reduceLT, Int.reduceLE, Int.reduceGT, Int.reduceGE, Int.reduceBEq, Int.reduceBNe, ↓reduceIte, h314, h315, h319, h327, h334, h348, h358]
              refine call_new (by rfl) (c25 N _ _ h359) ?_ rfl ?_
              · simp (config := { maxSteps := 1000000 }) (disch := first | assumption | (simp; done) | omega | (simp; omega)) only [push_cast, reduceCtorEq, Nat.reduceEqDiff, Nat.reduceAdd, Nat.reduceSub, Nat.reduceMul, Nat.reduceLeDiff, Nat.reduceLT, Int.reduceEq, Int.reduceNe, Int.reduceLT, Int.reduceLE, Int.reduceGT, Int.reduceGE, Int.reduceBEq, Int.reduceBNe, ↓reduceIte, h314, h315, h319, h327, h334, h348, h358] <;> rfl
              obtain rfl := Option.some.inj h
              simp (config := { maxSteps := 1000000 }) (disch := first | assumption | (simp; done) | omega | (simp; omega)) only [push_cast, reduceCtorEq, Nat.reduceEqDiff, Nat.reduceAdd, Nat.reduceSub, Nat.reduceMul, Nat.reduceLeDiff, Nat.reduceLT, Int.reduceEq, Int.reduceNe, Int.reduceLT, Int.reduceLE, Int.reduceGT, Int.reduceGE, Int.reduceBEq, Int.reduceBNe, ↓reduceIte, h314, h315, h319, h327, h334, h348, h358]
              refine e_ret (.inr rfl) ?_
              simp (config := { maxSteps := 1000000 }) (disch := first | assumption | (simp; done) | omega | (simp; omega)) only [push_cast, reduceCtorEq, Nat.reduceEqDiff, Nat.reduceAdd, Nat.reduceSub, Nat.reduceMul, Nat.reduceLeDiff, Nat.reduceLT, Int.reduceEq, Int.reduceNe, Int.reduceLT, Int.reduceLE, Int.reduceGT, Int.reduceGE, Int.reduceBEq, Int.reduceBNe, ↓reduceIte, aret, aresults, aresult, h314, h315, h319, h327, h334, h348, h358]
              refine ⟨_, rfl, ?_⟩
              first | (simp (config := { maxSteps := 1000000 }) (disch := first | assumption | (simp; done) | omega | (simp; omega)) only [push_cast, reduceCtorEq, Nat.reduceEqDiff, Nat.reduceAdd, Nat.reduceSub, Nat.reduceMul, Nat.reduceLeDiff, Nat.reduceLT, Int.reduceEq, Int.reduceNe, Int.reduceLT, Int.reduceLE, Int.reduceGT, Int.reduceGE, Int.reduceBEq, Int.reduceBNe, ↓reduceIte, h314, h315, h319, h327, h334, h348, h358] <;> rfl) | rfl
            · try simp (disch := first | assumption | (simp; done) | omega | (simp; omega)) only [push_cast, reduceCtorEq, Nat.reduceEqDiff, Nat.reduceAdd, Nat.reduceSub, Nat.reduceMul, Nat.reduceLeDiff, Nat.reduceLT, Int.reduceEq, Int.reduceNe, Int.reduceLT, Int.reduceLE, Int.reduceGT, Int.reduceGE, Int.reduceBEq, Int.reduceBNe, ↓reduceIte] at h358
              obtain rfl := Option.some.inj h
              simp (config := { maxSteps := 1000000 }) (disch := first | assumption | (simp; done) | omega | (simp; omega)) only [push_cast, reduceCtorEq, Nat.reduceEqDiff, Nat.reduceAdd, Nat.reduceSub, Nat.reduceMul, Nat.reduceLeDiff, Nat.reduceLT, Int.reduceEq, Int.reduceNe, Int.reduceLT, Int.reduceLE, Int.reduceGT, Int.reduceGE, Int.reduceBEq, Int.reduceBNe, ↓reduceIte, h314, h315, h319, h327, h334, h348, h358]
              refine e_ret (.inr rfl) ?_
              simp (config := { maxSteps := 1000000 }) (disch := first | assumption | (simp; done) | omega | (simp; omega)) only [push_cast, reduceCtorEq, Nat.reduceEqDiff, Nat.reduceAdd, Nat.reduceSub, Nat.reduceMul, Nat.reduceLeDiff, Nat.reduceLT, Int.reduceEq, Int.reduceNe, Int.reduceLT, Int.reduceLE, Int.reduceGT, Int.reduceGE, Int.reduceBEq, Int.reduceBNe, ↓reduceIte, aret, aresults, aresult, h314, h315, h319, h327, h334, h348, h358]
              refine ⟨_, rfl, ?_⟩
              first | (simp (config := { maxSteps := 1000000 }) (disch := first | assumption | (simp; done) | omega | (simp; omega)) only [push_cast, reduceCtorEq, Nat.reduceEqDiff, Nat.reduceAdd, Nat.reduceSub, Nat.reduceMul, Nat.reduceLeDiff, Nat.reduceLT, Int.reduceEq, Int.reduceNe, Int.reduceLT, Int.reduceLE, Int.reduceGT, Int.reduceGE, Int.reduceBEq, Int.reduceBNe, ↓reduceIte, h314, h315, h319, h327, h334, h348, h358] <;> rfl) | rfl

end Go.Proofs.Try
