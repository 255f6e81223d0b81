/- slices.Insert. -/
import Derived.Test.YtakffbnhhfkipaaE28
set_option linter.unusedSimpArgs false
set_option linter.unusedVariables false
namespace Go.Eng
open Go.RowKit
set_option maxRecDepth 8000

def insg0 : List RO := [⟨(.some 6), (.mv (.const (.slice .none 0 0))), .none⟩]
def insg1 (k : Nat) : List RO := [⟨(.some 10), (.mv (.tmp 0)), .none⟩, ⟨(.some 11), (.mv (.tmp 1)), .none⟩, ⟨(.some 12), (.sll k (.tmp 10) (.some (.tmp 11)) .none .none), .none⟩]
def insg2 : List RO := [⟨(.some 13), (.mv (.tmp 2)), .none⟩, ⟨(.some 14), (.len .false (.tmp 13)), .none⟩, ⟨(.some 7), (.mv (.tmp 14)), .none⟩]
def insg3 : List RO := [⟨(.some 15), (.mv (.tmp 7)), .none⟩, ⟨(.some 16), (.bin .eql (.tmp 15) (.const (.int .i64 0))), .none⟩]
def insg4 : List RO := [⟨(.some 17), (.mv (.tmp 0)), .none⟩, ⟨(.some 6), (.mv (.tmp 17)), .none⟩]
def insg5 : List RO := [⟨(.some 18), (.mv (.tmp 0)), .none⟩, ⟨(.some 19), (.len .false (.tmp 18)), .none⟩, ⟨(.some 8), (.mv (.tmp 19)), .none⟩]
def insg6 : List RO := [⟨(.some 20), (.mv (.tmp 1)), .none⟩, ⟨(.some 21), (.mv (.tmp 8)), .none⟩, ⟨(.some 22), (.bin .eql (.tmp 20) (.tmp 21)), .none⟩]
def insg7 (k : Nat) (bytes : Nat) : List RO := [⟨(.some 23), (.mv (.tmp 0)), .none⟩, ⟨(.some 24), (.mv (.tmp 2)), .none⟩, ⟨(.some 25), (.appE k bytes (.tmp 23) (.tmp 24)), .none⟩, ⟨(.some 6), (.mv (.tmp 25)), .none⟩]
def insg8 : List RO := [⟨(.some 26), (.mv (.tmp 8)), .none⟩, ⟨(.some 27), (.mv (.tmp 7)), .none⟩, ⟨(.some 28), (.bin .add (.tmp 26) (.tmp 27)), .none⟩, ⟨(.some 29), (.mv (.tmp 0)), .none⟩, ⟨(.some 30), (.capK (.tmp 29)), .none⟩, ⟨(.some 31), (.bin .gtr (.tmp 28) (.tmp 30)), .none⟩]
def insg9 (k : Nat) (bytes : Nat) (zs : List DV) : List RO := [⟨(.some 32), (.mv (.tmp 0)), .none⟩, ⟨(.some 33), (.mv (.tmp 1)), .none⟩, ⟨(.some 34), (.sll k (.tmp 32) .none (.some (.tmp 33)) .none), .none⟩, ⟨(.some 35), (.mv (.tmp 8)), .none⟩, ⟨(.some 36), (.mv (.tmp 7)), .none⟩, ⟨(.some 37), (.bin .add (.tmp 35) (.tmp 36)), .none⟩, ⟨(.some 38), (.mv (.tmp 1)), .none⟩, ⟨(.some 39), (.bin .sub (.tmp 37) (.tmp 38)), .none⟩, ⟨(.some 40), (.appZ k bytes zs (.tmp 34) (.tmp 39)), .none⟩, ⟨(.some 9), (.mv (.tmp 40)), .none⟩]
def insg10 (k : Nat) : List RO := [⟨(.some 41), (.mv (.tmp 9)), .none⟩, ⟨(.some 42), (.mv (.tmp 1)), .none⟩, ⟨(.some 43), (.sll k (.tmp 41) (.some (.tmp 42)) .none .none), .none⟩, ⟨(.some 44), (.mv (.tmp 2)), .none⟩, ⟨(.some 45), (.cpy k (.tmp 43) (.tmp 44)), .none⟩]
def insg11 (k : Nat) : List RO := [⟨(.some 46), (.mv (.tmp 9)), .none⟩, ⟨(.some 47), (.mv (.tmp 1)), .none⟩, ⟨(.some 48), (.mv (.tmp 7)), .none⟩, ⟨(.some 49), (.bin .add (.tmp 47) (.tmp 48)), .none⟩, ⟨(.some 50), (.sll k (.tmp 46) (.some (.tmp 49)) .none .none), .none⟩, ⟨(.some 51), (.mv (.tmp 0)), .none⟩, ⟨(.some 52), (.mv (.tmp 1)), .none⟩, ⟨(.some 53), (.sll k (.tmp 51) (.some (.tmp 52)) .none .none), .none⟩, ⟨(.some 54), (.cpy k (.tmp 50) (.tmp 53)), .none⟩]
def insg12 : List RO := [⟨(.some 55), (.mv (.tmp 9)), .none⟩, ⟨(.some 6), (.mv (.tmp 55)), .none⟩]
def insg13 (k : Nat) : List RO := [⟨(.some 56), (.mv (.tmp 0)), .none⟩, ⟨(.some 57), (.mv (.tmp 8)), .none⟩, ⟨(.some 58), (.mv (.tmp 7)), .none⟩, ⟨(.some 59), (.bin .add (.tmp 57) (.tmp 58)), .none⟩, ⟨(.some 60), (.sll k (.tmp 56) .none (.some (.tmp 59)) .none), .none⟩, ⟨(.some 0), (.mv (.tmp 60)), .none⟩]
def insg14 (k : Nat) (fo : Nat) : List RO := [⟨(.some 61), (.mv (.tmp 2)), .none⟩, ⟨(.some 62), (.mv (.tmp 0)), .none⟩, ⟨(.some 63), (.mv (.tmp 1)), .none⟩, ⟨(.some 64), (.mv (.tmp 7)), .none⟩, ⟨(.some 65), (.bin .add (.tmp 63) (.tmp 64)), .none⟩, ⟨(.some 66), (.sll k (.tmp 62) (.some (.tmp 65)) .none .none), .none⟩, ⟨(.some 67), (.callE (.func fo) [(.tmp 61), (.tmp 66)]), .none⟩, ⟨(.some 68), (.un .not (.tmp 67)), .none⟩]
def insg15 (k : Nat) : List RO := [⟨(.some 69), (.mv (.tmp 0)), .none⟩, ⟨(.some 70), (.mv (.tmp 1)), .none⟩, ⟨(.some 71), (.mv (.tmp 7)), .none⟩, ⟨(.some 72), (.bin .add (.tmp 70) (.tmp 71)), .none⟩, ⟨(.some 73), (.sll k (.tmp 69) (.some (.tmp 72)) .none .none), .none⟩, ⟨(.some 74), (.mv (.tmp 0)), .none⟩, ⟨(.some 75), (.mv (.tmp 1)), .none⟩, ⟨(.some 76), (.sll k (.tmp 74) (.some (.tmp 75)) .none .none), .none⟩, ⟨(.some 77), (.cpy k (.tmp 73) (.tmp 76)), .none⟩]
def insg16 (k : Nat) : List RO := [⟨(.some 78), (.mv (.tmp 0)), .none⟩, ⟨(.some 79), (.mv (.tmp 1)), .none⟩, ⟨(.some 80), (.sll k (.tmp 78) (.some (.tmp 79)) .none .none), .none⟩, ⟨(.some 81), (.mv (.tmp 2)), .none⟩, ⟨(.some 82), (.cpy k (.tmp 80) (.tmp 81)), .none⟩]
def insg17 : List RO := [⟨(.some 83), (.mv (.tmp 0)), .none⟩, ⟨(.some 6), (.mv (.tmp 83)), .none⟩]
def insg18 (k : Nat) : List RO := [⟨(.some 84), (.mv (.tmp 0)), .none⟩, ⟨(.some 85), (.mv (.tmp 8)), .none⟩, ⟨(.some 86), (.sll k (.tmp 84) (.some (.tmp 85)) .none .none), .none⟩, ⟨(.some 87), (.mv (.tmp 2)), .none⟩, ⟨(.some 88), (.cpy k (.tmp 86) (.tmp 87)), .none⟩]
def insg19 (k : Nat) (fr : Nat) : List RO := [⟨(.some 89), (.mv (.tmp 0)), .none⟩, ⟨(.some 90), (.mv (.tmp 1)), .none⟩, ⟨(.some 91), (.sll k (.tmp 89) (.some (.tmp 90)) .none .none), .none⟩, ⟨(.some 92), (.mv (.tmp 7)), .none⟩, ⟨(.some 93), (.call (.func fr) [(.tmp 91), (.tmp 92)]), .none⟩]
def insg20 : List RO := [⟨(.some 94), (.mv (.tmp 0)), .none⟩, ⟨(.some 6), (.mv (.tmp 94)), .none⟩]
def insRC (k bytes : Nat) (zs : List DV) (fo fr : Nat) : RCode := (.seq (.reg .false insg0) (.seq (.reg .false (insg1 k)) (.seq (.reg .false insg2) (.seq (.seq (.reg .false insg3) (.cond (.tmp 16) (.seq (.reg .false insg4) .ret) .skip)) (.seq (.reg .false insg5) (.seq (.seq (.reg .false insg6) (.cond (.tmp 22) (.seq (.reg .false (insg7 k bytes)) .ret) .skip)) (.seq (.seq (.reg .false insg8) (.cond (.tmp 31) (.seq (.reg .false (insg9 k bytes zs)) (.seq (.reg .false (insg10 k)) (.seq (.reg .true (insg11 k)) (.seq (.reg .false insg12) .ret)))) .skip)) (.seq (.reg .false (insg13 k)) (.seq (.seq (.reg .false (insg14 k fo)) (.cond (.tmp 68) (.seq (.reg .true (insg15 k)) (.seq (.reg .false (insg16 k)) (.seq (.reg .false insg17) .ret))) .skip)) (.seq (.reg .false (insg18 k)) (.seq (.reg .false (insg19 k fr)) (.seq (.reg .false insg20) .ret))))))))))))
attribute [push_cast] insg0 insg1 insg2 insg3 insg4 insg5 insg6 insg7 insg8 insg9 insg10 insg11 insg12 insg13 insg14 insg15 insg16 insg17 insg18 insg19 insg20 insRC

theorem ins_grow {α : Type} (es ys junk : List α) (zs : α) (i : Nat) (hi : i ≤ es.length) :
    ((((es ++ junk).take i ++ List.replicate (es.length + ys.length - i) zs).take i ++ ys.take (min ys.length (i + (es.length + ys.length - i) - i)) ++ ((es ++ junk).take i ++ List.replicate (es.length + ys.length - i) zs).drop (i + min ys.length (i + (es.length + ys.length - i) - i))).take (i + ys.length) ++
      (((es ++ junk).drop i).take (es.length - i)).take (min (((es ++ junk).drop i).take (es.length - i)).length (i + (es.length + ys.length - i) - (i + ys.length))) ++
      (((es ++ junk).take i ++ List.replicate (es.length + ys.length - i) zs).take i ++ ys.take (min ys.length (i + (es.length + ys.length - i) - i)) ++ ((es ++ junk).take i ++ List.replicate (es.length + ys.length - i) zs).drop (i + min ys.length (i + (es.length + ys.length - i) - i))).drop (i + ys.length + min (((es ++ junk).drop i).take (es.length - i)).length (i + (es.length + ys.length - i) - (i + ys.length)))) =
      es.take i ++ ys ++ es.drop i := by
  have e1 : (es ++ junk).take i = es.take i := List.take_append_of_le_length hi
  have e2 : ((es ++ junk).drop i).take (es.length - i) = es.drop i := by
    rw [List.drop_append_of_le_length hi, List.take_append_of_le_length (by simp), List.take_of_length_le (by simp)]
  have l1 : (es.take i).length = i := by simp; omega
  have l2 : (es.drop i).length = es.length - i := by simp
  have m1 : min ys.length (i + (es.length + ys.length - i) - i) = ys.length := by omega
  have m2 : min (es.length - i) (i + (es.length + ys.length - i) - (i + ys.length)) = es.length - i := by omega
  have e3 : (es.take i ++ List.replicate (es.length + ys.length - i) zs).take i = es.take i := List.take_left' l1
  rw [e1, e2, l2, m1, m2, e3, List.take_length]
  have e4 : (es.take i ++ ys ++ (es.take i ++ List.replicate (es.length + ys.length - i) zs).drop (i + ys.length)).take (i + ys.length) = es.take i ++ ys := List.take_left' (by simp; omega)
  have e5 : (es.take i ++ ys ++ (es.take i ++ List.replicate (es.length + ys.length - i) zs).drop (i + ys.length)).drop (i + ys.length + (es.length - i)) = [] := by
    apply List.drop_eq_nil_of_le; simp; omega
  have e6 : (es.drop i).take (es.length - i) = es.drop i := List.take_of_length_le (by simp)
  rw [e4, e5, List.append_nil, e6]

theorem ins_shift {α : Type} (es ys junk : List α) (i : Nat) (hi : i ≤ es.length) (hj : ys.length ≤ junk.length) : ∃ rest,
    (((es ++ junk).take (i + ys.length) ++ (((es ++ junk).drop i).take (es.length + ys.length - i)).take (min (((es ++ junk).drop i).take (es.length + ys.length - i)).length (es.length + ys.length - (i + ys.length))) ++ (es ++ junk).drop (i + ys.length + min (((es ++ junk).drop i).take (es.length + ys.length - i)).length (es.length + ys.length - (i + ys.length)))).take i ++
      ys.take (min ys.length (es.length + ys.length - i)) ++
      ((es ++ junk).take (i + ys.length) ++ (((es ++ junk).drop i).take (es.length + ys.length - i)).take (min (((es ++ junk).drop i).take (es.length + ys.length - i)).length (es.length + ys.length - (i + ys.length))) ++ (es ++ junk).drop (i + ys.length + min (((es ++ junk).drop i).take (es.length + ys.length - i)).length (es.length + ys.length - (i + ys.length)))).drop (i + min ys.length (es.length + ys.length - i))) =
      (es.take i ++ ys ++ es.drop i) ++ rest := by
  have l0 : (((es ++ junk).drop i).take (es.length + ys.length - i)).length = es.length + ys.length - i := by simp; omega
  have m1 : min (es.length + ys.length - i) (es.length + ys.length - (i + ys.length)) = es.length - i := by omega
  have m2 : min ys.length (es.length + ys.length - i) = ys.length := by omega
  have e2 : (((es ++ junk).drop i).take (es.length + ys.length - i)).take (es.length - i) = es.drop i := by
    rw [List.take_take, Nat.min_eq_left (by omega), List.drop_append_of_le_length hi, List.take_append_of_le_length (by simp), List.take_of_length_le (by simp)]
  rw [l0, m1, m2, e2, List.take_length]
  have e3 : ((es ++ junk).take (i + ys.length) ++ es.drop i ++ (es ++ junk).drop (i + ys.length + (es.length - i))).take i = es.take i := by
    rw [List.append_assoc, List.take_append_of_le_length (by simp; omega), List.take_take, Nat.min_eq_left (by omega), List.take_append_of_le_length hi]
  have e4 : ((es ++ junk).take (i + ys.length) ++ es.drop i ++ (es ++ junk).drop (i + ys.length + (es.length - i))).drop (i + ys.length) = es.drop i ++ (es ++ junk).drop (i + ys.length + (es.length - i)) := by
    rw [List.append_assoc, List.drop_left' (by simp; omega)]
  rw [e3, e4]
  exact ⟨(es ++ junk).drop (i + ys.length + (es.length - i)), by simp only [List.append_assoc]⟩

theorem ins_a {P : Program} {k bytes : Nat} {zs : List DV} {fo fr : Nat} {es : List (List DV)} {i : Nat} (hi : i ≤ es.length) : acode P noY (insRC k bytes zs fo fr) (AEndW 2 [.tmp 6] (.sl (.O 0) k 0 (es.length + ([] : List (List DV)).length)) [none, none] [.row true k (es.take i ++ ([] : List (List DV)) ++ es.drop i)]) ⟨argL [.sl (.O 0) k 0 es.length, .D (.I .i64 i), .sl (.O 1) k 0 ([] : List (List DV)).length], ownL [none, none], ownL [some (.row true k es), some (.row true k ([] : List (List DV)))], 2⟩ := by
  have h0 : (0 : Int) ≤ (i : Int) := Int.natCast_nonneg i
  have hti : ((i : Int)).toNat = i := Int.toNat_natCast i
  simp (config := { maxSteps := 1000000 }) (disch := first | assumption | (simp; done) | omega | (simp; omega)) only [push_cast, reduceCtorEq, Nat.reduceEqDiff, Nat.reduceAdd, Nat.reduceSub, Nat.reduceMul, Nat.reduceLeDiff, Nat.reduceLT, Int.reduceEq, Int.reduceNe, Int.reduceLT, Int.reduceLE, Int.reduceGT, Int.reduceGE, Int.reduceBEq, Int.reduceBNe, ↓reduceIte, List.length_nil, Int.ofNat_zero, h0, hti, hi]
  refine AEndW.of [0] (.inr rfl) (by decide) rfl ?_ ?_ ?_
  · simp (config := { maxSteps := 1000000 }) (disch := first | assumption | (simp; done) | omega | (simp; omega)) only [push_cast, reduceCtorEq, Nat.reduceEqDiff, Nat.reduceAdd, Nat.reduceSub, Nat.reduceMul, Nat.reduceLeDiff, Nat.reduceLT, Int.reduceEq, Int.reduceNe, Int.reduceLT, Int.reduceLE, Int.reduceGT, Int.reduceGE, Int.reduceBEq, Int.reduceBNe, ↓reduceIte] <;> rfl
  · simp (config := { maxSteps := 1000000 }) (disch := first | assumption | (simp; done) | omega | (simp; omega)) only [push_cast, reduceCtorEq, Nat.reduceEqDiff, Nat.reduceAdd, Nat.reduceSub, Nat.reduceMul, Nat.reduceLeDiff, Nat.reduceLT, Int.reduceEq, Int.reduceNe, Int.reduceLT, Int.reduceLE, Int.reduceGT, Int.reduceGE, Int.reduceBEq, Int.reduceBNe, ↓reduceIte] <;> rfl
  · rw [List.take_append_drop]
    simp (config := { maxSteps := 1000000 }) (disch := first | assumption | (simp; done) | omega | (simp; omega)) only [push_cast, reduceCtorEq, Nat.reduceEqDiff, Nat.reduceAdd, Nat.reduceSub, Nat.reduceMul, Nat.reduceLeDiff, Nat.reduceLT, Int.reduceEq, Int.reduceNe, Int.reduceLT, Int.reduceLE, Int.reduceGT, Int.reduceGE, Int.reduceBEq, Int.reduceBNe, ↓reduceIte] <;> rfl
theorem ins_b {P : Program} {k bytes : Nat} {zs : List DV} {fo fr : Nat} {es ys : List (List DV)} {y : List DV} (hu1 : Uni k es) (hu2 : Uni k (y :: ys)) (ho2 : oneL (y :: ys) = true) (hbb : (es.length + (y :: ys).length) * bytes ≤ 140737488355328) : acode P noY (insRC k bytes zs fo fr) (AEndW 2 [.tmp 6] (.sl (.O 0) k 0 (es.length + (y :: ys).length)) [none, none] [.row true k (es.take es.length ++ (y :: ys) ++ es.drop es.length)]) ⟨argL [.sl (.O 0) k 0 es.length, .D (.I .i64 es.length), .sl (.O 1) k 0 (y :: ys).length], ownL [none, none], ownL [some (.row true k es), some (.row true k (y :: ys))], 2⟩ := by
  have h0 : (0 : Int) ≤ (es.length : Int) := Int.natCast_nonneg _
  have hti : ((es.length : Int)).toNat = es.length := Int.toNat_natCast _
  have hi : es.length ≤ es.length := Nat.le_refl _
  have hne : (((y :: ys).length : Int) == 0) = false := by simp; omega
  have hee : (((es.length : Int)) == (es.length : Int)) = true := by simp
  generalize hYS : y :: ys = zs' at *
  simp (config := { maxSteps := 1000000 }) (disch := first | assumption | (simp; done) | omega | (simp; omega)) only [push_cast, reduceCtorEq, Nat.reduceEqDiff, Nat.reduceAdd, Nat.reduceSub, Nat.reduceMul, Nat.reduceLeDiff, Nat.reduceLT, Int.reduceEq, Int.reduceNe, Int.reduceLT, Int.reduceLE, Int.reduceGT, Int.reduceGE, Int.reduceBEq, Int.reduceBNe, ↓reduceIte, h0, hti, hi, hne, hee, hu1, hu2, ho2, hbb]
  refine AEndW.of [2] (.inr rfl) (by decide) rfl ?_ ?_ ?_
  · simp (config := { maxSteps := 1000000 }) (disch := first | assumption | (simp; done) | omega | (simp; omega)) only [push_cast, reduceCtorEq, Nat.reduceEqDiff, Nat.reduceAdd, Nat.reduceSub, Nat.reduceMul, Nat.reduceLeDiff, Nat.reduceLT, Int.reduceEq, Int.reduceNe, Int.reduceLT, Int.reduceLE, Int.reduceGT, Int.reduceGE, Int.reduceBEq, Int.reduceBNe, ↓reduceIte] <;> rfl
  · simp (config := { maxSteps := 1000000 }) (disch := first | assumption | (simp; done) | omega | (simp; omega)) only [push_cast, reduceCtorEq, Nat.reduceEqDiff, Nat.reduceAdd, Nat.reduceSub, Nat.reduceMul, Nat.reduceLeDiff, Nat.reduceLT, Int.reduceEq, Int.reduceNe, Int.reduceLT, Int.reduceLE, Int.reduceGT, Int.reduceGE, Int.reduceBEq, Int.reduceBNe, ↓reduceIte] <;> rfl
  · rw [List.drop_length, List.append_nil]
    simp (config := { maxSteps := 1000000 }) (disch := first | assumption | (simp; done) | omega | (simp; omega)) only [push_cast, reduceCtorEq, Nat.reduceEqDiff, Nat.reduceAdd, Nat.reduceSub, Nat.reduceMul, Nat.reduceLeDiff, Nat.reduceLT, Int.reduceEq, Int.reduceNe, Int.reduceLT, Int.reduceLE, Int.reduceGT, Int.reduceGE, Int.reduceBEq, Int.reduceBNe, ↓reduceIte] <;> rfl
theorem ins_g {P : Program} {k bytes : Nat} {zs : List DV} {fo fr : Nat} {es ys junk : List (List DV)} {i cap : Nat} (hi : i ≤ es.length) (hu1 : Uni k es) (ho1 : oneL es = true) (hu2 : Uni k ys) (ho2 : oneL ys = true) (hbb : (es.length + ys.length) * bytes ≤ 140737488355328) (hfit : es.length + ys.length ≤ 140737488355328) (hy : 0 < ys.length) (hlt : i < es.length) (hcap : es.length ≤ cap) (hlen : (es ++ junk).length = cap) (huj : Uni k junk) (hg : cap < es.length + ys.length) : acode P noY (insRC k bytes zs fo fr) (AEndW 2 [.tmp 6] (.sl (.O 0) k 0 (es.length + ys.length)) [none, none] [.row true k (es.take i ++ ys ++ es.drop i)]) ⟨upd (argL [.sl (.O 0) k 0 es.length, .D (.I .i64 i), .sl (.O 1) k 0 ys.length]) 0 (.slk (.O 0) k 0 es.length cap), ownL [none, none], ownL [some (.row true k (es ++ junk)), some (.row true k ys)], 2⟩ := by
  have h0 : (0 : Int) ≤ (i : Int) := Int.natCast_nonneg i
  have hti : ((i : Int)).toNat = i := Int.toNat_natCast i
  have hne : ((ys.length : Int) == 0) = false := beq_false_of_ne (by omega)
  have hei : (((i : Int)) == (es.length : Int)) = false := beq_false_of_ne (by omega)
  have hw1 : IntKind.wrap .i64 ((es.length : Int) + (ys.length : Int)) = (es.length : Int) + (ys.length : Int) := by rw [IntKind.wrap_i64]; omega
  have hw2 : IntKind.wrap .i64 ((es.length : Int) + (ys.length : Int) - (i : Int)) = (es.length : Int) + (ys.length : Int) - (i : Int) := by rw [IntKind.wrap_i64]; omega
  have hw3 : IntKind.wrap .i64 ((i : Int) + (ys.length : Int)) = (i : Int) + (ys.length : Int) := by rw [IntKind.wrap_i64]; omega
  have t1 : ((es.length : Int) + (ys.length : Int)).toNat = es.length + ys.length := by omega
  have t2 : ((es.length : Int) + (ys.length : Int) - (i : Int)).toNat = es.length + ys.length - i := by omega
  have t3 : ((i : Int) + (ys.length : Int)).toNat = i + ys.length := by omega
  have p1 : (0 : Int) ≤ (es.length : Int) + (ys.length : Int) := by omega
  have p2 : (0 : Int) ≤ (es.length : Int) + (ys.length : Int) - (i : Int) := by omega
  have p3 : (0 : Int) ≤ (i : Int) + (ys.length : Int) := by omega
  have q1 : i ≤ cap := by omega
  have q2 : 0 < cap := by omega
  have q3 : i < cap := by omega
  have hju : Uni k (es ++ junk) := by rw [uni_app]; exact ⟨hu1, huj⟩
  have hd : decide ((es.length : Int) + (ys.length : Int) > (cap : Int)) = true := by simp; omega
  have hg' : cap < i + (es.length + ys.length - i) := by omega
  have hbb' : (i + (es.length + ys.length - i)) * bytes ≤ 140737488355328 := by rw [show i + (es.length + ys.length - i) = es.length + ys.length by omega]; exact hbb
  have l1 : i ≤ (es ++ junk).length := by omega
  simp (config := { maxSteps := 1000000 }) (disch := first | assumption | (simp; done) | omega | (simp; omega)) only [push_cast, reduceCtorEq, Nat.reduceEqDiff, Nat.reduceAdd, Nat.reduceSub, Nat.reduceMul, Nat.reduceLeDiff, Nat.reduceLT, Int.reduceEq, Int.reduceNe, Int.reduceLT, Int.reduceLE, Int.reduceGT, Int.reduceGE, Int.reduceBEq, Int.reduceBNe, ↓reduceIte, h0, hti, hi, hne, hei, hu1, hu2, ho2, hbb, hw1, hw2, hw3, t1, t2, t3, p1, p2, p3, q1, q2, q3, hju, hd, hg', hbb', l1, Nat.sub_zero]
  have u1 : Uni k (((es ++ junk).drop i).take (es.length - i)) := fun e he => hju e (List.mem_of_mem_drop (List.mem_of_mem_take he))
  have u2 : oneL (es.drop i) = true := one_drop ho1
  have e2 : ((es ++ junk).drop i).take (es.length - i) = es.drop i := by
    rw [List.drop_append_of_le_length hi, List.take_append_of_le_length (by simp), List.take_of_length_le (by simp)]
  refine ⟨hcap, by simp at l1; exact l1, by omega, ?_, by omega, hcap, ?_, u1, ?_, ?_⟩
  · simp; omega
  · simp; omega
  · rw [e2]; exact one_take u2
  · refine AEndW.of [2] (.inr rfl) (by decide) rfl ?_ ?_ ?_
    · have : i + (i + (es.length + ys.length - i) - i) = es.length + ys.length := by omega
      have h7 : i + (es.length + ys.length - i) = es.length + ys.length := by omega
      simp (config := { maxSteps := 1000000 }) (disch := first | assumption | (simp; done) | omega | (simp; omega)) only [push_cast, reduceCtorEq, Nat.reduceEqDiff, Nat.reduceAdd, Nat.reduceSub, Nat.reduceMul, Nat.reduceLeDiff, Nat.reduceLT, Int.reduceEq, Int.reduceNe, Int.reduceLT, Int.reduceLE, Int.reduceGT, Int.reduceGE, Int.reduceBEq, Int.reduceBNe, ↓reduceIte, h7] <;> rfl
    · simp (config := { maxSteps := 1000000 }) (disch := first | assumption | (simp; done) | omega | (simp; omega)) only [push_cast, reduceCtorEq, Nat.reduceEqDiff, Nat.reduceAdd, Nat.reduceSub, Nat.reduceMul, Nat.reduceLeDiff, Nat.reduceLT, Int.reduceEq, Int.reduceNe, Int.reduceLT, Int.reduceLE, Int.reduceGT, Int.reduceGE, Int.reduceBEq, Int.reduceBNe, ↓reduceIte] <;> rfl
    · rw [← ins_grow es ys junk zs i hi]
      simp (config := { maxSteps := 1000000 }) (disch := first | assumption | (simp; done) | omega | (simp; omega)) only [push_cast, reduceCtorEq, Nat.reduceEqDiff, Nat.reduceAdd, Nat.reduceSub, Nat.reduceMul, Nat.reduceLeDiff, Nat.reduceLT, Int.reduceEq, Int.reduceNe, Int.reduceLT, Int.reduceLE, Int.reduceGT, Int.reduceGE, Int.reduceBEq, Int.reduceBNe, ↓reduceIte] <;> rfl
set_option maxHeartbeats 1000000 in
theorem ins_s {P : Program} {k bytes : Nat} {zs : List DV} {fo fr : Nat} {es ys junk : List (List DV)} {i cap : Nat} (hi : i ≤ es.length) (hu1 : Uni k es) (ho1 : oneL es = true) (hu2 : Uni k ys) (ho2 : oneL ys = true) (hbb : (es.length + ys.length) * bytes ≤ 140737488355328) (hfit : es.length + ys.length ≤ 140737488355328) (hy : 0 < ys.length) (hlt : i < es.length) (hcap : es.length ≤ cap) (hlen : (es ++ junk).length = cap) (huj : Uni k junk) (hk : 0 < k) (hg : ¬ cap < es.length + ys.length) (hov : ∀ (mt mt' : Bool) (o l o' l' c' : Nat) (es es' : List (List DV)), 0 < l → 0 < es'.length * k → ACall P fo [.sl (.B 0) k o l, .slk (.B 1) k o' l' c'] [some (.row mt k es), some (.row mt' k es')] (.D (.B false)) [some (.row mt k es), some (.row mt' k es')] []) : acode P noY (insRC k bytes zs fo fr) (AEndW 2 [.tmp 6] (.sl (.O 0) k 0 (es.length + ys.length)) [none, none] [.row true k (es.take i ++ ys ++ es.drop i)]) ⟨upd (argL [.sl (.O 0) k 0 es.length, .D (.I .i64 i), .sl (.O 1) k 0 ys.length]) 0 (.slk (.O 0) k 0 es.length cap), ownL [none, none], ownL [some (.row true k (es ++ junk)), some (.row true k ys)], 2⟩ := by
  have h0 : (0 : Int) ≤ (i : Int) := Int.natCast_nonneg i
  have hti : ((i : Int)).toNat = i := Int.toNat_natCast i
  have hne : ((ys.length : Int) == 0) = false := beq_false_of_ne (by omega)
  have hei : (((i : Int)) == (es.length : Int)) = false := beq_false_of_ne (by omega)
  have hw1 : IntKind.wrap .i64 ((es.length : Int) + (ys.length : Int)) = (es.length : Int) + (ys.length : Int) := by rw [IntKind.wrap_i64]; omega
  have hw2 : IntKind.wrap .i64 ((es.length : Int) + (ys.length : Int) - (i : Int)) = (es.length : Int) + (ys.length : Int) - (i : Int) := by rw [IntKind.wrap_i64]; omega
  have hw3 : IntKind.wrap .i64 ((i : Int) + (ys.length : Int)) = (i : Int) + (ys.length : Int) := by rw [IntKind.wrap_i64]; omega
  have t1 : ((es.length : Int) + (ys.length : Int)).toNat = es.length + ys.length := by omega
  have t2 : ((es.length : Int) + (ys.length : Int) - (i : Int)).toNat = es.length + ys.length - i := by omega
  have t3 : ((i : Int) + (ys.length : Int)).toNat = i + ys.length := by omega
  have p1 : (0 : Int) ≤ (es.length : Int) + (ys.length : Int) := by omega
  have p2 : (0 : Int) ≤ (es.length : Int) + (ys.length : Int) - (i : Int) := by omega
  have p3 : (0 : Int) ≤ (i : Int) + (ys.length : Int) := by omega
  have q1 : i ≤ cap := by omega
  have q2 : 0 < cap := by omega
  have q3 : i < cap := by omega
  have hju : Uni k (es ++ junk) := by rw [uni_app]; exact ⟨hu1, huj⟩
  have hd : decide ((es.length : Int) + (ys.length : Int) > (cap : Int)) = false := by simp; omega
  have r1 : es.length + ys.length ≤ cap := by omega
  have r2 : i + ys.length ≤ es.length + ys.length := by omega
  have r3 : i + ys.length < cap := by omega
  have r4 : i ≤ es.length + ys.length := by omega
  simp (config := { maxSteps := 1000000 }) (disch := first | assumption | (simp; done) | omega | (simp; omega)) only [push_cast, reduceCtorEq, Nat.reduceEqDiff, Nat.reduceAdd, Nat.reduceSub, Nat.reduceMul, Nat.reduceLeDiff, Nat.reduceLT, Int.reduceEq, Int.reduceNe, Int.reduceLT, Int.reduceLE, Int.reduceGT, Int.reduceGE, Int.reduceBEq, Int.reduceBNe, ↓reduceIte, h0, hti, hi, hne, hei, hu1, hu2, ho2, hbb, hw1, hw2, hw3, t1, t2, t3, p1, p2, p3, q1, q2, q3, hju, hd, r1, r2, r3, r4, Nat.sub_zero]
  have hpos : 0 < (es ++ junk).length * k := Nat.mul_pos (by omega) hk
  refine ⟨hcap, ?_⟩
  refine callE_of [.O 1, .O 0] (by rfl) (hov true true 0 ys.length (i + ys.length) (es.length + ys.length - (i + ys.length)) (cap - (i + ys.length)) ys (es ++ junk) hy hpos) (by decide) rfl (by simp (config := { maxSteps := 1000000 }) (disch := first | assumption | (simp; done) | omega | (simp; omega)) only [push_cast, reduceCtorEq, Nat.reduceEqDiff, Nat.reduceAdd, Nat.reduceSub, Nat.reduceMul, Nat.reduceLeDiff, Nat.reduceLT, Int.reduceEq, Int.reduceNe, Int.reduceLT, Int.reduceLE, Int.reduceGT, Int.reduceGE, Int.reduceBEq, Int.reduceBNe, ↓reduceIte] <;> rfl) (by simp (config := { maxSteps := 1000000 }) (disch := first | assumption | (simp; done) | omega | (simp; omega)) only [push_cast, reduceCtorEq, Nat.reduceEqDiff, Nat.reduceAdd, Nat.reduceSub, Nat.reduceMul, Nat.reduceLeDiff, Nat.reduceLT, Int.reduceEq, Int.reduceNe, Int.reduceLT, Int.reduceLE, Int.reduceGT, Int.reduceGE, Int.reduceBEq, Int.reduceBNe, ↓reduceIte] <;> rfl) ?_ ?_ ?_
  · simp (config := { maxSteps := 1000000 }) (disch := first | assumption | (simp; done) | omega | (simp; omega)) only [push_cast, reduceCtorEq, Nat.reduceEqDiff, Nat.reduceAdd, Nat.reduceSub, Nat.reduceMul, Nat.reduceLeDiff, Nat.reduceLT, Int.reduceEq, Int.reduceNe, Int.reduceLT, Int.reduceLE, Int.reduceGT, Int.reduceGE, Int.reduceBEq, Int.reduceBNe, ↓reduceIte] <;> rfl
  · simp (config := { maxSteps := 1000000 }) (disch := first | assumption | (simp; done) | omega | (simp; omega)) only [push_cast, reduceCtorEq, Nat.reduceEqDiff, Nat.reduceAdd, Nat.reduceSub, Nat.reduceMul, Nat.reduceLeDiff, Nat.reduceLT, Int.reduceEq, Int.reduceNe, Int.reduceLT, Int.reduceLE, Int.reduceGT, Int.reduceGE, Int.reduceBEq, Int.reduceBNe, ↓reduceIte] <;> rfl
  have u1 : Uni k (((es ++ junk).drop i).take (es.length + ys.length - i)) := fun e he => hju e (List.mem_of_mem_drop (List.mem_of_mem_take he))
  simp (config := { maxSteps := 1000000 }) (disch := first | assumption | (simp; done) | omega | (simp; omega)) only [push_cast, reduceCtorEq, Nat.reduceEqDiff, Nat.reduceAdd, Nat.reduceSub, Nat.reduceMul, Nat.reduceLeDiff, Nat.reduceLT, Int.reduceEq, Int.reduceNe, Int.reduceLT, Int.reduceLE, Int.reduceGT, Int.reduceGE, Int.reduceBEq, Int.reduceBNe, ↓reduceIte, h0, hti, hi, hne, hei, hu1, hu2, ho2, hbb, hw1, hw2, hw3, t1, t2, t3, p1, p2, p3, q1, q2, q3, hju, hd, r1, r2, r3, r4, u1, Nat.sub_zero]
  have hlen' : es.length + junk.length = cap := by simpa using hlen
  have l0 : (((es ++ junk).drop i).take (es.length + ys.length - i)).length = es.length + ys.length - i := by simp; omega
  have m1 : min (es.length + ys.length - i) (es.length + ys.length - (i + ys.length)) = es.length - i := by omega
  have e2 : (((es ++ junk).drop i).take (es.length + ys.length - i)).take (es.length - i) = es.drop i := by
    rw [List.take_take, Nat.min_eq_left (by omega), List.drop_append_of_le_length hi, List.take_append_of_le_length (by simp), List.take_of_length_le (by simp)]
  obtain ⟨rest, hrest⟩ := ins_shift es ys junk i hi (by omega)
  refine ⟨by omega, ?_, ?_, ?_⟩
  · rw [l0, m1, e2]; exact one_drop ho1
  · simp; omega
  · rw [hrest]
    refine AEndW.wk (AState.trim_ok _ (.O 0) 6 k (es.length + ys.length) cap (es.take i ++ ys ++ es.drop i) rest (by rfl) (by rfl)) ?_
    unfold AState.trim
    refine AEndW.of [0] (.inr rfl) (by decide) rfl ?_ ?_ ?_
    · simp (config := { maxSteps := 1000000 }) (disch := first | assumption | (simp; done) | omega | (simp; omega)) only [push_cast, reduceCtorEq, Nat.reduceEqDiff, Nat.reduceAdd, Nat.reduceSub, Nat.reduceMul, Nat.reduceLeDiff, Nat.reduceLT, Int.reduceEq, Int.reduceNe, Int.reduceLT, Int.reduceLE, Int.reduceGT, Int.reduceGE, Int.reduceBEq, Int.reduceBNe, ↓reduceIte] <;> rfl
    · simp (config := { maxSteps := 1000000 }) (disch := first | assumption | (simp; done) | omega | (simp; omega)) only [push_cast, reduceCtorEq, Nat.reduceEqDiff, Nat.reduceAdd, Nat.reduceSub, Nat.reduceMul, Nat.reduceLeDiff, Nat.reduceLT, Int.reduceEq, Int.reduceNe, Int.reduceLT, Int.reduceLE, Int.reduceGT, Int.reduceGE, Int.reduceBEq, Int.reduceBNe, ↓reduceIte] <;> rfl
    · simp (config := { maxSteps := 1000000 }) (disch := first | assumption | (simp; done) | omega | (simp; omega)) only [push_cast, reduceCtorEq, Nat.reduceEqDiff, Nat.reduceAdd, Nat.reduceSub, Nat.reduceMul, Nat.reduceLeDiff, Nat.reduceLT, Int.reduceEq, Int.reduceNe, Int.reduceLT, Int.reduceLE, Int.reduceGT, Int.reduceGE, Int.reduceBEq, Int.reduceBNe, ↓reduceIte] <;> rfl

theorem insert_ok {P : Program} {f : FuncId} {fn : Func} {c : Code} {k bytes : Nat} {zs : List DV} {fo fr : Nat} (hf : P.funcs[f]? = some fn) (hb : fn.body = some c) (hname : (fn.name == "runtime.NumGoroutine") = false) (hm : P.follows .mixedOrders = true)
    (hN : fn.ntmps = 95) (hrc : resolveCode P [25, 67] 95 c = some (insRC k bytes zs fo fr)) (hrs : resolveResN P 95 fn.results.toList = some [.tmp 6]) (hk : 0 < k) (hby : 0 < bytes) (hzs : zs.length = k)
    (hov : ∀ (mt mt' : Bool) (o l o' l' c' : Nat) (es es' : List (List DV)), 0 < l → 0 < es'.length * k → ACall P fo [.sl (.B 0) k o l, .slk (.B 1) k o' l' c'] [some (.row mt k es), some (.row mt' k es')] (.D (.B false)) [some (.row mt k es), some (.row mt' k es')] [])
    (es ys : List (List DV)) (i : Nat) (hi : i ≤ es.length) (hu1 : Uni k es) (ho1 : oneL es = true) (hu2 : Uni k ys) (ho2 : oneL ys = true) (hbb : (es.length + ys.length) * bytes ≤ 140737488355328) :
    ACall P f [.sl (.B 0) k 0 es.length, .D (.I .i64 i), .sl (.B 1) k 0 ys.length] [some (.row true k es), some (.row true k ys)] (.sl (.O 0) k 0 (es.length + ys.length)) [none, none] [.row true k (es.take i ++ ys ++ es.drop i)] := by
  have hfit : es.length + ys.length ≤ 140737488355328 := Nat.le_trans (Nat.le_mul_of_pos_right _ hby) hbb
  have hbase : entryM [.sl (.B 0) k 0 es.length, .D (.I .i64 i), .sl (.B 1) k 0 ys.length] [some (.row true k es), some (.row true k ys)] [0, 1] =
      ⟨argL [.sl (.O 0) k 0 es.length, .D (.I .i64 i), .sl (.O 1) k 0 ys.length], ownL [none, none], ownL [some (.row true k es), some (.row true k ys)], 2⟩ := by
    rw [entryM_eq _ _ _ [none, none] [some (.row true k es), some (.row true k ys)] (by rfl) (by rfl)]
    rfl
  refine ACall.of_bodyS [25, 67] (fun s0 => ((ys = [] ∨ i = es.length) ∧ s0 = ⟨argL [.sl (.O 0) k 0 es.length, .D (.I .i64 i), .sl (.O 1) k 0 ys.length], ownL [none, none], ownL [some (.row true k es), some (.row true k ys)], 2⟩) ∨
      (∃ cap junk, 0 < ys.length ∧ i < es.length ∧ es.length ≤ cap ∧ (es ++ junk).length = cap ∧ Uni k junk ∧ s0 = ⟨upd (argL [.sl (.O 0) k 0 es.length, .D (.I .i64 i), .sl (.O 1) k 0 ys.length]) 0 (.slk (.O 0) k 0 es.length cap), ownL [none, none], ownL [some (.row true k (es ++ junk)), some (.row true k ys)], 2⟩)) hf hb hname hm (by rw [hN]; exact hrc) (by rw [hN]; exact hrs) (by rw [hN]; simp) (fun E a w hE hA => ?_) (fun s0 hs0 => ?_)
  · have hA' := entryM_ok _ _ [0, 1] (by decide) E a w hA
    rw [hbase] at hA'
    by_cases h : ys = [] ∨ i = es.length
    · exact ⟨_, .inl ⟨h, rfl⟩, hA'⟩
    · have h1 : ys ≠ [] := fun e => h (.inl e)
      have h2 : i ≠ es.length := fun e => h (.inr e)
      obtain ⟨cap, junk, g1, g2, g3, g4⟩ := AState.ext_ok hA' (h := .O 0) (t := 0) (k := k) (n := es.length) (es := es) (by rw [hE, hN]; omega) rfl rfl rfl (by omega)
      refine ⟨_, .inr ⟨cap, junk, List.length_pos_iff.2 h1, by omega, g1, g2, g3, rfl⟩, ?_⟩
      have : AState.ext ⟨argL [.sl (.O 0) k 0 es.length, .D (.I .i64 i), .sl (.O 1) k 0 ys.length], ownL [none, none], ownL [some (.row true k es), some (.row true k ys)], 2⟩ (.O 0) 0 k es.length cap (es ++ junk) =
          ⟨upd (argL [.sl (.O 0) k 0 es.length, .D (.I .i64 i), .sl (.O 1) k 0 ys.length]) 0 (.slk (.O 0) k 0 es.length cap), ownL [none, none], ownL [some (.row true k (es ++ junk)), some (.row true k ys)], 2⟩ := by
        unfold AState.ext
        rw [s_setO, ownL_set (by simp)]
        rfl
      rw [← this]
      exact g4
  · rcases hs0 with ⟨hc, rfl⟩ | ⟨cap, junk, hy, hlt, hcap, hlen, huj, rfl⟩
    · by_cases hys : ys = []
      · subst hys; exact ins_a hi
      · rcases hc with hc | rfl
        · exact absurd hc hys
        · cases ys with
          | nil => exact absurd rfl hys
          | cons y ys => exact ins_b hu1 hu2 ho2 hbb
    · by_cases hg : cap < es.length + ys.length
      · exact ins_g hi hu1 ho1 hu2 ho2 hbb hfit hy hlt hcap hlen huj hg
      · exact ins_s hi hu1 ho1 hu2 ho2 hbb hfit hy hlt hcap hlen huj hk hg hov
end Go.Eng
