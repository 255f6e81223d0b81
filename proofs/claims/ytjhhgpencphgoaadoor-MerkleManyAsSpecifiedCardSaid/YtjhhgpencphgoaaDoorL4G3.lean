/- Printed by a program: what the functions compute, and that they do (part 3). -/
import Derived.Test.YtjhhgpencphgoaaDoorL4G2
set_option linter.unusedSimpArgs false
set_option linter.unusedVariables false
set_option maxRecDepth 8000
namespace Go.Proofs.Tryd
open Go.Eng Go.RowKit
def f27g0 : List RO := [o_ 9 (.boxR (t_ 4)), o_ 10 (.mv (.const (.bool .false)))]
def f27g1 : List RO := [o_ 12 (.mv (t_ 0)), o_ 13 (.bin .lss (t_ 12) (.const (.int .i64 0))), o_ 14 (.mv (t_ 13)), ⟨(.some 15), (.mv (t_ 0)), (.some (14, .false))⟩, ⟨(.some 16), (.bin .gtr (t_ 15) (.const (.int .i64 1099511627776))), (.some (14, .false))⟩, o_ 17 (.pick (t_ 14) (.const (.bool .true)) (t_ 16)), o_ 18 (.mv (t_ 17)), ⟨(.some 19), (.mv (t_ 1)), (.some (18, .false))⟩, ⟨(.some 20), (.mv (t_ 0)), (.some (18, .false))⟩, ⟨(.some 21), (.call (.func 73) [(t_ 19), (t_ 20)]), (.some (18, .false))⟩, ⟨(.some 22), (.un .not (t_ 21)), (.some (18, .false))⟩, o_ 23 (.pick (t_ 18) (.const (.bool .true)) (t_ 22)), o_ 24 (.mv (t_ 23)), ⟨(.some 25), (.mv (t_ 2)), (.some (24, .false))⟩, ⟨(.some 26), (.len .false (t_ 25)), (.some (24, .false))⟩, ⟨(.some 27), (.mv (t_ 1)), (.some (24, .false))⟩, ⟨(.some 28), (.len .false (t_ 27)), (.some (24, .false))⟩, ⟨(.some 29), (.bin .neq (t_ 26) (t_ 28)), (.some (24, .false))⟩, o_ 30 (.pick (t_ 24) (.const (.bool .true)) (t_ 29))]
def f27g2 : List RO := [o_ 10 (.mv (.const (.bool .false)))]
def f27g3 : List RO := [o_ 31 (.mv (t_ 0)), o_ 32 (.bin .eql (t_ 31) (.const (.int .i64 0)))]
def f27g4 : List RO := [o_ 33 (.mv (t_ 3)), o_ 34 (.len .false (t_ 33)), o_ 35 (.bin .eql (t_ 34) (.const (.int .i64 0))), o_ 36 (.mv (t_ 35)), ⟨(.some 37), (.load (.some 16) (t_ 9)), (.some (36, .true))⟩, ⟨(.some 38), (.call (.func 67) []), (.some (36, .true))⟩, ⟨(.some 39), (.eqa .false .u8 16 (t_ 37) (t_ 38)), (.some (36, .true))⟩, o_ 40 (.pick (t_ 36) (t_ 39) (.const (.bool .false))), o_ 10 (.mv (t_ 40))]
def f27g5 : List RO := [o_ 41 (.mv (t_ 0)), o_ 42 (.mv (t_ 1)), o_ 43 (.mv (t_ 2)), o_ 44 (.mv (t_ 3)), o_ 45 (.call (.func 78) [(.const (.int .i64 0)), (t_ 41), (t_ 42), (t_ 43), (t_ 44)]), o_ 11 (.newR (((Arr.zero 16).l.map (aI .u8)) ++ [(.D (.I .i64 0)), (.D (.I .i64 0)), (.D (.B .false))])), n_ (.store 19 (t_ 11) (t_ 45))]
def f27g6 : List RO := [o_ 46 (.faddr 18 (t_ 11)), o_ 47 (.load .none (t_ 46)), o_ 48 (.mv (t_ 47)), ⟨(.some 49), (.faddr 17 (t_ 11)), (.some (48, .true))⟩, ⟨(.some 50), (.load .none (t_ 49)), (.some (48, .true))⟩, ⟨(.some 51), (.mv (t_ 3)), (.some (48, .true))⟩, ⟨(.some 52), (.len .false (t_ 51)), (.some (48, .true))⟩, ⟨(.some 53), (.bin .eql (t_ 50) (t_ 52)), (.some (48, .true))⟩, o_ 54 (.pick (t_ 48) (t_ 53) (.const (.bool .false))), o_ 55 (.mv (t_ 54)), ⟨(.some 56), (.faddr 0 (t_ 11)), (.some (55, .true))⟩, ⟨(.some 57), (.load (.some 16) (t_ 56)), (.some (55, .true))⟩, ⟨(.some 58), (.load (.some 16) (t_ 9)), (.some (55, .true))⟩, ⟨(.some 59), (.eqa .false .u8 16 (t_ 57) (t_ 58)), (.some (55, .true))⟩, o_ 60 (.pick (t_ 55) (t_ 59) (.const (.bool .false))), o_ 10 (.mv (t_ 60))]
def f27c : RCode := (.seq (.reg .false f27g0) (.seq (.seq (.reg .false f27g1) (.cond (t_ 30) (.seq (.reg .false f27g2) .ret) .skip)) (.seq (.seq (.reg .false f27g3) (.cond (t_ 32) (.seq (.reg .true f27g4) .ret) .skip)) (.seq (.reg .false f27g5) (.seq (.reg .false f27g6) .ret)))))
def f27r : List RRes := [(.tmp 10)]
attribute [push_cast] f27g0 f27g1 f27g2 f27g3 f27g4 f27g5 f27g6
def F_ref03_CheckMany (N : Nat) (p0 : Int) (p1 : (List Int)) (p2 : (List (Arr 16))) (p3 : (List (Arr 16))) (p4 : (Arr 16)) : Option Bool := if? (decide (p0 < 0)) (some (false)) (if? (decide (p0 > 1099511627776)) (some (false)) (bd? (F_ref03_Ascend N p1 p0) fun v1 => if? (v1) (if? (((p2.length : Int) != (p1.length : Int))) (some (false)) (if? ((p0 == 0)) (if? (((p3.length : Int) == 0)) (bd? (F_ref03_Empty N ) fun v2 => some ((p4.l == v2.l))) (some (false))) (bd? (F_ref03_walk N 0 p0 p1 p2 p3) fun v3 => if? (v3.Ok) (if? ((v3.Path == (p3.length : Int))) (some ((v3.D.l == p4.l))) (some (false))) (some (false))))) (some (false))))
theorem c_ref03_CheckMany (N : Nat) (p0 : Int) (p1 : (List Int)) (p2 : (List (Arr 16))) (p3 : (List (Arr 16))) (p4 : (Arr 16)) (r : Bool) (h : F_ref03_CheckMany N p0 p1 p2 p3 p4 = some r) : ACall Tryd.prog 27 [.D (.I .i64 p0), .D (.L (p1.map (rI .i64))), .D (.L (p2.map (rA .u8))), .D (.L (p3.map (rA .u8))), .agg (p4.l.map (aI .u8))] [] (.D (.B r)) [] [] := by
  refine ACall.of_bodyW [] (fn := Tryd.f27) (rc := f27c) (rs := f27r) Tryd.func27 rfl rfl (by kernel_rfl) (by kernel_rfl) (by kernel_rfl) (by rw [Tryd.ntmps27]; simp) ?_
  unfold F_ref03_CheckMany at h
  unfold f27c f27r
  rw [entry_eq _ _]
  rcases F_if h with ⟨h1238, h⟩ | ⟨h1238, h⟩
  · obtain rfl := Option.some.inj h
    simp (disch := first | assumption | (simp; done) | omega | (simp; omega)) only [push_cast, seval, h1238]
    refine e_ret (.inr rfl) ?_
    simp (disch := first | assumption | (simp; done) | omega | (simp; omega)) only [push_cast, seval, aret, aresults, aresult, h1238]
    refine ⟨_, rfl, ?_⟩
    first | (simp (disch := first | assumption | (simp; done) | omega | (simp; omega)) only [push_cast, seval, h1238] <;> rfl) | rfl
  rcases F_if h with ⟨h1239, h⟩ | ⟨h1239, h⟩
  · obtain rfl := Option.some.inj h
    simp (disch := first | assumption | (simp; done) | omega | (simp; omega)) only [push_cast, seval, h1238, h1239]
    refine e_ret (.inr rfl) ?_
    simp (disch := first | assumption | (simp; done) | omega | (simp; omega)) only [push_cast, seval, aret, aresults, aresult, h1238, h1239]
    refine ⟨_, rfl, ?_⟩
    first | (simp (disch := first | assumption | (simp; done) | omega | (simp; omega)) only [push_cast, seval, h1238, h1239] <;> rfl) | rfl
  obtain ⟨v1, h1240, h⟩ := F_bd h
  simp (disch := first | assumption | (simp; done) | omega | (simp; omega)) only [push_cast, seval, h1238, h1239]
  refine call_flat (by rfl) (c_ref03_Ascend N _ _ _ h1240) ?_ rfl ?_
  · simp (disch := first | assumption | (simp; done) | omega | (simp; omega)) only [push_cast, seval, h1238, h1239] <;> rfl
  rcases F_if h with ⟨h1241, h⟩ | ⟨h1241, h⟩
  rotate_left
  · obtain rfl := Option.some.inj h
    simp (disch := first | assumption | (simp; done) | omega | (simp; omega)) only [push_cast, seval, h1238, h1239, h1241]
    refine e_ret (.inr rfl) ?_
    simp (disch := first | assumption | (simp; done) | omega | (simp; omega)) only [push_cast, seval, aret, aresults, aresult, h1238, h1239, h1241]
    refine ⟨_, rfl, ?_⟩
    first | (simp (disch := first | assumption | (simp; done) | omega | (simp; omega)) only [push_cast, seval, h1238, h1239, h1241] <;> rfl) | rfl
  rcases F_if h with ⟨h1242, h⟩ | ⟨h1242, h⟩
  · obtain rfl := Option.some.inj h
    simp (disch := first | assumption | (simp; done) | omega | (simp; omega)) only [push_cast, seval, h1238, h1239, h1241, h1242]
    refine e_ret (.inr rfl) ?_
    simp (disch := first | assumption | (simp; done) | omega | (simp; omega)) only [push_cast, seval, aret, aresults, aresult, h1238, h1239, h1241, h1242]
    refine ⟨_, rfl, ?_⟩
    first | (simp (disch := first | assumption | (simp; done) | omega | (simp; omega)) only [push_cast, seval, h1238, h1239, h1241, h1242] <;> rfl) | rfl
  rcases F_if h with ⟨h1243, h⟩ | ⟨h1243, h⟩
  · rcases F_if h with ⟨h1244, h⟩ | ⟨h1244, h⟩
    rotate_left
    · obtain rfl := Option.some.inj h
      simp (disch := first | assumption | (simp; done) | omega | (simp; omega)) only [push_cast, seval, h1238, h1239, h1241, h1242, h1243, h1244]
      refine e_ret (.inr rfl) ?_
      simp (disch := first | assumption | (simp; done) | omega | (simp; omega)) only [push_cast, seval, aret, aresults, aresult, h1238, h1239, h1241, h1242, h1243, h1244]
      refine ⟨_, rfl, ?_⟩
      first | (simp (disch := first | assumption | (simp; done) | omega | (simp; omega)) only [push_cast, seval, h1238, h1239, h1241, h1242, h1243, h1244] <;> rfl) | rfl
    obtain ⟨v2, h1245, h⟩ := F_bd h
    simp (disch := first | assumption | (simp; done) | omega | (simp; omega)) only [push_cast, seval, h1238, h1239, h1241, h1242, h1243, h1244]
    refine call_flat (by rfl) (c_ref03_Empty N _ h1245) ?_ (by simp [AV.flat, AV.flatL, flatL_aI, flatL_app, DV.flat]) ?_
    · simp (disch := first | assumption | (simp; done) | omega | (simp; omega)) only [push_cast, seval, h1238, h1239, h1241, h1242, h1243, h1244] <;> rfl
    obtain rfl := Option.some.inj h
    simp (disch := first | assumption | (simp; done) | omega | (simp; omega)) only [push_cast, seval, h1238, h1239, h1241, h1242, h1243, h1244]
    refine e_ret (.inr rfl) ?_
    simp (disch := first | assumption | (simp; done) | omega | (simp; omega)) only [push_cast, seval, aret, aresults, aresult, h1238, h1239, h1241, h1242, h1243, h1244]
    refine ⟨_, rfl, ?_⟩
    first | (simp (disch := first | assumption | (simp; done) | omega | (simp; omega)) only [push_cast, seval, h1238, h1239, h1241, h1242, h1243, h1244] <;> rfl) | rfl
  obtain ⟨v3, h1246, h⟩ := F_bd h
  simp (disch := first | assumption | (simp; done) | omega | (simp; omega)) only [push_cast, seval, h1238, h1239, h1241, h1242, h1243]
  refine call_flat (by rfl) (c_ref03_walk N _ _ _ _ _ _ h1246) ?_ (by simp [AV.flat, AV.flatL, flatL_aI, flatL_app, DV.flat]) ?_
  · simp (disch := first | assumption | (simp; done) | omega | (simp; omega)) only [push_cast, seval, h1238, h1239, h1241, h1242, h1243] <;> rfl
  rcases F_if h with ⟨h1247, h⟩ | ⟨h1247, h⟩
  rotate_left
  · obtain rfl := Option.some.inj h
    simp (disch := first | assumption | (simp; done) | omega | (simp; omega)) only [push_cast, seval, h1238, h1239, h1241, h1242, h1243, h1247]
    refine e_ret (.inr rfl) ?_
    simp (disch := first | assumption | (simp; done) | omega | (simp; omega)) only [push_cast, seval, aret, aresults, aresult, h1238, h1239, h1241, h1242, h1243, h1247]
    refine ⟨_, rfl, ?_⟩
    first | (simp (disch := first | assumption | (simp; done) | omega | (simp; omega)) only [push_cast, seval, h1238, h1239, h1241, h1242, h1243, h1247] <;> rfl) | rfl
  rcases F_if h with ⟨h1248, h⟩ | ⟨h1248, h⟩
  · obtain rfl := Option.some.inj h
    simp (disch := first | assumption | (simp; done) | omega | (simp; omega)) only [push_cast, seval, h1238, h1239, h1241, h1242, h1243, h1247, h1248]
    refine e_ret (.inr rfl) ?_
    simp (disch := first | assumption | (simp; done) | omega | (simp; omega)) only [push_cast, seval, aret, aresults, aresult, h1238, h1239, h1241, h1242, h1243, h1247, h1248]
    refine ⟨_, rfl, ?_⟩
    first | (simp (disch := first | assumption | (simp; done) | omega | (simp; omega)) only [push_cast, seval, h1238, h1239, h1241, h1242, h1243, h1247, h1248] <;> rfl) | rfl
  obtain rfl := Option.some.inj h
  simp (disch := first | assumption | (simp; done) | omega | (simp; omega)) only [push_cast, seval, h1238, h1239, h1241, h1242, h1243, h1247, h1248]
  refine e_ret (.inr rfl) ?_
  simp (disch := first | assumption | (simp; done) | omega | (simp; omega)) only [push_cast, seval, aret, aresults, aresult, h1238, h1239, h1241, h1242, h1243, h1247, h1248]
  refine ⟨_, rfl, ?_⟩
  first | (simp (disch := first | assumption | (simp; done) | omega | (simp; omega)) only [push_cast, seval, h1238, h1239, h1241, h1242, h1243, h1247, h1248] <;> rfl) | rfl

def f4g0 : List RO := [o_ 11 (.boxR (t_ 5)), o_ 12 (.mv (.const (.bool .false)))]
def f4g1 : List RO := [o_ 16 (.mv (t_ 0)), o_ 17 (.len .false (t_ 16)), o_ 18 (.bin .gtr (t_ 17) (.const (.int .i64 40))), o_ 19 (.mv (t_ 18)), ⟨(.some 20), (.mv (t_ 1)), (.some (19, .false))⟩, ⟨(.some 21), (.len .false (t_ 20)), (.some (19, .false))⟩, ⟨(.some 22), (.bin .gtr (t_ 21) (.const (.int .i64 12))), (.some (19, .false))⟩, o_ 23 (.pick (t_ 19) (.const (.bool .true)) (t_ 22)), o_ 24 (.mv (t_ 23)), ⟨(.some 25), (.mv (t_ 3)), (.some (24, .false))⟩, ⟨(.some 26), (.len .false (t_ 25)), (.some (24, .false))⟩, ⟨(.some 27), (.bin .gtr (t_ 26) (.const (.int .i64 12))), (.some (24, .false))⟩, o_ 28 (.pick (t_ 24) (.const (.bool .true)) (t_ 27)), o_ 29 (.mv (t_ 28)), ⟨(.some 30), (.mv (t_ 4)), (.some (29, .false))⟩, ⟨(.some 31), (.len .false (t_ 30)), (.some (29, .false))⟩, ⟨(.some 32), (.bin .gtr (t_ 31) (.const (.int .i64 60))), (.some (29, .false))⟩, o_ 33 (.pick (t_ 29) (.const (.bool .true)) (t_ 32))]
def f4g2 : List RO := [o_ 34 (.call (.func 12) []), o_ 12 (.mv (t_ 34))]
def f4g3 : List RO := [o_ 36 (.mv (t_ 0)), o_ 37 (.mv (t_ 1)), o_ 38 (.call (.func 24) [(t_ 36), (t_ 37)]), o_ 35 (.mv (t_ 38)), o_ 39 (.ext (t_ 35) 0), o_ 40 (.ext (t_ 35) 1), o_ 13 (.mv (t_ 39)), o_ 14 (.mv (t_ 40))]
def f4g4 : List RO := [o_ 41 (.mv (t_ 0)), o_ 42 (.mv (t_ 1)), o_ 43 (.call (.func 25) [(t_ 41), (t_ 42)]), o_ 15 (.new [(.fl []), (.D (.I .i64 0))]), n_ (.store 2 (t_ 15) (t_ 43))]
def f4g5 : List RO := [o_ 44 (.call (.func 12) []), o_ 45 (.mv (t_ 44)), ⟨(.some 46), (.mv (t_ 13)), (.some (45, .true))⟩, ⟨(.some 47), (.faddr 0 (t_ 15)), (.some (45, .true))⟩, ⟨(.some 48), (.load .none (t_ 47)), (.some (45, .true))⟩, ⟨(.some 49), (.call (.func 20) [(t_ 46), (t_ 48)]), (.some (45, .true))⟩, o_ 50 (.pick (t_ 45) (t_ 49) (.const (.bool .false))), o_ 51 (.mv (t_ 50)), ⟨(.some 52), (.mv (t_ 14)), (.some (51, .true))⟩, ⟨(.some 53), (.faddr 1 (t_ 15)), (.some (51, .true))⟩, ⟨(.some 54), (.load .none (t_ 53)), (.some (51, .true))⟩, ⟨(.some 55), (.bin .eql (t_ 52) (t_ 54)), (.some (51, .true))⟩, o_ 56 (.pick (t_ 51) (t_ 55) (.const (.bool .false))), o_ 57 (.mv (t_ 56)), ⟨(.some 58), (.mv (t_ 2)), (.some (57, .true))⟩, ⟨(.some 59), (.mv (t_ 1)), (.some (57, .true))⟩, ⟨(.some 60), (.mv (t_ 3)), (.some (57, .true))⟩, ⟨(.some 61), (.mv (t_ 4)), (.some (57, .true))⟩, ⟨(.some 62), (.load (.some 16) (t_ 11)), (.some (57, .true))⟩, ⟨(.some 63), (.call (.func 26) [(t_ 58), (t_ 59), (t_ 60), (t_ 61), (t_ 62)]), (.some (57, .true))⟩, ⟨(.some 64), (.mv (t_ 2)), (.some (57, .true))⟩, ⟨(.some 65), (.mv (t_ 1)), (.some (57, .true))⟩, ⟨(.some 66), (.mv (t_ 3)), (.some (57, .true))⟩, ⟨(.some 67), (.mv (t_ 4)), (.some (57, .true))⟩, ⟨(.some 68), (.load (.some 16) (t_ 11)), (.some (57, .true))⟩, ⟨(.some 69), (.call (.func 27) [(t_ 64), (t_ 65), (t_ 66), (t_ 67), (t_ 68)]), (.some (57, .true))⟩, ⟨(.some 70), (.beq .false (t_ 63) (t_ 69)), (.some (57, .true))⟩, o_ 71 (.pick (t_ 57) (t_ 70) (.const (.bool .false))), o_ 12 (.mv (t_ 71))]
def f4c : RCode := (.seq (.reg .false f4g0) (.seq (.seq (.reg .false f4g1) (.cond (t_ 33) (.seq (.reg .false f4g2) .ret) .skip)) (.seq (.reg .false f4g3) (.seq (.reg .false f4g4) (.seq (.reg .true f4g5) .ret)))))
def f4r : List RRes := [(.tmp 12)]
attribute [push_cast] f4g0 f4g1 f4g2 f4g3 f4g4 f4g5
def F_law03_MerkleManyAsSpecified (N : Nat) (p0 : (List (Arr 16))) (p1 : (List Int)) (p2 : Int) (p3 : (List (Arr 16))) (p4 : (List (Arr 16))) (p5 : (Arr 16)) : Option Bool := if? (decide ((p0.length : Int) > 40)) (bd? (F_law03_sanity N ) fun v1 => some (v1)) (if? (decide ((p1.length : Int) > 12)) (bd? (F_law03_sanity N ) fun v2 => some (v2)) (if? (decide ((p3.length : Int) > 12)) (bd? (F_law03_sanity N ) fun v3 => some (v3)) (if? (decide ((p4.length : Int) > 60)) (bd? (F_law03_sanity N ) fun v4 => some (v4)) (bd? (F_merkle_Many N p0 p1) fun v5 => bd? (F_ref03_Many N p0 p1) fun v6 => bd? (F_law03_sanity N ) fun v7 => gd? ((v7) = true) (bd? (F_ref03_Same N v5.1 v6.L) fun v8 => gd? ((v8) = true) (gd? (((v5.2 == v6.E)) = true) (bd? (F_merkle_CheckMany N p2 p1 p3 p4 p5) fun v9 => bd? (F_ref03_CheckMany N p2 p1 p3 p4 p5) fun v10 => some ((v9 == v10)))))))))
theorem c_law03_MerkleManyAsSpecified (N : Nat) (p0 : (List (Arr 16))) (p1 : (List Int)) (p2 : Int) (p3 : (List (Arr 16))) (p4 : (List (Arr 16))) (p5 : (Arr 16)) (r : Bool) (h : F_law03_MerkleManyAsSpecified N p0 p1 p2 p3 p4 p5 = some r) : ACall Tryd.prog 4 [.D (.L (p0.map (rA .u8))), .D (.L (p1.map (rI .i64))), .D (.I .i64 p2), .D (.L (p3.map (rA .u8))), .D (.L (p4.map (rA .u8))), .agg (p5.l.map (aI .u8))] [] (.D (.B r)) [] [] := by
  refine ACall.of_bodyW [] (fn := Tryd.f4) (rc := f4c) (rs := f4r) Tryd.func4 rfl rfl (by kernel_rfl) (by kernel_rfl) (by kernel_rfl) (by rw [Tryd.ntmps4]; simp) ?_
  unfold F_law03_MerkleManyAsSpecified at h
  unfold f4c f4r
  rw [entry_eq _ _]
  rcases F_if h with ⟨h1249, h⟩ | ⟨h1249, h⟩
  · obtain ⟨v1, h1250, h⟩ := F_bd h
    simp (disch := first | assumption | (simp; done) | omega | (simp; omega)) only [push_cast, seval, h1249]
    refine call_flat (by rfl) (c_law03_sanity N _ h1250) ?_ rfl ?_
    · simp (disch := first | assumption | (simp; done) | omega | (simp; omega)) only [push_cast, seval, h1249] <;> rfl
    obtain rfl := Option.some.inj h
    simp (disch := first | assumption | (simp; done) | omega | (simp; omega)) only [push_cast, seval, h1249]
    refine e_ret (.inr rfl) ?_
    simp (disch := first | assumption | (simp; done) | omega | (simp; omega)) only [push_cast, seval, aret, aresults, aresult, h1249]
    refine ⟨_, rfl, ?_⟩
    first | (simp (disch := first | assumption | (simp; done) | omega | (simp; omega)) only [push_cast, seval, h1249] <;> rfl) | rfl
  rcases F_if h with ⟨h1251, h⟩ | ⟨h1251, h⟩
  · obtain ⟨v2, h1252, h⟩ := F_bd h
    simp (disch := first | assumption | (simp; done) | omega | (simp; omega)) only [push_cast, seval, h1249, h1251]
    refine call_flat (by rfl) (c_law03_sanity N _ h1252) ?_ rfl ?_
    · simp (disch := first | assumption | (simp; done) | omega | (simp; omega)) only [push_cast, seval, h1249, h1251] <;> rfl
    obtain rfl := Option.some.inj h
    simp (disch := first | assumption | (simp; done) | omega | (simp; omega)) only [push_cast, seval, h1249, h1251]
    refine e_ret (.inr rfl) ?_
    simp (disch := first | assumption | (simp; done) | omega | (simp; omega)) only [push_cast, seval, aret, aresults, aresult, h1249, h1251]
    refine ⟨_, rfl, ?_⟩
    first | (simp (disch := first | assumption | (simp; done) | omega | (simp; omega)) only [push_cast, seval, h1249, h1251] <;> rfl) | rfl
  rcases F_if h with ⟨h1253, h⟩ | ⟨h1253, h⟩
  · obtain ⟨v3, h1254, h⟩ := F_bd h
    simp (disch := first | assumption | (simp; done) | omega | (simp; omega)) only [push_cast, seval, h1249, h1251, h1253]
    refine call_flat (by rfl) (c_law03_sanity N _ h1254) ?_ rfl ?_
    · simp (disch := first | assumption | (simp; done) | omega | (simp; omega)) only [push_cast, seval, h1249, h1251, h1253] <;> rfl
    obtain rfl := Option.some.inj h
    simp (disch := first | assumption | (simp; done) | omega | (simp; omega)) only [push_cast, seval, h1249, h1251, h1253]
    refine e_ret (.inr rfl) ?_
    simp (disch := first | assumption | (simp; done) | omega | (simp; omega)) only [push_cast, seval, aret, aresults, aresult, h1249, h1251, h1253]
    refine ⟨_, rfl, ?_⟩
    first | (simp (disch := first | assumption | (simp; done) | omega | (simp; omega)) only [push_cast, seval, h1249, h1251, h1253] <;> rfl) | rfl
  rcases F_if h with ⟨h1255, h⟩ | ⟨h1255, h⟩
  · obtain ⟨v4, h1256, h⟩ := F_bd h
    simp (disch := first | assumption | (simp; done) | omega | (simp; omega)) only [push_cast, seval, h1249, h1251, h1253, h1255]
    refine call_flat (by rfl) (c_law03_sanity N _ h1256) ?_ rfl ?_
    · simp (disch := first | assumption | (simp; done) | omega | (simp; omega)) only [push_cast, seval, h1249, h1251, h1253, h1255] <;> rfl
    obtain rfl := Option.some.inj h
    simp (disch := first | assumption | (simp; done) | omega | (simp; omega)) only [push_cast, seval, h1249, h1251, h1253, h1255]
    refine e_ret (.inr rfl) ?_
    simp (disch := first | assumption | (simp; done) | omega | (simp; omega)) only [push_cast, seval, aret, aresults, aresult, h1249, h1251, h1253, h1255]
    refine ⟨_, rfl, ?_⟩
    first | (simp (disch := first | assumption | (simp; done) | omega | (simp; omega)) only [push_cast, seval, h1249, h1251, h1253, h1255] <;> rfl) | rfl
  obtain ⟨v5, h1257, h⟩ := F_bd h
  simp (disch := first | assumption | (simp; done) | omega | (simp; omega)) only [push_cast, seval, h1249, h1251, h1253, h1255]
  refine call_new (by rfl) (c_merkle_Many N _ _ _ h1257) ?_ rfl ?_
  · simp (disch := first | assumption | (simp; done) | omega | (simp; omega)) only [push_cast, seval, h1249, h1251, h1253, h1255] <;> rfl
  obtain ⟨v6, h1258, h⟩ := F_bd h
  simp (disch := first | assumption | (simp; done) | omega | (simp; omega)) only [push_cast, seval, h1249, h1251, h1253, h1255]
  refine call_new (by rfl) (c_ref03_Many N _ _ _ h1258) ?_ rfl ?_
  · simp (disch := first | assumption | (simp; done) | omega | (simp; omega)) only [push_cast, seval, h1249, h1251, h1253, h1255] <;> rfl
  obtain ⟨v7, h1259, h⟩ := F_bd h
  simp (disch := first | assumption | (simp; done) | omega | (simp; omega)) only [push_cast, seval, h1249, h1251, h1253, h1255]
  refine call_flat (by rfl) (c_law03_sanity N _ h1259) ?_ rfl ?_
  · simp (disch := first | assumption | (simp; done) | omega | (simp; omega)) only [push_cast, seval, h1249, h1251, h1253, h1255] <;> rfl
  obtain ⟨h1260, h⟩ := F_gd h
  obtain ⟨v8, h1261, h⟩ := F_bd h
  simp (disch := first | assumption | (simp; done) | omega | (simp; omega)) only [push_cast, seval, h1249, h1251, h1253, h1255, h1260]
  refine call_flat (by rfl) (c_ref03_Same N _ _ _ h1261) ?_ rfl ?_
  · simp (disch := first | assumption | (simp; done) | omega | (simp; omega)) only [push_cast, seval, h1249, h1251, h1253, h1255, h1260] <;> rfl
  obtain ⟨h1262, h⟩ := F_gd h
  obtain ⟨h1263, h⟩ := F_gd h
  obtain ⟨v9, h1264, h⟩ := F_bd h
  simp (disch := first | assumption | (simp; done) | omega | (simp; omega)) only [push_cast, seval, h1249, h1251, h1253, h1255, h1260, h1262, h1263]
  refine call_flat (by rfl) (c_merkle_CheckMany N _ _ _ _ _ _ h1264) ?_ rfl ?_
  · simp (disch := first | assumption | (simp; done) | omega | (simp; omega)) only [push_cast, seval, h1249, h1251, h1253, h1255, h1260, h1262, h1263] <;> rfl
  obtain ⟨v10, h1265, h⟩ := F_bd h
  simp (disch := first | assumption | (simp; done) | omega | (simp; omega)) only [push_cast, seval, h1249, h1251, h1253, h1255, h1260, h1262, h1263]
  refine call_flat (by rfl) (c_ref03_CheckMany N _ _ _ _ _ _ h1265) ?_ rfl ?_
  · simp (disch := first | assumption | (simp; done) | omega | (simp; omega)) only [push_cast, seval, h1249, h1251, h1253, h1255, h1260, h1262, h1263] <;> rfl
  obtain rfl := Option.some.inj h
  simp (disch := first | assumption | (simp; done) | omega | (simp; omega)) only [push_cast, seval, h1249, h1251, h1253, h1255, h1260, h1262, h1263]
  refine e_ret (.inr rfl) ?_
  simp (disch := first | assumption | (simp; done) | omega | (simp; omega)) only [push_cast, seval, aret, aresults, aresult, h1249, h1251, h1253, h1255, h1260, h1262, h1263]
  refine ⟨_, rfl, ?_⟩
  first | (simp (disch := first | assumption | (simp; done) | omega | (simp; omega)) only [push_cast, seval, h1249, h1251, h1253, h1255, h1260, h1262, h1263] <;> rfl) | rfl
end Go.Proofs.Tryd
