/- Printed by a program: what the functions compute, and that they do (part 2). -/
import Derived.Test.YtjhhgpencphgoaaDoorL6G1
set_option linter.unusedSimpArgs false
set_option linter.unusedVariables false
set_option maxRecDepth 8000
namespace Go.Proofs.Tryd
open Go.Eng Go.RowKit
def f96g0 : List RO := [o_ 4 (.mv (.const (.slice .none 0 0)))]
def f96g1 : List RO := [o_ 7 (.mv (t_ 0)), o_ 8 (.cvI .u8 (t_ 7)), o_ 9 (.bslice 1 [(t_ 8)]), o_ 5 (.mv (t_ 9))]
def f96g2 : List RO := [o_ 6 (.mv (.const (.int .i64 0)))]
def f96g3 : List RO := [o_ 10 (.mv (t_ 6)), o_ 11 (.mv (t_ 1)), o_ 12 (.len .false (t_ 11)), o_ 13 (.bin .lss (t_ 10) (t_ 12))]
def f96g4 : List RO := [o_ 16 (.mv (t_ 5)), o_ 17 (.mv (t_ 1)), o_ 18 (.mv (t_ 6)), o_ 19 (.iaddr 1 (t_ 17) (t_ 18)), o_ 20 (.load .none (t_ 19)), o_ 21 (.call (.func 135) [(t_ 20)]), o_ 22 (.appE 1 1 (t_ 16) (t_ 21)), o_ 5 (.mv (t_ 22))]
def f96g5 : List RO := [o_ 14 (.mv (t_ 6)), o_ 15 (.bin .add (t_ 14) (.const (.int .i64 1))), o_ 6 (.mv (t_ 15))]
def f96b6 : RCode := (.seq (.seq (.reg .false f96g3) (.cond (t_ 13) .skip (.exit 0))) (.seq (.block 1 (.reg .false f96g4)) (.reg .false f96g5)))
def f96g7 : List RO := [o_ 23 (.mv (t_ 5)), o_ 4 (.mv (t_ 23))]
def f96c : RCode := (.seq (.reg .false f96g0) (.seq (.reg .false f96g1) (.seq (.seq (.reg .false f96g2) (.block 0 (.loop f96b6))) (.seq (.reg .false f96g7) .ret))))
def f96r : List RRes := [(.tmp 4)]
attribute [push_cast] f96g0 f96g1 f96g2 f96g3 f96g4 f96g5 f96g7
def L_ref02_Input_0 (N : Nat) (p1 : (List Str)) : Nat → Int → (List Int) → Option (List Int)
  | 0, _, _ => none
  | m1+1, a1, a2 => if? (decide (a1 < (p1.length : Int))) (get? p1 (a1) fun x3 => bd? (F_ref01_Bytes N x3) fun v4 => gd? ((a2.length + v4.length) * 1 ≤ 140737488355328) (ck .i64 (a1 + 1) (L_ref02_Input_0 N p1 m1 (a1 + 1) (a2 ++ v4)))) (some (a2))
def I_ref02_Input_0 (N : Nat) (p1 : (List Str)) (r : (List Int)) (n : Nat) (s : AState) : Prop := ∃ (a1 : Int) (a2 : (List Int)), L_ref02_Input_0 N p1 n a1 a2 = some r ∧ s = ⟨envL [(1, .D (.L (p1.map rS))), (5, .sl (.O 0) 1 0 a2.length), (6, .D (.I .i64 a1))], ownL [], ownL [some (.row true 1 (a2.map (rI .u8)))], 1⟩
def F_ref02_Input (N : Nat) (p0 : Int) (p1 : (List Str)) : Option (List Int) := L_ref02_Input_0 N p1 N 0 [(IntKind.wrap .u8 (p0))]
theorem c_ref02_Input (N : Nat) (p0 : Int) (p1 : (List Str)) (r : (List Int)) (h : F_ref02_Input N p0 p1 = some r) : ACall Tryd.prog 96 [.D (.I .i64 p0), .D (.L (p1.map rS))] [] (.sl (.O 0) 1 0 r.length) [] [.row true 1 (r.map (rI .u8))] := by
  refine ACall.of_bodyW [22] (fn := Tryd.f96) (rc := f96c) (rs := f96r) Tryd.func96 rfl rfl (by kernel_rfl) (by kernel_rfl) (by kernel_rfl) (by rw [Tryd.ntmps96]; simp) ?_
  unfold F_ref02_Input at h
  unfold f96c f96r
  rw [entry_eq _ _]
  simp (disch := first | assumption | (simp; done) | omega | (simp; omega)) only [push_cast, seval]
  refine loop_of (I_ref02_Input_0 N p1 _) N [1, 5, 6] [0] (by decide) ⟨0, [(IntKind.wrap .u8 (p0))], h, ?_⟩ ?_
  · rw [wk_mk]
    simp (disch := first | assumption | (simp; done) | omega | (simp; omega)) only [push_cast, seval] <;> rfl
  rintro n s ⟨a1, a2, h, rfl⟩
  rcases n with _ | m1
  · exact absurd h (by simp [L_ref02_Input_0])
  rw [L_ref02_Input_0] at h
  unfold f96b6
  rcases F_if h with ⟨h827, h⟩ | ⟨h827, h⟩
  rotate_left
  · obtain rfl := Option.some.inj h
    simp (disch := first | assumption | (simp; done) | omega | (simp; omega)) only [push_cast, seval, h827]
    refine AEndW.of [0] (.inr rfl) (by decide) rfl ?_ rfl ?_
    · simp (disch := first | assumption | (simp; done) | omega | (simp; omega)) only [push_cast, seval, h827] <;> rfl
    · simp (disch := first | assumption | (simp; done) | omega | (simp; omega)) only [push_cast, seval, h827] <;> rfl
  obtain ⟨x3, h828, h829, h⟩ := F_get h
  have h831 := get_lt h828 h829
  have h830 := map_get rS h829
  try simp (disch := first | assumption | (simp; done) | omega | (simp; omega)) only [push_cast, seval] at h830
  obtain ⟨v4, h832, h⟩ := F_bd h
  simp (disch := first | assumption | (simp; done) | omega | (simp; omega)) only [push_cast, seval, h827, h828, h830, h831]
  refine call_new (by rfl) (c_ref01_Bytes N _ _ h832) ?_ rfl ?_
  · simp (disch := first | assumption | (simp; done) | omega | (simp; omega)) only [push_cast, seval, h827, h828, h830, h831] <;> rfl
  obtain ⟨h833, h⟩ := F_gd h
  try simp (disch := first | assumption | (simp; done) | omega | (simp; omega)) only [push_cast, seval] at h833
  obtain ⟨h834, h⟩ := F_ck h
  try simp (disch := first | assumption | (simp; done) | omega | (simp; omega)) only [push_cast, seval] at h834
  simp (disch := first | assumption | (simp; done) | omega | (simp; omega)) only [push_cast, seval, h827, h828, h830, h831, h833, h834]
  refine lpK_of m1 [1, 5, 6] [2] (by omega) (by decide) ⟨(a1 + 1), (a2 ++ v4), (by first | exact h | simpa only [*] using h), ?_⟩
  rw [wk_mk]
  simp (disch := first | assumption | (simp; done) | omega | (simp; omega)) only [push_cast, seval, h827, h828, h830, h831, h833, h834] <;> rfl

def f160g0 : List RO := [o_ 2 (.mv (.const (.slice .none 0 0)))]
def f160g1 : List RO := [o_ 6 (.bslice 1 []), o_ 7 (.mv (t_ 0)), o_ 8 (.app 1 1 (t_ 6) (t_ 7)), o_ 3 (.mv (t_ 8))]
def f160g2 : List RO := [o_ 9 (.mv (t_ 3)), o_ 10 (.bslice 1 [(.const (.int .u8 128))]), o_ 11 (.appE 1 1 (t_ 9) (t_ 10)), o_ 3 (.mv (t_ 11))]
def f160g3 : List RO := [o_ 12 (.mv (t_ 3)), o_ 13 (.len .false (t_ 12)), o_ 14 (.bin .rem (t_ 13) (.const (.int .i64 64))), o_ 15 (.bin .neq (t_ 14) (.const (.int .i64 56)))]
def f160g4 : List RO := [o_ 16 (.mv (t_ 3)), o_ 17 (.bslice 1 [(.const (.int .u8 0))]), o_ 18 (.appE 1 1 (t_ 16) (t_ 17)), o_ 3 (.mv (t_ 18))]
def f160b5 : RCode := (.seq (.seq (.reg .false f160g3) (.cond (t_ 15) .skip (.exit 0))) (.block 1 (.reg .false f160g4)))
def f160g6 : List RO := [o_ 19 (.mv (t_ 0)), o_ 20 (.len .false (t_ 19)), o_ 21 (.cvI .u64 (t_ 20)), o_ 22 (.bin .mul (.const (.int .u64 8)) (t_ 21)), o_ 4 (.mv (t_ 22))]
def f160g7 : List RO := [o_ 5 (.mv (.const (.int .i64 0)))]
def f160g8 : List RO := [o_ 23 (.mv (t_ 5)), o_ 24 (.bin .lss (t_ 23) (.const (.int .i64 8)))]
def f160g9 : List RO := [o_ 27 (.mv (t_ 3)), o_ 28 (.mv (t_ 4)), o_ 29 (.mv (t_ 5)), o_ 30 (.bin .mul (.const (.int .i64 8)) (t_ 29)), o_ 31 (.bin .sub (.const (.int .i64 56)) (t_ 30)), o_ 32 (.bin .shr (t_ 28) (t_ 31)), o_ 33 (.cvI .u8 (t_ 32)), o_ 34 (.bslice 1 [(t_ 33)]), o_ 35 (.appE 1 1 (t_ 27) (t_ 34)), o_ 3 (.mv (t_ 35))]
def f160g10 : List RO := [o_ 25 (.mv (t_ 5)), o_ 26 (.bin .add (t_ 25) (.const (.int .i64 1))), o_ 5 (.mv (t_ 26))]
def f160b11 : RCode := (.seq (.seq (.reg .false f160g8) (.cond (t_ 24) .skip (.exit 2))) (.seq (.block 3 (.reg .false f160g9)) (.reg .false f160g10)))
def f160g12 : List RO := [o_ 36 (.mv (t_ 3)), o_ 2 (.mv (t_ 36))]
def f160c : RCode := (.seq (.reg .false f160g0) (.seq (.reg .false f160g1) (.seq (.reg .false f160g2) (.seq (.block 0 (.loop f160b5)) (.seq (.reg .false f160g6) (.seq (.seq (.reg .false f160g7) (.block 2 (.loop f160b11))) (.seq (.reg .false f160g12) .ret)))))))
def f160r : List RRes := [(.tmp 2)]
attribute [push_cast] f160g0 f160g1 f160g2 f160g3 f160g4 f160g6 f160g7 f160g8 f160g9 f160g10 f160g12
def L_ref02_padded_1 (N : Nat) (p0 : (List Int)) : Nat → Int → (List Int) → Option (List Int)
  | 0, _, _ => none
  | m3+1, a2, a3 => if? (decide (a2 < 8)) (ck .i64 (8 * a2) (ck .i64 (56 - (8 * a2)) (gd? (0 ≤ (56 - (8 * a2))) (gd? ((56 - (8 * a2)) ≤ (IntKind.bits .u64 : Int)) (gd? ((a3.length + [(IntKind.wrap .u8 (((IntKind.wrap .u64 (8 * (IntKind.wrap .u64 ((p0.length : Int))))) / 2 ^ (56 - (8 * a2)).toNat)))].length) * 1 ≤ 140737488355328) (ck .i64 (a2 + 1) (L_ref02_padded_1 N p0 m3 (a2 + 1) (a3 ++ [(IntKind.wrap .u8 (((IntKind.wrap .u64 (8 * (IntKind.wrap .u64 ((p0.length : Int))))) / 2 ^ (56 - (8 * a2)).toNat)))])))))))) (some (a3))
def I_ref02_padded_1 (N : Nat) (p0 : (List Int)) (r : (List Int)) (n : Nat) (s : AState) : Prop := ∃ (a2 : Int) (a3 : (List Int)), L_ref02_padded_1 N p0 n a2 a3 = some r ∧ s = ⟨envL [(3, .sl (.O 0) 1 0 a3.length), (4, .D (.I .u64 (IntKind.wrap .u64 (8 * (IntKind.wrap .u64 ((p0.length : Int))))))), (5, .D (.I .i64 a2))], ownL [], ownL [some (.row true 1 (a3.map (rI .u8)))], 1⟩
def L_ref02_padded_0 (N : Nat) (p0 : (List Int)) : Nat → (List Int) → Option (List Int)
  | 0, _ => none
  | m1+1, a1 => if? (((Int.tmod (a1.length : Int) 64) != 56)) (gd? ((a1.length + [0].length) * 1 ≤ 140737488355328) (L_ref02_padded_0 N p0 m1 (a1 ++ [0]))) (L_ref02_padded_1 N p0 N 0 a1)
def I_ref02_padded_0 (N : Nat) (p0 : (List Int)) (r : (List Int)) (n : Nat) (s : AState) : Prop := ∃ (a1 : (List Int)), L_ref02_padded_0 N p0 n a1 = some r ∧ s = ⟨envL [(0, .D (.L (p0.map (rI .u8)))), (3, .sl (.O 0) 1 0 a1.length)], ownL [], ownL [some (.row true 1 (a1.map (rI .u8)))], 1⟩
def F_ref02_padded (N : Nat) (p0 : (List Int)) : Option (List Int) := gd? (p0.length * 1 ≤ 140737488355328) (gd? ((p0.length + [128].length) * 1 ≤ 140737488355328) (L_ref02_padded_0 N p0 N (p0 ++ [128])))
theorem c_ref02_padded (N : Nat) (p0 : (List Int)) (r : (List Int)) (h : F_ref02_padded N p0 = some r) : ACall Tryd.prog 160 [.D (.L (p0.map (rI .u8)))] [] (.sl (.O 0) 1 0 r.length) [] [.row true 1 (r.map (rI .u8))] := by
  refine ACall.of_bodyW [11, 18, 35] (fn := Tryd.f160) (rc := f160c) (rs := f160r) Tryd.func160 rfl rfl (by kernel_rfl) (by kernel_rfl) (by kernel_rfl) (by rw [Tryd.ntmps160]; simp) ?_
  unfold F_ref02_padded at h
  unfold f160c f160r
  rw [entry_eq _ _]
  obtain ⟨h835, h⟩ := F_gd h
  try simp (disch := first | assumption | (simp; done) | omega | (simp; omega)) only [push_cast, seval] at h835
  obtain ⟨h836, h⟩ := F_gd h
  try simp (disch := first | assumption | (simp; done) | omega | (simp; omega)) only [push_cast, seval] at h836
  simp (disch := first | assumption | (simp; done) | omega | (simp; omega)) only [push_cast, seval, h835, h836]
  refine loop_of (I_ref02_padded_0 N p0 _) N [0, 3] [2] (by decide) ⟨(p0 ++ [128]), h, ?_⟩ ?_
  · rw [wk_mk]
    simp (disch := first | assumption | (simp; done) | omega | (simp; omega)) only [push_cast, seval, h835, h836] <;> rfl
  rintro n s ⟨a1, h, rfl⟩
  rcases n with _ | m1
  · exact absurd h (by simp [L_ref02_padded_0])
  rw [L_ref02_padded_0] at h
  unfold f160b5
  rcases F_if h with ⟨h837, h⟩ | ⟨h837, h⟩
  · try simp (disch := first | assumption | (simp; done) | omega | (simp; omega)) only [push_cast, seval] at h837
    obtain ⟨h838, h⟩ := F_gd h
    try simp (disch := first | assumption | (simp; done) | omega | (simp; omega)) only [push_cast, seval] at h838
    simp (disch := first | assumption | (simp; done) | omega | (simp; omega)) only [push_cast, seval, h835, h836, h837, h838]
    refine lpK_of m1 [0, 3] [2] (by omega) (by decide) ⟨(a1 ++ [0]), (by first | exact h | simpa only [*] using h), ?_⟩
    rw [wk_mk]
    simp (disch := first | assumption | (simp; done) | omega | (simp; omega)) only [push_cast, seval, h835, h836, h837, h838] <;> rfl
  try simp (disch := first | assumption | (simp; done) | omega | (simp; omega)) only [push_cast, seval] at h837
  simp (disch := first | assumption | (simp; done) | omega | (simp; omega)) only [push_cast, seval, h835, h836, h837]
  refine loop_of (I_ref02_padded_1 N p0 _) N [3, 4, 5] [0] (by decide) ⟨0, a1, h, ?_⟩ ?_
  · rw [wk_mk]
    simp (disch := first | assumption | (simp; done) | omega | (simp; omega)) only [push_cast, seval, h835, h836, h837] <;> rfl
  rintro n s ⟨a2, a3, h, rfl⟩
  rcases n with _ | m3
  · exact absurd h (by simp [L_ref02_padded_1])
  rw [L_ref02_padded_1] at h
  unfold f160b11
  rcases F_if h with ⟨h839, h⟩ | ⟨h839, h⟩
  rotate_left
  · obtain rfl := Option.some.inj h
    simp (disch := first | assumption | (simp; done) | omega | (simp; omega)) only [push_cast, seval, h835, h836, h837, h839]
    refine AEndW.of [0] (.inr rfl) (by decide) rfl ?_ rfl ?_
    · simp (disch := first | assumption | (simp; done) | omega | (simp; omega)) only [push_cast, seval, h835, h836, h837, h839] <;> rfl
    · simp (disch := first | assumption | (simp; done) | omega | (simp; omega)) only [push_cast, seval, h835, h836, h837, h839] <;> rfl
  obtain ⟨h840, h⟩ := F_ck h
  try simp (disch := first | assumption | (simp; done) | omega | (simp; omega)) only [push_cast, seval] at h840
  obtain ⟨h841, h⟩ := F_ck h
  try simp (disch := first | assumption | (simp; done) | omega | (simp; omega)) only [push_cast, seval] at h841
  obtain ⟨h842, h⟩ := F_gd h
  try simp (disch := first | assumption | (simp; done) | omega | (simp; omega)) only [push_cast, seval] at h842
  obtain ⟨h843, h⟩ := F_gd h
  try simp (disch := first | assumption | (simp; done) | omega | (simp; omega)) only [push_cast, seval] at h843
  obtain ⟨h844, h⟩ := F_gd h
  try simp (disch := first | assumption | (simp; done) | omega | (simp; omega)) only [push_cast, seval] at h844
  obtain ⟨h845, h⟩ := F_ck h
  try simp (disch := first | assumption | (simp; done) | omega | (simp; omega)) only [push_cast, seval] at h845
  simp (disch := first | assumption | (simp; done) | omega | (simp; omega)) only [push_cast, seval, h835, h836, h837, h839, h840, h841, h842, h843, h844, h845]
  refine lpK_of m3 [3, 4, 5] [2] (by omega) (by decide) ⟨(a2 + 1), (a3 ++ [(IntKind.wrap .u8 (((IntKind.wrap .u64 (8 * (IntKind.wrap .u64 ((p0.length : Int))))) / 2 ^ (56 - (8 * a2)).toNat)))]), (by first | exact h | simpa only [*] using h), ?_⟩
  rw [wk_mk]
  simp (disch := first | assumption | (simp; done) | omega | (simp; omega)) only [push_cast, seval, h835, h836, h837, h839, h840, h841, h842, h843, h844, h845] <;> rfl

def f162g0 : List RO := [o_ 4 (.mv (.const (.int .u32 0)))]
def f162g1 : List RO := [o_ 5 (.mv (t_ 0)), o_ 6 (.mv (t_ 1)), o_ 7 (.bin .shr (t_ 5) (t_ 6)), o_ 8 (.mv (t_ 0)), o_ 9 (.mv (t_ 1)), o_ 10 (.bin .sub (.const (.int .i64 32)) (t_ 9)), o_ 11 (.bin .shl (t_ 8) (t_ 10)), o_ 12 (.bin .or (t_ 7) (t_ 11)), o_ 4 (.mv (t_ 12))]
def f162c : RCode := (.seq (.reg .false f162g0) (.seq (.reg .true f162g1) .ret))
def f162r : List RRes := [(.tmp 4)]
attribute [push_cast] f162g0 f162g1
def F_ref02_rotr (N : Nat) (p0 : Int) (p1 : Int) : Option Int := gd? (0 ≤ p1) (gd? (p1 ≤ (IntKind.bits .u32 : Int)) (ck .i64 (32 - p1) (gd? (0 ≤ (32 - p1)) (gd? ((32 - p1) ≤ (IntKind.bits .u32 : Int)) (some ((bits .or .u32 (p0 / 2 ^ p1.toNat) (IntKind.wrap .u32 (p0 * 2 ^ (32 - p1).toNat)))))))))
theorem c_ref02_rotr (N : Nat) (p0 : Int) (p1 : Int) (r : Int) (h : F_ref02_rotr N p0 p1 = some r) : ACall Tryd.prog 162 [.D (.I .u32 p0), .D (.I .i64 p1)] [] (.D (.I .u32 r)) [] [] := by
  refine ACall.of_bodyW [] (fn := Tryd.f162) (rc := f162c) (rs := f162r) Tryd.func162 rfl rfl (by kernel_rfl) (by kernel_rfl) (by kernel_rfl) (by rw [Tryd.ntmps162]; simp) ?_
  unfold F_ref02_rotr at h
  unfold f162c f162r
  rw [entry_eq _ _]
  obtain ⟨h846, h⟩ := F_gd h
  obtain ⟨h847, h⟩ := F_gd h
  try simp (disch := first | assumption | (simp; done) | omega | (simp; omega)) only [push_cast, seval] at h847
  obtain ⟨h848, h⟩ := F_ck h
  try simp (disch := first | assumption | (simp; done) | omega | (simp; omega)) only [push_cast, seval] at h848
  obtain ⟨h849, h⟩ := F_gd h
  try simp (disch := first | assumption | (simp; done) | omega | (simp; omega)) only [push_cast, seval] at h849
  obtain ⟨h850, h⟩ := F_gd h
  try simp (disch := first | assumption | (simp; done) | omega | (simp; omega)) only [push_cast, seval] at h850
  obtain rfl := Option.some.inj h
  simp (disch := first | assumption | (simp; done) | omega | (simp; omega)) only [push_cast, seval, h846, h847, h848, h849, h850]
  refine e_ret (.inr rfl) ?_
  simp (disch := first | assumption | (simp; done) | omega | (simp; omega)) only [push_cast, seval, aret, aresults, aresult, h846, h847, h848, h849, h850]
  refine ⟨_, rfl, ?_⟩
  first | (simp (disch := first | assumption | (simp; done) | omega | (simp; omega)) only [push_cast, seval, h846, h847, h848, h849, h850] <;> rfl) | rfl

def f161g0 : List RO := [o_ 2 (.newR ((Arr.zero 64).l.map (aI .u32)))]
def f161g1 : List RO := [o_ 3 (.newR ((Arr.zero 64).l.map (aI .u32)))]
def f161g2 : List RO := [o_ 4 (.mv (.const (.int .i64 0)))]
def f161g3 : List RO := [o_ 8 (.mv (t_ 4)), o_ 9 (.bin .lss (t_ 8) (.const (.int .i64 16)))]
def f161g4 : List RO := [o_ 12 (.mv (t_ 4)), o_ 13 (.mv (t_ 0)), o_ 14 (.mv (t_ 4)), o_ 15 (.bin .mul (.const (.int .i64 4)) (t_ 14)), o_ 16 (.iaddr 1 (t_ 13) (t_ 15)), o_ 17 (.load .none (t_ 16)), o_ 18 (.cvI .u32 (t_ 17)), o_ 19 (.bin .shl (t_ 18) (.const (.int .u64 24))), o_ 20 (.mv (t_ 0)), o_ 21 (.mv (t_ 4)), o_ 22 (.bin .mul (.const (.int .i64 4)) (t_ 21)), o_ 23 (.bin .add (t_ 22) (.const (.int .i64 1))), o_ 24 (.iaddr 1 (t_ 20) (t_ 23)), o_ 25 (.load .none (t_ 24)), o_ 26 (.cvI .u32 (t_ 25)), o_ 27 (.bin .shl (t_ 26) (.const (.int .u64 16))), o_ 28 (.bin .or (t_ 19) (t_ 27)), o_ 29 (.mv (t_ 0)), o_ 30 (.mv (t_ 4)), o_ 31 (.bin .mul (.const (.int .i64 4)) (t_ 30)), o_ 32 (.bin .add (t_ 31) (.const (.int .i64 2))), o_ 33 (.iaddr 1 (t_ 29) (t_ 32)), o_ 34 (.load .none (t_ 33)), o_ 35 (.cvI .u32 (t_ 34)), o_ 36 (.bin .shl (t_ 35) (.const (.int .u64 8))), o_ 37 (.bin .or (t_ 28) (t_ 36)), o_ 38 (.mv (t_ 0)), o_ 39 (.mv (t_ 4)), o_ 40 (.bin .mul (.const (.int .i64 4)) (t_ 39)), o_ 41 (.bin .add (t_ 40) (.const (.int .i64 3))), o_ 42 (.iaddr 1 (t_ 38) (t_ 41)), o_ 43 (.load .none (t_ 42)), o_ 44 (.cvI .u32 (t_ 43)), o_ 45 (.bin .or (t_ 37) (t_ 44)), o_ 46 (.iaddrA 64 1 (t_ 3) (t_ 12)), n_ (.store 1 (t_ 46) (t_ 45))]
def f161g5 : List RO := [o_ 10 (.mv (t_ 4)), o_ 11 (.bin .add (t_ 10) (.const (.int .i64 1))), o_ 4 (.mv (t_ 11))]
def f161b6 : RCode := (.seq (.seq (.reg .false f161g3) (.cond (t_ 9) .skip (.exit 0))) (.seq (.block 1 (.reg .true f161g4)) (.reg .false f161g5)))
def f161g7 : List RO := [o_ 5 (.mv (.const (.int .i64 16)))]
def f161g8 : List RO := [o_ 47 (.mv (t_ 5)), o_ 48 (.bin .lss (t_ 47) (.const (.int .i64 64)))]
def f161g9 : List RO := [o_ 51 (.mv (t_ 5)), o_ 52 (.bin .sub (t_ 51) (.const (.int .i64 15))), o_ 53 (.iaddrA 64 1 (t_ 3) (t_ 52)), o_ 54 (.load .none (t_ 53)), o_ 55 (.call (.func 162) [(t_ 54), (.const (.int .i64 7))]), o_ 56 (.mv (t_ 5)), o_ 57 (.bin .sub (t_ 56) (.const (.int .i64 15))), o_ 58 (.iaddrA 64 1 (t_ 3) (t_ 57)), o_ 59 (.load .none (t_ 58)), o_ 60 (.call (.func 162) [(t_ 59), (.const (.int .i64 18))]), o_ 61 (.bin .xor (t_ 55) (t_ 60)), o_ 62 (.mv (t_ 5)), o_ 63 (.bin .sub (t_ 62) (.const (.int .i64 15))), o_ 64 (.iaddrA 64 1 (t_ 3) (t_ 63)), o_ 65 (.load .none (t_ 64)), o_ 66 (.bin .shr (t_ 65) (.const (.int .u64 3))), o_ 67 (.bin .xor (t_ 61) (t_ 66)), o_ 6 (.mv (t_ 67))]
def f161g10 : List RO := [o_ 68 (.mv (t_ 5)), o_ 69 (.bin .sub (t_ 68) (.const (.int .i64 2))), o_ 70 (.iaddrA 64 1 (t_ 3) (t_ 69)), o_ 71 (.load .none (t_ 70)), o_ 72 (.call (.func 162) [(t_ 71), (.const (.int .i64 17))]), o_ 73 (.mv (t_ 5)), o_ 74 (.bin .sub (t_ 73) (.const (.int .i64 2))), o_ 75 (.iaddrA 64 1 (t_ 3) (t_ 74)), o_ 76 (.load .none (t_ 75)), o_ 77 (.call (.func 162) [(t_ 76), (.const (.int .i64 19))]), o_ 78 (.bin .xor (t_ 72) (t_ 77)), o_ 79 (.mv (t_ 5)), o_ 80 (.bin .sub (t_ 79) (.const (.int .i64 2))), o_ 81 (.iaddrA 64 1 (t_ 3) (t_ 80)), o_ 82 (.load .none (t_ 81)), o_ 83 (.bin .shr (t_ 82) (.const (.int .u64 10))), o_ 84 (.bin .xor (t_ 78) (t_ 83)), o_ 7 (.mv (t_ 84))]
def f161g11 : List RO := [o_ 85 (.mv (t_ 5)), o_ 86 (.mv (t_ 5)), o_ 87 (.bin .sub (t_ 86) (.const (.int .i64 16))), o_ 88 (.iaddrA 64 1 (t_ 3) (t_ 87)), o_ 89 (.load .none (t_ 88)), o_ 90 (.mv (t_ 6)), o_ 91 (.bin .add (t_ 89) (t_ 90)), o_ 92 (.mv (t_ 5)), o_ 93 (.bin .sub (t_ 92) (.const (.int .i64 7))), o_ 94 (.iaddrA 64 1 (t_ 3) (t_ 93)), o_ 95 (.load .none (t_ 94)), o_ 96 (.bin .add (t_ 91) (t_ 95)), o_ 97 (.mv (t_ 7)), o_ 98 (.bin .add (t_ 96) (t_ 97)), o_ 99 (.iaddrA 64 1 (t_ 3) (t_ 85)), n_ (.store 1 (t_ 99) (t_ 98))]
def f161g12 : List RO := [o_ 49 (.mv (t_ 5)), o_ 50 (.bin .add (t_ 49) (.const (.int .i64 1))), o_ 5 (.mv (t_ 50))]
def f161b13 : RCode := (.seq (.seq (.reg .false f161g8) (.cond (t_ 48) .skip (.exit 2))) (.seq (.block 3 (.seq (.reg .true f161g9) (.seq (.reg .true f161g10) (.reg .true f161g11)))) (.reg .false f161g12)))
def f161g14 : List RO := [o_ 100 (.load (.some 64) (t_ 3)), n_ (.store 64 (t_ 2) (t_ 100))]
def f161c : RCode := (.seq (.reg .false f161g0) (.seq (.reg .false f161g1) (.seq (.seq (.reg .false f161g2) (.block 0 (.loop f161b6))) (.seq (.seq (.reg .false f161g7) (.block 2 (.loop f161b13))) (.seq (.reg .false f161g14) .ret)))))
def f161r : List RRes := [(.cell (.some 64) 2)]
attribute [push_cast] f161g0 f161g1 f161g2 f161g3 f161g4 f161g5 f161g7 f161g8 f161g9 f161g10 f161g11 f161g12 f161g14
def L_ref02_words_1 (N : Nat) : Nat → Int → (Arr 64) → Option (Arr 64)
  | 0, _, _ => none
  | m3+1, a7, a8 => if? (decide (a7 < 64)) (ck .i64 (a7 - 15) (gd? (0 ≤ (a7 - 15)) (gd? ((a7 - 15) < 64) (get? a8.l ((a7 - 15)) fun x9 => bd? (F_ref02_rotr N x9 7) fun v10 => bd? (F_ref02_rotr N x9 18) fun v11 => ck .i64 (a7 - 2) (gd? (0 ≤ (a7 - 2)) (gd? ((a7 - 2) < 64) (get? a8.l ((a7 - 2)) fun x12 => bd? (F_ref02_rotr N x12 17) fun v13 => bd? (F_ref02_rotr N x12 19) fun v14 => ck .i64 (a7 - 16) (gd? (0 ≤ (a7 - 16)) (gd? ((a7 - 16) < 64) (get? a8.l ((a7 - 16)) fun x15 => ck .i64 (a7 - 7) (gd? (0 ≤ (a7 - 7)) (gd? ((a7 - 7) < 64) (get? a8.l ((a7 - 7)) fun x16 => gd? (0 ≤ a7) (gd? (a7 < 64) (ck .i64 (a7 + 1) (L_ref02_words_1 N m3 (a7 + 1) (a8.set a7.toNat (IntKind.wrap .u32 ((IntKind.wrap .u32 ((IntKind.wrap .u32 (x15 + (bits .xor .u32 (bits .xor .u32 v10 v11) (x9 / 2 ^ (3 : Int).toNat)))) + x16)) + (bits .xor .u32 (bits .xor .u32 v13 v14) (x12 / 2 ^ (10 : Int).toNat))))))))))))))))))))) (some (a8))
def I_ref02_words_1 (N : Nat) (r : (Arr 64)) (n : Nat) (s : AState) : Prop := ∃ (a7 : Int) (a8 : (Arr 64)), L_ref02_words_1 N n a7 a8 = some r ∧ s = ⟨envL [(2, .eptr (.O 0) 1 0 0), (3, .eptr (.O 1) 1 0 0), (5, .D (.I .i64 a7))], ownL [], ownL [some (.row true 1 ((Arr.zero 64).l.map (rI .u32))), some (.row true 1 (a8.l.map (rI .u32)))], 2⟩
def L_ref02_words_0 (N : Nat) (p0 : (List Int)) : Nat → Int → (Arr 64) → Option (Arr 64)
  | 0, _, _ => none
  | m1+1, a1, a2 => if? (decide (a1 < 16)) (ck .i64 (4 * a1) (get? p0 ((4 * a1)) fun x3 => ck .i64 ((4 * a1) + 1) (get? p0 (((4 * a1) + 1)) fun x4 => ck .i64 ((4 * a1) + 2) (get? p0 (((4 * a1) + 2)) fun x5 => ck .i64 ((4 * a1) + 3) (get? p0 (((4 * a1) + 3)) fun x6 => gd? (0 ≤ a1) (gd? (a1 < 64) (ck .i64 (a1 + 1) (L_ref02_words_0 N p0 m1 (a1 + 1) (a2.set a1.toNat (bits .or .u32 (bits .or .u32 (bits .or .u32 (IntKind.wrap .u32 ((IntKind.wrap .u32 (x3)) * 2 ^ (24 : Int).toNat)) (IntKind.wrap .u32 ((IntKind.wrap .u32 (x4)) * 2 ^ (16 : Int).toNat))) (IntKind.wrap .u32 ((IntKind.wrap .u32 (x5)) * 2 ^ (8 : Int).toNat))) (IntKind.wrap .u32 (x6)))))))))))) (L_ref02_words_1 N N 16 a2)
def I_ref02_words_0 (N : Nat) (p0 : (List Int)) (r : (Arr 64)) (n : Nat) (s : AState) : Prop := ∃ (a1 : Int) (a2 : (Arr 64)), L_ref02_words_0 N p0 n a1 a2 = some r ∧ s = ⟨envL [(0, .D (.L (p0.map (rI .u8)))), (2, .eptr (.O 0) 1 0 0), (3, .eptr (.O 1) 1 0 0), (4, .D (.I .i64 a1))], ownL [], ownL [some (.row true 1 ((Arr.zero 64).l.map (rI .u32))), some (.row true 1 (a2.l.map (rI .u32)))], 2⟩
def F_ref02_words (N : Nat) (p0 : (List Int)) : Option (Arr 64) := L_ref02_words_0 N p0 N 0 (Arr.zero 64)
theorem c_ref02_words (N : Nat) (p0 : (List Int)) (r : (Arr 64)) (h : F_ref02_words N p0 = some r) : ACall Tryd.prog 161 [.D (.L (p0.map (rI .u8)))] [] (.agg (r.l.map (aI .u32))) [] [] := by
  refine ACall.of_bodyW [] (fn := Tryd.f161) (rc := f161c) (rs := f161r) Tryd.func161 rfl rfl (by kernel_rfl) (by kernel_rfl) (by kernel_rfl) (by rw [Tryd.ntmps161]; simp) ?_
  unfold F_ref02_words at h
  unfold f161c f161r
  rw [entry_eq _ _]
  simp (disch := first | assumption | (simp; done) | omega | (simp; omega)) only [push_cast, seval]
  refine loop_of (I_ref02_words_0 N p0 _) N [0, 2, 3, 4] [0, 1] (by decide) ⟨0, (Arr.zero 64), h, ?_⟩ ?_
  · rw [wk_mk]
    simp (disch := first | assumption | (simp; done) | omega | (simp; omega)) only [push_cast, seval] <;> rfl
  rintro n s ⟨a1, a2, h, rfl⟩
  rcases n with _ | m1
  · exact absurd h (by simp [L_ref02_words_0])
  rw [L_ref02_words_0] at h
  unfold f161b6
  rcases F_if h with ⟨h851, h⟩ | ⟨h851, h⟩
  · obtain ⟨h852, h⟩ := F_ck h
    try simp (disch := first | assumption | (simp; done) | omega | (simp; omega)) only [push_cast, seval] at h852
    obtain ⟨x3, h853, h854, h⟩ := F_get h
    have h856 := get_lt h853 h854
    have h855 := map_get (rI .u8) h854
    try simp (disch := first | assumption | (simp; done) | omega | (simp; omega)) only [push_cast, seval] at h855
    try simp (disch := first | assumption | (simp; done) | omega | (simp; omega)) only [push_cast, seval] at h853
    try simp (disch := first | assumption | (simp; done) | omega | (simp; omega)) only [push_cast, seval] at h856
    obtain ⟨h857, h⟩ := F_ck h
    try simp (disch := first | assumption | (simp; done) | omega | (simp; omega)) only [push_cast, seval] at h857
    obtain ⟨x4, h858, h859, h⟩ := F_get h
    have h861 := get_lt h858 h859
    have h860 := map_get (rI .u8) h859
    try simp (disch := first | assumption | (simp; done) | omega | (simp; omega)) only [push_cast, seval] at h860
    try simp (disch := first | assumption | (simp; done) | omega | (simp; omega)) only [push_cast, seval] at h858
    try simp (disch := first | assumption | (simp; done) | omega | (simp; omega)) only [push_cast, seval] at h861
    obtain ⟨h862, h⟩ := F_ck h
    try simp (disch := first | assumption | (simp; done) | omega | (simp; omega)) only [push_cast, seval] at h862
    obtain ⟨x5, h863, h864, h⟩ := F_get h
    have h866 := get_lt h863 h864
    have h865 := map_get (rI .u8) h864
    try simp (disch := first | assumption | (simp; done) | omega | (simp; omega)) only [push_cast, seval] at h865
    try simp (disch := first | assumption | (simp; done) | omega | (simp; omega)) only [push_cast, seval] at h863
    try simp (disch := first | assumption | (simp; done) | omega | (simp; omega)) only [push_cast, seval] at h866
    obtain ⟨h867, h⟩ := F_ck h
    try simp (disch := first | assumption | (simp; done) | omega | (simp; omega)) only [push_cast, seval] at h867
    obtain ⟨x6, h868, h869, h⟩ := F_get h
    have h871 := get_lt h868 h869
    have h870 := map_get (rI .u8) h869
    try simp (disch := first | assumption | (simp; done) | omega | (simp; omega)) only [push_cast, seval] at h870
    try simp (disch := first | assumption | (simp; done) | omega | (simp; omega)) only [push_cast, seval] at h868
    try simp (disch := first | assumption | (simp; done) | omega | (simp; omega)) only [push_cast, seval] at h871
    obtain ⟨h872, h⟩ := F_gd h
    obtain ⟨h873, h⟩ := F_gd h
    have h874 := arr_get (rI .u32) a2 (i := a1.toNat) (by omega)
    try simp (disch := first | assumption | (simp; done) | omega | (simp; omega)) only [push_cast, seval] at h874
    obtain ⟨h875, h⟩ := F_ck h
    try simp (disch := first | assumption | (simp; done) | omega | (simp; omega)) only [push_cast, seval] at h875
    simp (disch := first | assumption | (simp; done) | omega | (simp; omega)) only [push_cast, seval, h851, h852, h853, h855, h856, h857, h858, h860, h861, h862, h863, h865, h866, h867, h868, h870, h871, h872, h873, h874, h875]
    refine lpK_of m1 [0, 2, 3, 4] [0, 1] (by omega) (by decide) ⟨(a1 + 1), (a2.set a1.toNat (bits .or .u32 (bits .or .u32 (bits .or .u32 (IntKind.wrap .u32 ((IntKind.wrap .u32 (x3)) * 2 ^ (24 : Int).toNat)) (IntKind.wrap .u32 ((IntKind.wrap .u32 (x4)) * 2 ^ (16 : Int).toNat))) (IntKind.wrap .u32 ((IntKind.wrap .u32 (x5)) * 2 ^ (8 : Int).toNat))) (IntKind.wrap .u32 (x6)))), (by first | exact h | simpa only [*] using h), ?_⟩
    rw [wk_mk]
    simp (disch := first | assumption | (simp; done) | omega | (simp; omega)) only [push_cast, seval, h851, h852, h853, h855, h856, h857, h858, h860, h861, h862, h863, h865, h866, h867, h868, h870, h871, h872, h873, h874, h875] <;> rfl
  simp (disch := first | assumption | (simp; done) | omega | (simp; omega)) only [push_cast, seval, h851]
  refine loop_of (I_ref02_words_1 N _) N [2, 3, 5] [0, 1] (by decide) ⟨16, a2, h, ?_⟩ ?_
  · rw [wk_mk]
    simp (disch := first | assumption | (simp; done) | omega | (simp; omega)) only [push_cast, seval, h851] <;> rfl
  rintro n s ⟨a7, a8, h, rfl⟩
  rcases n with _ | m3
  · exact absurd h (by simp [L_ref02_words_1])
  rw [L_ref02_words_1] at h
  unfold f161b13
  rcases F_if h with ⟨h876, h⟩ | ⟨h876, h⟩
  rotate_left
  · obtain rfl := Option.some.inj h
    simp (disch := first | assumption | (simp; done) | omega | (simp; omega)) only [push_cast, seval, h851, h876]
    refine e_ret (.inr rfl) ?_
    simp (disch := first | assumption | (simp; done) | omega | (simp; omega)) only [push_cast, seval, aret, aresults, aresult, h851, h876]
    refine ⟨_, rfl, ?_⟩
    first | (simp (disch := first | assumption | (simp; done) | omega | (simp; omega)) only [push_cast, seval, h851, h876] <;> rfl) | rfl
  obtain ⟨h877, h⟩ := F_ck h
  try simp (disch := first | assumption | (simp; done) | omega | (simp; omega)) only [push_cast, seval] at h877
  obtain ⟨h878, h⟩ := F_gd h
  try simp (disch := first | assumption | (simp; done) | omega | (simp; omega)) only [push_cast, seval] at h878
  obtain ⟨h879, h⟩ := F_gd h
  try simp (disch := first | assumption | (simp; done) | omega | (simp; omega)) only [push_cast, seval] at h879
  obtain ⟨x9, h880, h881, h⟩ := F_get h
  have h883 := get_lt h880 h881
  have h882 := map_getG (rI .u32) h881
  try simp (disch := first | assumption | (simp; done) | omega | (simp; omega)) only [push_cast, seval] at h882
  try simp (disch := first | assumption | (simp; done) | omega | (simp; omega)) only [push_cast, seval] at h880
  try simp (disch := first | assumption | (simp; done) | omega | (simp; omega)) only [push_cast, seval] at h883
  obtain ⟨v10, h884, h⟩ := F_bd h
  simp (disch := first | assumption | (simp; done) | omega | (simp; omega)) only [push_cast, seval, h851, h876, h877, h878, h879, h880, h882, h883]
  refine call_flat (by rfl) (c_ref02_rotr N _ _ _ h884) ?_ rfl ?_
  · simp (disch := first | assumption | (simp; done) | omega | (simp; omega)) only [push_cast, seval, h851, h876, h877, h878, h879, h880, h882, h883] <;> rfl
  obtain ⟨v11, h885, h⟩ := F_bd h
  simp (disch := first | assumption | (simp; done) | omega | (simp; omega)) only [push_cast, seval, h851, h876, h877, h878, h879, h880, h882, h883]
  refine call_flat (by rfl) (c_ref02_rotr N _ _ _ h885) ?_ rfl ?_
  · simp (disch := first | assumption | (simp; done) | omega | (simp; omega)) only [push_cast, seval, h851, h876, h877, h878, h879, h880, h882, h883] <;> rfl
  obtain ⟨h886, h⟩ := F_ck h
  try simp (disch := first | assumption | (simp; done) | omega | (simp; omega)) only [push_cast, seval] at h886
  obtain ⟨h887, h⟩ := F_gd h
  try simp (disch := first | assumption | (simp; done) | omega | (simp; omega)) only [push_cast, seval] at h887
  obtain ⟨h888, h⟩ := F_gd h
  try simp (disch := first | assumption | (simp; done) | omega | (simp; omega)) only [push_cast, seval] at h888
  obtain ⟨x12, h889, h890, h⟩ := F_get h
  have h892 := get_lt h889 h890
  have h891 := map_getG (rI .u32) h890
  try simp (disch := first | assumption | (simp; done) | omega | (simp; omega)) only [push_cast, seval] at h891
  try simp (disch := first | assumption | (simp; done) | omega | (simp; omega)) only [push_cast, seval] at h889
  try simp (disch := first | assumption | (simp; done) | omega | (simp; omega)) only [push_cast, seval] at h892
  obtain ⟨v13, h893, h⟩ := F_bd h
  simp (disch := first | assumption | (simp; done) | omega | (simp; omega)) only [push_cast, seval, h851, h876, h877, h878, h879, h880, h882, h883, h886, h887, h888, h889, h891, h892]
  refine call_flat (by rfl) (c_ref02_rotr N _ _ _ h893) ?_ rfl ?_
  · simp (disch := first | assumption | (simp; done) | omega | (simp; omega)) only [push_cast, seval, h851, h876, h877, h878, h879, h880, h882, h883, h886, h887, h888, h889, h891, h892] <;> rfl
  obtain ⟨v14, h894, h⟩ := F_bd h
  simp (disch := first | assumption | (simp; done) | omega | (simp; omega)) only [push_cast, seval, h851, h876, h877, h878, h879, h880, h882, h883, h886, h887, h888, h889, h891, h892]
  refine call_flat (by rfl) (c_ref02_rotr N _ _ _ h894) ?_ rfl ?_
  · simp (disch := first | assumption | (simp; done) | omega | (simp; omega)) only [push_cast, seval, h851, h876, h877, h878, h879, h880, h882, h883, h886, h887, h888, h889, h891, h892] <;> rfl
  obtain ⟨h895, h⟩ := F_ck h
  try simp (disch := first | assumption | (simp; done) | omega | (simp; omega)) only [push_cast, seval] at h895
  obtain ⟨h896, h⟩ := F_gd h
  try simp (disch := first | assumption | (simp; done) | omega | (simp; omega)) only [push_cast, seval] at h896
  obtain ⟨h897, h⟩ := F_gd h
  try simp (disch := first | assumption | (simp; done) | omega | (simp; omega)) only [push_cast, seval] at h897
  obtain ⟨x15, h898, h899, h⟩ := F_get h
  have h901 := get_lt h898 h899
  have h900 := map_getG (rI .u32) h899
  try simp (disch := first | assumption | (simp; done) | omega | (simp; omega)) only [push_cast, seval] at h900
  try simp (disch := first | assumption | (simp; done) | omega | (simp; omega)) only [push_cast, seval] at h898
  try simp (disch := first | assumption | (simp; done) | omega | (simp; omega)) only [push_cast, seval] at h901
  obtain ⟨h902, h⟩ := F_ck h
  try simp (disch := first | assumption | (simp; done) | omega | (simp; omega)) only [push_cast, seval] at h902
  obtain ⟨h903, h⟩ := F_gd h
  try simp (disch := first | assumption | (simp; done) | omega | (simp; omega)) only [push_cast, seval] at h903
  obtain ⟨h904, h⟩ := F_gd h
  try simp (disch := first | assumption | (simp; done) | omega | (simp; omega)) only [push_cast, seval] at h904
  obtain ⟨x16, h905, h906, h⟩ := F_get h
  have h908 := get_lt h905 h906
  have h907 := map_getG (rI .u32) h906
  try simp (disch := first | assumption | (simp; done) | omega | (simp; omega)) only [push_cast, seval] at h907
  try simp (disch := first | assumption | (simp; done) | omega | (simp; omega)) only [push_cast, seval] at h905
  try simp (disch := first | assumption | (simp; done) | omega | (simp; omega)) only [push_cast, seval] at h908
  obtain ⟨h909, h⟩ := F_gd h
  obtain ⟨h910, h⟩ := F_gd h
  have h911 := arr_get (rI .u32) a8 (i := a7.toNat) (by omega)
  try simp (disch := first | assumption | (simp; done) | omega | (simp; omega)) only [push_cast, seval] at h911
  obtain ⟨h912, h⟩ := F_ck h
  try simp (disch := first | assumption | (simp; done) | omega | (simp; omega)) only [push_cast, seval] at h912
  simp (disch := first | assumption | (simp; done) | omega | (simp; omega)) only [push_cast, seval, h851, h876, h877, h878, h879, h880, h882, h883, h886, h887, h888, h889, h891, h892, h895, h896, h897, h898, h900, h901, h902, h903, h904, h905, h907, h908, h909, h910, h911, h912]
  refine lpK_of m3 [2, 3, 5] [0, 1] (by omega) (by decide) ⟨(a7 + 1), (a8.set a7.toNat (IntKind.wrap .u32 ((IntKind.wrap .u32 ((IntKind.wrap .u32 (x15 + (bits .xor .u32 (bits .xor .u32 v10 v11) (x9 / 2 ^ (3 : Int).toNat)))) + x16)) + (bits .xor .u32 (bits .xor .u32 v13 v14) (x12 / 2 ^ (10 : Int).toNat))))), (by first | exact h | simpa only [*] using h), ?_⟩
  rw [wk_mk]
  simp (disch := first | assumption | (simp; done) | omega | (simp; omega)) only [push_cast, seval, h851, h876, h877, h878, h879, h880, h882, h883, h886, h887, h888, h889, h891, h892, h895, h896, h897, h898, h900, h901, h902, h903, h904, h905, h907, h908, h909, h910, h911, h912] <;> rfl

def f145g0 : List RO := [o_ 2 (.newR ((Arr.zero 32).l.map (aI .u8)))]
def f145g1 : List RO := [o_ 14 (.build [(.D (.I .u32 0)), (.D (.I .u32 0)), (.D (.I .u32 0)), (.D (.I .u32 0)), (.D (.I .u32 0)), (.D (.I .u32 0)), (.D (.I .u32 0)), (.D (.I .u32 0))] [(0, (1, (.const (.int .u32 1779033703)))), (1, (1, (.const (.int .u32 3144134277)))), (2, (1, (.const (.int .u32 1013904242)))), (3, (1, (.const (.int .u32 2773480762)))), (4, (1, (.const (.int .u32 1359893119)))), (5, (1, (.const (.int .u32 2600822924)))), (6, (1, (.const (.int .u32 528734635)))), (7, (1, (.const (.int .u32 1541459225))))]), o_ 3 (.newR ((Arr.zero 8).l.map (aI .u32))), n_ (.store 8 (t_ 3) (t_ 14))]
def f145g2 : List RO := [o_ 15 (.mv (t_ 0)), o_ 16 (.call (.func 160) [(t_ 15)]), o_ 4 (.mv (t_ 16))]
def f145g3 : List RO := [o_ 5 (.mv (.const (.int .i64 0)))]
def f145g4 : List RO := [o_ 17 (.mv (t_ 5)), o_ 18 (.mv (t_ 4)), o_ 19 (.len .false (t_ 18)), o_ 20 (.bin .lss (t_ 17) (t_ 19))]
def f145g5 : List RO := [o_ 23 (.mv (t_ 4)), o_ 24 (.mv (t_ 5)), o_ 25 (.mv (t_ 5)), o_ 26 (.bin .add (t_ 25) (.const (.int .i64 64))), o_ 27 (.sll 1 (t_ 23) (.some (t_ 24)) (.some (t_ 26)) .none), o_ 28 (.call (.func 161) [(t_ 27)]), o_ 6 (.newR ((Arr.zero 64).l.map (aI .u32))), n_ (.store 64 (t_ 6) (t_ 28))]
def f145g6 : List RO := [o_ 29 (.load (.some 8) (t_ 3)), o_ 7 (.newR ((Arr.zero 8).l.map (aI .u32))), n_ (.store 8 (t_ 7) (t_ 29))]
def f145g7 : List RO := [o_ 8 (.mv (.const (.int .i64 0)))]
def f145g8 : List RO := [o_ 30 (.mv (t_ 8)), o_ 31 (.bin .lss (t_ 30) (.const (.int .i64 64)))]
def f145g9 : List RO := [o_ 34 (.iaddrA 8 1 (t_ 7) (.const (.int .i64 7))), o_ 35 (.load .none (t_ 34)), o_ 36 (.iaddrA 8 1 (t_ 7) (.const (.int .i64 4))), o_ 37 (.load .none (t_ 36)), o_ 38 (.call (.func 162) [(t_ 37), (.const (.int .i64 6))]), o_ 39 (.iaddrA 8 1 (t_ 7) (.const (.int .i64 4))), o_ 40 (.load .none (t_ 39)), o_ 41 (.call (.func 162) [(t_ 40), (.const (.int .i64 11))]), o_ 42 (.bin .xor (t_ 38) (t_ 41)), o_ 43 (.iaddrA 8 1 (t_ 7) (.const (.int .i64 4))), o_ 44 (.load .none (t_ 43)), o_ 45 (.call (.func 162) [(t_ 44), (.const (.int .i64 25))]), o_ 46 (.bin .xor (t_ 42) (t_ 45)), o_ 47 (.bin .add (t_ 35) (t_ 46)), o_ 48 (.iaddrA 8 1 (t_ 7) (.const (.int .i64 4))), o_ 49 (.load .none (t_ 48)), o_ 50 (.iaddrA 8 1 (t_ 7) (.const (.int .i64 5))), o_ 51 (.load .none (t_ 50)), o_ 52 (.bin .and (t_ 49) (t_ 51)), o_ 53 (.iaddrA 8 1 (t_ 7) (.const (.int .i64 4))), o_ 54 (.load .none (t_ 53)), o_ 55 (.bin .xor (t_ 54) (.const (.int .u32 4294967295))), o_ 56 (.iaddrA 8 1 (t_ 7) (.const (.int .i64 6))), o_ 57 (.load .none (t_ 56)), o_ 58 (.bin .and (t_ 55) (t_ 57)), o_ 59 (.bin .xor (t_ 52) (t_ 58)), o_ 60 (.bin .add (t_ 47) (t_ 59)), o_ 61 (.mv (t_ 8)), o_ 62 (.iaddrA 64 1 (.global 4) (t_ 61)), o_ 63 (.load .none (t_ 62)), o_ 64 (.bin .add (t_ 60) (t_ 63)), o_ 65 (.mv (t_ 8)), o_ 66 (.iaddrA 64 1 (t_ 6) (t_ 65)), o_ 67 (.load .none (t_ 66)), o_ 68 (.bin .add (t_ 64) (t_ 67)), o_ 9 (.mv (t_ 68))]
def f145g10 : List RO := [o_ 69 (.iaddrA 8 1 (t_ 7) (.const (.int .i64 0))), o_ 70 (.load .none (t_ 69)), o_ 71 (.call (.func 162) [(t_ 70), (.const (.int .i64 2))]), o_ 72 (.iaddrA 8 1 (t_ 7) (.const (.int .i64 0))), o_ 73 (.load .none (t_ 72)), o_ 74 (.call (.func 162) [(t_ 73), (.const (.int .i64 13))]), o_ 75 (.bin .xor (t_ 71) (t_ 74)), o_ 76 (.iaddrA 8 1 (t_ 7) (.const (.int .i64 0))), o_ 77 (.load .none (t_ 76)), o_ 78 (.call (.func 162) [(t_ 77), (.const (.int .i64 22))]), o_ 79 (.bin .xor (t_ 75) (t_ 78)), o_ 80 (.iaddrA 8 1 (t_ 7) (.const (.int .i64 0))), o_ 81 (.load .none (t_ 80)), o_ 82 (.iaddrA 8 1 (t_ 7) (.const (.int .i64 1))), o_ 83 (.load .none (t_ 82)), o_ 84 (.bin .and (t_ 81) (t_ 83)), o_ 85 (.iaddrA 8 1 (t_ 7) (.const (.int .i64 0))), o_ 86 (.load .none (t_ 85)), o_ 87 (.iaddrA 8 1 (t_ 7) (.const (.int .i64 2))), o_ 88 (.load .none (t_ 87)), o_ 89 (.bin .and (t_ 86) (t_ 88)), o_ 90 (.bin .xor (t_ 84) (t_ 89)), o_ 91 (.iaddrA 8 1 (t_ 7) (.const (.int .i64 1))), o_ 92 (.load .none (t_ 91)), o_ 93 (.iaddrA 8 1 (t_ 7) (.const (.int .i64 2))), o_ 94 (.load .none (t_ 93)), o_ 95 (.bin .and (t_ 92) (t_ 94)), o_ 96 (.bin .xor (t_ 90) (t_ 95)), o_ 97 (.bin .add (t_ 79) (t_ 96)), o_ 10 (.mv (t_ 97))]
def f145g11 : List RO := [o_ 98 (.mv (t_ 9)), o_ 99 (.mv (t_ 10)), o_ 100 (.bin .add (t_ 98) (t_ 99)), o_ 101 (.iaddrA 8 1 (t_ 7) (.const (.int .i64 0))), o_ 102 (.load .none (t_ 101)), o_ 103 (.iaddrA 8 1 (t_ 7) (.const (.int .i64 1))), o_ 104 (.load .none (t_ 103)), o_ 105 (.iaddrA 8 1 (t_ 7) (.const (.int .i64 2))), o_ 106 (.load .none (t_ 105)), o_ 107 (.iaddrA 8 1 (t_ 7) (.const (.int .i64 3))), o_ 108 (.load .none (t_ 107)), o_ 109 (.mv (t_ 9)), o_ 110 (.bin .add (t_ 108) (t_ 109)), o_ 111 (.iaddrA 8 1 (t_ 7) (.const (.int .i64 4))), o_ 112 (.load .none (t_ 111)), o_ 113 (.iaddrA 8 1 (t_ 7) (.const (.int .i64 5))), o_ 114 (.load .none (t_ 113)), o_ 115 (.iaddrA 8 1 (t_ 7) (.const (.int .i64 6))), o_ 116 (.load .none (t_ 115)), o_ 117 (.build [(.D (.I .u32 0)), (.D (.I .u32 0)), (.D (.I .u32 0)), (.D (.I .u32 0)), (.D (.I .u32 0)), (.D (.I .u32 0)), (.D (.I .u32 0)), (.D (.I .u32 0))] [(0, (1, (t_ 100))), (1, (1, (t_ 102))), (2, (1, (t_ 104))), (3, (1, (t_ 106))), (4, (1, (t_ 110))), (5, (1, (t_ 112))), (6, (1, (t_ 114))), (7, (1, (t_ 116)))]), n_ (.store 8 (t_ 7) (t_ 117))]
def f145g12 : List RO := [o_ 32 (.mv (t_ 8)), o_ 33 (.bin .add (t_ 32) (.const (.int .i64 1))), o_ 8 (.mv (t_ 33))]
def f145b13 : RCode := (.seq (.seq (.reg .false f145g8) (.cond (t_ 31) .skip (.exit 2))) (.seq (.block 3 (.seq (.reg .true f145g9) (.seq (.reg .true f145g10) (.reg .false f145g11)))) (.reg .false f145g12)))
def f145g14 : List RO := [o_ 11 (.mv (.const (.int .i64 0)))]
def f145g15 : List RO := [o_ 118 (.mv (t_ 11)), o_ 119 (.bin .lss (t_ 118) (.const (.int .i64 8)))]
def f145g16 : List RO := [o_ 122 (.mv (t_ 11)), o_ 123 (.mv (t_ 11)), o_ 124 (.iaddrA 8 1 (t_ 3) (t_ 123)), o_ 125 (.load .none (t_ 124)), o_ 126 (.mv (t_ 11)), o_ 127 (.iaddrA 8 1 (t_ 7) (t_ 126)), o_ 128 (.load .none (t_ 127)), o_ 129 (.bin .add (t_ 125) (t_ 128)), o_ 130 (.iaddrA 8 1 (t_ 3) (t_ 122)), n_ (.store 1 (t_ 130) (t_ 129))]
def f145g17 : List RO := [o_ 120 (.mv (t_ 11)), o_ 121 (.bin .add (t_ 120) (.const (.int .i64 1))), o_ 11 (.mv (t_ 121))]
def f145b18 : RCode := (.seq (.seq (.reg .false f145g15) (.cond (t_ 119) .skip (.exit 4))) (.seq (.block 5 (.reg .true f145g16)) (.reg .false f145g17)))
def f145g19 : List RO := [o_ 21 (.mv (t_ 5)), o_ 22 (.bin .add (t_ 21) (.const (.int .i64 64))), o_ 5 (.mv (t_ 22))]
def f145b20 : RCode := (.seq (.seq (.reg .false f145g4) (.cond (t_ 20) .skip (.exit 0))) (.seq (.block 1 (.seq (.reg .false f145g5) (.seq (.reg .false f145g6) (.seq (.seq (.reg .false f145g7) (.block 2 (.loop f145b13))) (.seq (.reg .false f145g14) (.block 4 (.loop f145b18))))))) (.reg .false f145g19)))
def f145g21 : List RO := [o_ 12 (.newR ((Arr.zero 32).l.map (aI .u8)))]
def f145g22 : List RO := [o_ 13 (.mv (.const (.int .i64 0)))]
def f145g23 : List RO := [o_ 131 (.mv (t_ 13)), o_ 132 (.bin .lss (t_ 131) (.const (.int .i64 32)))]
def f145g24 : List RO := [o_ 135 (.mv (t_ 13)), o_ 136 (.mv (t_ 13)), o_ 137 (.bin .quo (t_ 136) (.const (.int .i64 4))), o_ 138 (.iaddrA 8 1 (t_ 3) (t_ 137)), o_ 139 (.load .none (t_ 138)), o_ 140 (.mv (t_ 13)), o_ 141 (.bin .rem (t_ 140) (.const (.int .i64 4))), o_ 142 (.bin .mul (.const (.int .i64 8)) (t_ 141)), o_ 143 (.bin .sub (.const (.int .i64 24)) (t_ 142)), o_ 144 (.bin .shr (t_ 139) (t_ 143)), o_ 145 (.cvI .u8 (t_ 144)), o_ 146 (.iaddrA 32 1 (t_ 12) (t_ 135)), n_ (.store 1 (t_ 146) (t_ 145))]
def f145g25 : List RO := [o_ 133 (.mv (t_ 13)), o_ 134 (.bin .add (t_ 133) (.const (.int .i64 1))), o_ 13 (.mv (t_ 134))]
def f145b26 : RCode := (.seq (.seq (.reg .false f145g23) (.cond (t_ 132) .skip (.exit 6))) (.seq (.block 7 (.reg .false f145g24)) (.reg .false f145g25)))
def f145g27 : List RO := [o_ 147 (.load (.some 32) (t_ 12)), n_ (.store 32 (t_ 2) (t_ 147))]
def f145c : RCode := (.seq (.reg .false f145g0) (.seq (.reg .false f145g1) (.seq (.reg .false f145g2) (.seq (.seq (.reg .false f145g3) (.block 0 (.loop f145b20))) (.seq (.reg .false f145g21) (.seq (.seq (.reg .false f145g22) (.block 6 (.loop f145b26))) (.seq (.reg .false f145g27) .ret)))))))
def f145r : List RRes := [(.cell (.some 32) 2)]
attribute [push_cast] f145g0 f145g1 f145g2 f145g3 f145g4 f145g5 f145g6 f145g7 f145g8 f145g9 f145g10 f145g11 f145g12 f145g14 f145g15 f145g16 f145g17 f145g19 f145g21 f145g22 f145g23 f145g24 f145g25 f145g27
def L_ref02_Sum_2 (N : Nat) (k0 : Int → (Arr 32) → (Arr 8) → (List Int) → Option (Arr 32)) (a2 : Int) (a3 : (Arr 32)) (a5 : (List Int)) (a8 : (Arr 8)) : Nat → Int → (Arr 8) → Option (Arr 32)
  | 0, _, _ => none
  | m4+1, a25, a26 => if? (decide (a25 < 8)) (gd? (0 ≤ a25) (gd? (a25 < 8) (get? a26.l (a25) fun x27 => get? a8.l (a25) fun x28 => ck .i64 (a25 + 1) (L_ref02_Sum_2 N k0 a2 a3 a5 a8 m4 (a25 + 1) (a26.set a25.toNat (IntKind.wrap .u32 (x27 + x28))))))) (k0 (a2 + 64) a3 a26 a5)
def I_ref02_Sum_2 (N : Nat) (k0 : Int → (Arr 32) → (Arr 8) → (List Int) → Option (Arr 32)) (a2 : Int) (a3 : (Arr 32)) (a5 : (List Int)) (a8 : (Arr 8)) (r : (Arr 32)) (n : Nat) (s : AState) : Prop := ∃ (a25 : Int) (a26 : (Arr 8)), L_ref02_Sum_2 N k0 a2 a3 a5 a8 n a25 a26 = some r ∧ s = ⟨envL [(2, .eptr (.O 0) 1 0 0), (3, .eptr (.O 1) 1 0 0), (4, .sl (.O 2) 1 0 a5.length), (5, .D (.I .i64 a2)), (7, .eptr (.O 3) 1 0 0), (11, .D (.I .i64 a25))], ownL [], ownL [some (.row true 1 (a3.l.map (rI .u8))), some (.row true 1 (a26.l.map (rI .u32))), some (.row true 1 (a5.map (rI .u8))), some (.row true 1 (a8.l.map (rI .u32)))], 4⟩
def L_ref02_Sum_1 (N : Nat) (k0 : Int → (Arr 32) → (Arr 8) → (List Int) → Option (Arr 32)) (a2 : Int) (a3 : (Arr 32)) (a4 : (Arr 8)) (a5 : (List Int)) (v6 : (Arr 64)) : Nat → Int → (Arr 8) → Option (Arr 32)
  | 0, _, _ => none
  | m2+1, a7, a8 => if? (decide (a7 < 64)) (get? a8.l (7) fun x9 => get? a8.l (4) fun x10 => bd? (F_ref02_rotr N x10 6) fun v11 => bd? (F_ref02_rotr N x10 11) fun v12 => bd? (F_ref02_rotr N x10 25) fun v13 => get? a8.l (5) fun x14 => get? a8.l (6) fun x15 => gd? (0 ≤ a7) (gd? (a7 < 64) (get? gA4.l (a7) fun x16 => get? v6.l (a7) fun x17 => get? a8.l (0) fun x18 => bd? (F_ref02_rotr N x18 2) fun v19 => bd? (F_ref02_rotr N x18 13) fun v20 => bd? (F_ref02_rotr N x18 22) fun v21 => get? a8.l (1) fun x22 => get? a8.l (2) fun x23 => get? a8.l (3) fun x24 => ck .i64 (a7 + 1) (L_ref02_Sum_1 N k0 a2 a3 a4 a5 v6 m2 (a7 + 1) (Arr.of [(IntKind.wrap .u32 ((IntKind.wrap .u32 ((IntKind.wrap .u32 ((IntKind.wrap .u32 ((IntKind.wrap .u32 (x9 + (bits .xor .u32 (bits .xor .u32 v11 v12) v13))) + (bits .xor .u32 (bits .and .u32 x10 x14) (bits .and .u32 (bits .xor .u32 x10 4294967295) x15)))) + x16)) + x17)) + (IntKind.wrap .u32 ((bits .xor .u32 (bits .xor .u32 v19 v20) v21) + (bits .xor .u32 (bits .xor .u32 (bits .and .u32 x18 x22) (bits .and .u32 x18 x23)) (bits .and .u32 x22 x23)))))), x18, x22, x23, (IntKind.wrap .u32 (x24 + (IntKind.wrap .u32 ((IntKind.wrap .u32 ((IntKind.wrap .u32 ((IntKind.wrap .u32 (x9 + (bits .xor .u32 (bits .xor .u32 v11 v12) v13))) + (bits .xor .u32 (bits .and .u32 x10 x14) (bits .and .u32 (bits .xor .u32 x10 4294967295) x15)))) + x16)) + x17)))), x10, x14, x15] rfl))))) (L_ref02_Sum_2 N k0 a2 a3 a5 a8 N 0 a4)
def I_ref02_Sum_1 (N : Nat) (k0 : Int → (Arr 32) → (Arr 8) → (List Int) → Option (Arr 32)) (a2 : Int) (a3 : (Arr 32)) (a4 : (Arr 8)) (a5 : (List Int)) (v6 : (Arr 64)) (r : (Arr 32)) (n : Nat) (s : AState) : Prop := ∃ (a7 : Int) (a8 : (Arr 8)), L_ref02_Sum_1 N k0 a2 a3 a4 a5 v6 n a7 a8 = some r ∧ s = ⟨envL [(2, .eptr (.O 0) 1 0 0), (3, .eptr (.O 1) 1 0 0), (4, .sl (.O 2) 1 0 a5.length), (5, .D (.I .i64 a2)), (6, .eptr (.O 3) 1 0 0), (7, .eptr (.O 4) 1 0 0), (8, .D (.I .i64 a7))], ownL [], ownL [some (.row true 1 (a3.l.map (rI .u8))), some (.row true 1 (a4.l.map (rI .u32))), some (.row true 1 (a5.map (rI .u8))), some (.row true 1 (v6.l.map (rI .u32))), some (.row true 1 (a8.l.map (rI .u32)))], 5⟩
def L_ref02_Sum_3 (N : Nat) (a4 : (Arr 8)) : Nat → Int → (Arr 32) → Option (Arr 32)
  | 0, _, _ => none
  | m3+1, a29, a30 => if? (decide (a29 < 32)) (ck .i64 (Int.tdiv a29 4) (gd? (0 ≤ (Int.tdiv a29 4)) (gd? ((Int.tdiv a29 4) < 8) (get? a4.l ((Int.tdiv a29 4)) fun x31 => ck .i64 (8 * (Int.tmod a29 4)) (ck .i64 (24 - (8 * (Int.tmod a29 4))) (gd? (0 ≤ (24 - (8 * (Int.tmod a29 4)))) (gd? ((24 - (8 * (Int.tmod a29 4))) ≤ (IntKind.bits .u32 : Int)) (gd? (0 ≤ a29) (gd? (a29 < 32) (ck .i64 (a29 + 1) (L_ref02_Sum_3 N a4 m3 (a29 + 1) (a30.set a29.toNat (IntKind.wrap .u8 ((x31 / 2 ^ (24 - (8 * (Int.tmod a29 4))).toNat))))))))))))))) (some (a30))
def I_ref02_Sum_3 (N : Nat) (a3 : (Arr 32)) (a4 : (Arr 8)) (r : (Arr 32)) (n : Nat) (s : AState) : Prop := ∃ (a29 : Int) (a30 : (Arr 32)), L_ref02_Sum_3 N a4 n a29 a30 = some r ∧ s = ⟨envL [(2, .eptr (.O 0) 1 0 0), (3, .eptr (.O 1) 1 0 0), (12, .eptr (.O 2) 1 0 0), (13, .D (.I .i64 a29))], ownL [], ownL [some (.row true 1 (a3.l.map (rI .u8))), some (.row true 1 (a4.l.map (rI .u32))), some (.row true 1 (a30.l.map (rI .u8)))], 3⟩
def L_ref02_Sum_0 (N : Nat) : Nat → Int → (Arr 32) → (Arr 8) → (List Int) → Option (Arr 32)
  | 0, _, _, _, _ => none
  | m1+1, a2, a3, a4, a5 => if? (decide (a2 < (a5.length : Int))) (ck .i64 (a2 + 64) (gd? (0 ≤ a2) (gd? (0 ≤ (a2 + 64)) (gd? (a2.toNat ≤ (a2 + 64).toNat) (gd? ((a2 + 64).toNat ≤ a5.length) (bd? (F_ref02_words N ((a5.drop a2.toNat).take ((a2 + 64).toNat - a2.toNat))) fun v6 => L_ref02_Sum_1 N (L_ref02_Sum_0 N m1) a2 a3 a4 a5 v6 N 0 a4)))))) (L_ref02_Sum_3 N a4 N 0 (Arr.zero 32))
def I_ref02_Sum_0 (N : Nat) (r : (Arr 32)) (n : Nat) (s : AState) : Prop := ∃ (a2 : Int) (a3 : (Arr 32)) (a4 : (Arr 8)) (a5 : (List Int)), L_ref02_Sum_0 N n a2 a3 a4 a5 = some r ∧ s = ⟨envL [(2, .eptr (.O 0) 1 0 0), (3, .eptr (.O 1) 1 0 0), (4, .sl (.O 2) 1 0 a5.length), (5, .D (.I .i64 a2))], ownL [], ownL [some (.row true 1 (a3.l.map (rI .u8))), some (.row true 1 (a4.l.map (rI .u32))), some (.row true 1 (a5.map (rI .u8)))], 3⟩
def F_ref02_Sum (N : Nat) (p0 : (List Int)) : Option (Arr 32) := bd? (F_ref02_padded N p0) fun v1 => L_ref02_Sum_0 N N 0 (Arr.zero 32) (Arr.of [1779033703, 3144134277, 1013904242, 2773480762, 1359893119, 2600822924, 528734635, 1541459225] rfl) v1
theorem c_ref02_Sum (N : Nat) (p0 : (List Int)) (r : (Arr 32)) (h : F_ref02_Sum N p0 = some r) : ACall Tryd.prog 145 [.D (.L (p0.map (rI .u8)))] [] (.agg (r.l.map (aI .u8))) [] [] := by
  refine ACall.of_bodyW [] (fn := Tryd.f145) (rc := f145c) (rs := f145r) Tryd.func145 rfl rfl (by kernel_rfl) (by kernel_rfl) (by kernel_rfl) (by rw [Tryd.ntmps145]; simp) ?_
  unfold F_ref02_Sum at h
  unfold f145c f145r
  rw [entry_eq _ _]
  obtain ⟨v1, h913, h⟩ := F_bd h
  simp (disch := first | assumption | (simp; done) | omega | (simp; omega)) only [push_cast, seval]
  refine call_new (by rfl) (c_ref02_padded N _ _ h913) ?_ rfl ?_
  · simp (disch := first | assumption | (simp; done) | omega | (simp; omega)) only [push_cast, seval] <;> rfl
  simp (disch := first | assumption | (simp; done) | omega | (simp; omega)) only [push_cast, seval]
  refine loop_of (I_ref02_Sum_0 N _) N [2, 3, 4, 5] [0, 1, 2] (by decide) ⟨0, (Arr.zero 32), (Arr.of [1779033703, 3144134277, 1013904242, 2773480762, 1359893119, 2600822924, 528734635, 1541459225] rfl), v1, h, ?_⟩ ?_
  · rw [wk_mk]
    simp (disch := first | assumption | (simp; done) | omega | (simp; omega)) only [push_cast, seval] <;> rfl
  rintro n s ⟨a2, a3, a4, a5, h, rfl⟩
  rcases n with _ | m1
  · exact absurd h (by simp [L_ref02_Sum_0])
  rw [L_ref02_Sum_0] at h
  unfold f145b20
  rcases F_if h with ⟨h914, h⟩ | ⟨h914, h⟩
  rotate_left
  · simp (disch := first | assumption | (simp; done) | omega | (simp; omega)) only [push_cast, seval, h914]
    refine loop_of (I_ref02_Sum_3 N a3 a4 _) N [2, 3, 12, 13] [0, 1, 3] (by decide) ⟨0, (Arr.zero 32), h, ?_⟩ ?_
    · rw [wk_mk]
      simp (disch := first | assumption | (simp; done) | omega | (simp; omega)) only [push_cast, seval, h914] <;> rfl
    rintro n s ⟨a29, a30, h, rfl⟩
    rcases n with _ | m3
    · exact absurd h (by simp [L_ref02_Sum_3])
    rw [L_ref02_Sum_3] at h
    unfold f145b26
    rcases F_if h with ⟨h984, h⟩ | ⟨h984, h⟩
    rotate_left
    · obtain rfl := Option.some.inj h
      simp (disch := first | assumption | (simp; done) | omega | (simp; omega)) only [push_cast, seval, h914, h984]
      refine e_ret (.inr rfl) ?_
      simp (disch := first | assumption | (simp; done) | omega | (simp; omega)) only [push_cast, seval, aret, aresults, aresult, h914, h984]
      refine ⟨_, rfl, ?_⟩
      first | (simp (disch := first | assumption | (simp; done) | omega | (simp; omega)) only [push_cast, seval, h914, h984] <;> rfl) | rfl
    obtain ⟨h985, h⟩ := F_ck h
    try simp (disch := first | assumption | (simp; done) | omega | (simp; omega)) only [push_cast, seval] at h985
    obtain ⟨h986, h⟩ := F_gd h
    try simp (disch := first | assumption | (simp; done) | omega | (simp; omega)) only [push_cast, seval] at h986
    obtain ⟨h987, h⟩ := F_gd h
    try simp (disch := first | assumption | (simp; done) | omega | (simp; omega)) only [push_cast, seval] at h987
    obtain ⟨x31, h988, h989, h⟩ := F_get h
    have h991 := get_lt h988 h989
    have h990 := map_getG (rI .u32) h989
    try simp (disch := first | assumption | (simp; done) | omega | (simp; omega)) only [push_cast, seval] at h990
    try simp (disch := first | assumption | (simp; done) | omega | (simp; omega)) only [push_cast, seval] at h988
    try simp (disch := first | assumption | (simp; done) | omega | (simp; omega)) only [push_cast, seval] at h991
    obtain ⟨h992, h⟩ := F_ck h
    try simp (disch := first | assumption | (simp; done) | omega | (simp; omega)) only [push_cast, seval] at h992
    obtain ⟨h993, h⟩ := F_ck h
    try simp (disch := first | assumption | (simp; done) | omega | (simp; omega)) only [push_cast, seval] at h993
    obtain ⟨h994, h⟩ := F_gd h
    try simp (disch := first | assumption | (simp; done) | omega | (simp; omega)) only [push_cast, seval] at h994
    obtain ⟨h995, h⟩ := F_gd h
    try simp (disch := first | assumption | (simp; done) | omega | (simp; omega)) only [push_cast, seval] at h995
    obtain ⟨h996, h⟩ := F_gd h
    obtain ⟨h997, h⟩ := F_gd h
    have h998 := arr_get (rI .u8) a30 (i := a29.toNat) (by omega)
    try simp (disch := first | assumption | (simp; done) | omega | (simp; omega)) only [push_cast, seval] at h998
    obtain ⟨h999, h⟩ := F_ck h
    try simp (disch := first | assumption | (simp; done) | omega | (simp; omega)) only [push_cast, seval] at h999
    simp (disch := first | assumption | (simp; done) | omega | (simp; omega)) only [push_cast, seval, h914, h984, h985, h986, h987, h988, h990, h991, h992, h993, h994, h995, h996, h997, h998, h999]
    refine lpK_of m3 [2, 3, 12, 13] [0, 1, 2] (by omega) (by decide) ⟨(a29 + 1), (a30.set a29.toNat (IntKind.wrap .u8 ((x31 / 2 ^ (24 - (8 * (Int.tmod a29 4))).toNat)))), (by first | exact h | simpa only [*] using h), ?_⟩
    rw [wk_mk]
    simp (disch := first | assumption | (simp; done) | omega | (simp; omega)) only [push_cast, seval, h914, h984, h985, h986, h987, h988, h990, h991, h992, h993, h994, h995, h996, h997, h998, h999] <;> rfl
  obtain ⟨h915, h⟩ := F_ck h
  try simp (disch := first | assumption | (simp; done) | omega | (simp; omega)) only [push_cast, seval] at h915
  obtain ⟨h916, h⟩ := F_gd h
  obtain ⟨h917, h⟩ := F_gd h
  try simp (disch := first | assumption | (simp; done) | omega | (simp; omega)) only [push_cast, seval] at h917
  obtain ⟨h918, h⟩ := F_gd h
  try simp (disch := first | assumption | (simp; done) | omega | (simp; omega)) only [push_cast, seval] at h918
  obtain ⟨h919, h⟩ := F_gd h
  try simp (disch := first | assumption | (simp; done) | omega | (simp; omega)) only [push_cast, seval] at h919
  obtain ⟨v6, h920, h⟩ := F_bd h
  simp (disch := first | assumption | (simp; done) | omega | (simp; omega)) only [push_cast, seval, h914, h915, h916, h917, h918, h919]
  refine call_flat (by rfl) (c_ref02_words N _ _ h920) ?_ (by simp [AV.flat, AV.flatL, flatL_aI, flatL_app, DV.flat]) ?_
  · simp (disch := first | assumption | (simp; done) | omega | (simp; omega)) only [push_cast, seval, h914, h915, h916, h917, h918, h919] <;> rfl
  simp (disch := first | assumption | (simp; done) | omega | (simp; omega)) only [push_cast, seval, h914, h915, h916, h917, h918, h919]
  refine loop_of (I_ref02_Sum_1 N (L_ref02_Sum_0 N m1) a2 a3 a4 a5 v6 _) N [2, 3, 4, 5, 6, 7, 8] [0, 1, 2, 3, 4] (by decide) ⟨0, a4, h, ?_⟩ ?_
  · rw [wk_mk]
    simp (disch := first | assumption | (simp; done) | omega | (simp; omega)) only [push_cast, seval, h914, h915, h916, h917, h918, h919] <;> rfl
  rintro n s ⟨a7, a8, h, rfl⟩
  rcases n with _ | m2
  · exact absurd h (by simp [L_ref02_Sum_1])
  rw [L_ref02_Sum_1] at h
  unfold f145b13
  rcases F_if h with ⟨h921, h⟩ | ⟨h921, h⟩
  rotate_left
  · simp (disch := first | assumption | (simp; done) | omega | (simp; omega)) only [push_cast, seval, h914, h915, h916, h917, h918, h919, h921]
    refine loop_of (I_ref02_Sum_2 N (L_ref02_Sum_0 N  m1) a2 a3 a5 a8 _) N [2, 3, 4, 5, 7, 11] [0, 1, 2, 4] (by decide) ⟨0, a4, h, ?_⟩ ?_
    · rw [wk_mk]
      simp (disch := first | assumption | (simp; done) | omega | (simp; omega)) only [push_cast, seval, h914, h915, h916, h917, h918, h919, h921] <;> rfl
    rintro n s ⟨a25, a26, h, rfl⟩
    rcases n with _ | m4
    · exact absurd h (by simp [L_ref02_Sum_2])
    rw [L_ref02_Sum_2] at h
    unfold f145b18
    rcases F_if h with ⟨h971, h⟩ | ⟨h971, h⟩
    rotate_left
    · simp (disch := first | assumption | (simp; done) | omega | (simp; omega)) only [push_cast, seval, h914, h915, h916, h917, h918, h919, h921, h971]
      refine lpK_of m1 [2, 3, 4, 5] [0, 1, 2] (by omega) (by decide) ⟨(a2 + 64), a3, a26, a5, (by first | exact h | simpa only [*] using h), ?_⟩
      rw [wk_mk]
      simp (disch := first | assumption | (simp; done) | omega | (simp; omega)) only [push_cast, seval, h914, h915, h916, h917, h918, h919, h921, h971] <;> rfl
    obtain ⟨h972, h⟩ := F_gd h
    obtain ⟨h973, h⟩ := F_gd h
    obtain ⟨x27, h974, h975, h⟩ := F_get h
    have h977 := get_lt h974 h975
    have h976 := map_getG (rI .u32) h975
    try simp (disch := first | assumption | (simp; done) | omega | (simp; omega)) only [push_cast, seval] at h976
    obtain ⟨x28, h978, h979, h⟩ := F_get h
    have h981 := get_lt h978 h979
    have h980 := map_getG (rI .u32) h979
    try simp (disch := first | assumption | (simp; done) | omega | (simp; omega)) only [push_cast, seval] at h980
    have h982 := arr_get (rI .u32) a26 (i := a25.toNat) (by omega)
    try simp (disch := first | assumption | (simp; done) | omega | (simp; omega)) only [push_cast, seval] at h982
    obtain ⟨h983, h⟩ := F_ck h
    try simp (disch := first | assumption | (simp; done) | omega | (simp; omega)) only [push_cast, seval] at h983
    simp (disch := first | assumption | (simp; done) | omega | (simp; omega)) only [push_cast, seval, h914, h915, h916, h917, h918, h919, h921, h971, h972, h973, h974, h976, h977, h978, h980, h981, h982, h983]
    refine lpK_of m4 [2, 3, 4, 5, 7, 11] [0, 1, 2, 3] (by omega) (by decide) ⟨(a25 + 1), (a26.set a25.toNat (IntKind.wrap .u32 (x27 + x28))), (by first | exact h | simpa only [*] using h), ?_⟩
    rw [wk_mk]
    simp (disch := first | assumption | (simp; done) | omega | (simp; omega)) only [push_cast, seval, h914, h915, h916, h917, h918, h919, h921, h971, h972, h973, h974, h976, h977, h978, h980, h981, h982, h983] <;> rfl
  obtain ⟨x9, h922, h923, h⟩ := F_get h
  have h925 := get_lt h922 h923
  have h924 := map_getG (rI .u32) h923
  try simp (disch := first | assumption | (simp; done) | omega | (simp; omega)) only [push_cast, seval] at h924
  obtain ⟨x10, h926, h927, h⟩ := F_get h
  have h929 := get_lt h926 h927
  have h928 := map_getG (rI .u32) h927
  try simp (disch := first | assumption | (simp; done) | omega | (simp; omega)) only [push_cast, seval] at h928
  obtain ⟨v11, h930, h⟩ := F_bd h
  simp (disch := first | assumption | (simp; done) | omega | (simp; omega)) only [push_cast, seval, h914, h915, h916, h917, h918, h919, h921, h922, h924, h925, h926, h928, h929]
  refine call_flat (by rfl) (c_ref02_rotr N _ _ _ h930) ?_ rfl ?_
  · simp (disch := first | assumption | (simp; done) | omega | (simp; omega)) only [push_cast, seval, h914, h915, h916, h917, h918, h919, h921, h922, h924, h925, h926, h928, h929] <;> rfl
  obtain ⟨v12, h931, h⟩ := F_bd h
  simp (disch := first | assumption | (simp; done) | omega | (simp; omega)) only [push_cast, seval, h914, h915, h916, h917, h918, h919, h921, h922, h924, h925, h926, h928, h929]
  refine call_flat (by rfl) (c_ref02_rotr N _ _ _ h931) ?_ rfl ?_
  · simp (disch := first | assumption | (simp; done) | omega | (simp; omega)) only [push_cast, seval, h914, h915, h916, h917, h918, h919, h921, h922, h924, h925, h926, h928, h929] <;> rfl
  obtain ⟨v13, h932, h⟩ := F_bd h
  simp (disch := first | assumption | (simp; done) | omega | (simp; omega)) only [push_cast, seval, h914, h915, h916, h917, h918, h919, h921, h922, h924, h925, h926, h928, h929]
  refine call_flat (by rfl) (c_ref02_rotr N _ _ _ h932) ?_ rfl ?_
  · simp (disch := first | assumption | (simp; done) | omega | (simp; omega)) only [push_cast, seval, h914, h915, h916, h917, h918, h919, h921, h922, h924, h925, h926, h928, h929] <;> rfl
  obtain ⟨x14, h933, h934, h⟩ := F_get h
  have h936 := get_lt h933 h934
  have h935 := map_getG (rI .u32) h934
  try simp (disch := first | assumption | (simp; done) | omega | (simp; omega)) only [push_cast, seval] at h935
  obtain ⟨x15, h937, h938, h⟩ := F_get h
  have h940 := get_lt h937 h938
  have h939 := map_getG (rI .u32) h938
  try simp (disch := first | assumption | (simp; done) | omega | (simp; omega)) only [push_cast, seval] at h939
  obtain ⟨h941, h⟩ := F_gd h
  obtain ⟨h942, h⟩ := F_gd h
  obtain ⟨x16, h943, h944, h⟩ := F_get h
  have h946 := get_lt h943 h944
  have h945 := map_getG (DV.I .u32) h944
  try simp (disch := first | assumption | (simp; done) | omega | (simp; omega)) only [push_cast, seval] at h945
  obtain ⟨x17, h947, h948, h⟩ := F_get h
  have h950 := get_lt h947 h948
  have h949 := map_getG (rI .u32) h948
  try simp (disch := first | assumption | (simp; done) | omega | (simp; omega)) only [push_cast, seval] at h949
  obtain ⟨x18, h951, h952, h⟩ := F_get h
  have h954 := get_lt h951 h952
  have h953 := map_getG (rI .u32) h952
  try simp (disch := first | assumption | (simp; done) | omega | (simp; omega)) only [push_cast, seval] at h953
  obtain ⟨v19, h955, h⟩ := F_bd h
  simp (disch := first | assumption | (simp; done) | omega | (simp; omega)) only [push_cast, seval, h914, h915, h916, h917, h918, h919, h921, h922, h924, h925, h926, h928, h929, h933, h935, h936, h937, h939, h940, h941, h942, h943, h945, h946, h947, h949, h950, h951, h953, h954]
  refine call_flat (by rfl) (c_ref02_rotr N _ _ _ h955) ?_ rfl ?_
  · simp (disch := first | assumption | (simp; done) | omega | (simp; omega)) only [push_cast, seval, h914, h915, h916, h917, h918, h919, h921, h922, h924, h925, h926, h928, h929, h933, h935, h936, h937, h939, h940, h941, h942, h943, h945, h946, h947, h949, h950, h951, h953, h954] <;> rfl
  obtain ⟨v20, h956, h⟩ := F_bd h
  simp (disch := first | assumption | (simp; done) | omega | (simp; omega)) only [push_cast, seval, h914, h915, h916, h917, h918, h919, h921, h922, h924, h925, h926, h928, h929, h933, h935, h936, h937, h939, h940, h941, h942, h943, h945, h946, h947, h949, h950, h951, h953, h954]
  refine call_flat (by rfl) (c_ref02_rotr N _ _ _ h956) ?_ rfl ?_
  · simp (disch := first | assumption | (simp; done) | omega | (simp; omega)) only [push_cast, seval, h914, h915, h916, h917, h918, h919, h921, h922, h924, h925, h926, h928, h929, h933, h935, h936, h937, h939, h940, h941, h942, h943, h945, h946, h947, h949, h950, h951, h953, h954] <;> rfl
  obtain ⟨v21, h957, h⟩ := F_bd h
  simp (disch := first | assumption | (simp; done) | omega | (simp; omega)) only [push_cast, seval, h914, h915, h916, h917, h918, h919, h921, h922, h924, h925, h926, h928, h929, h933, h935, h936, h937, h939, h940, h941, h942, h943, h945, h946, h947, h949, h950, h951, h953, h954]
  refine call_flat (by rfl) (c_ref02_rotr N _ _ _ h957) ?_ rfl ?_
  · simp (disch := first | assumption | (simp; done) | omega | (simp; omega)) only [push_cast, seval, h914, h915, h916, h917, h918, h919, h921, h922, h924, h925, h926, h928, h929, h933, h935, h936, h937, h939, h940, h941, h942, h943, h945, h946, h947, h949, h950, h951, h953, h954] <;> rfl
  obtain ⟨x22, h958, h959, h⟩ := F_get h
  have h961 := get_lt h958 h959
  have h960 := map_getG (rI .u32) h959
  try simp (disch := first | assumption | (simp; done) | omega | (simp; omega)) only [push_cast, seval] at h960
  obtain ⟨x23, h962, h963, h⟩ := F_get h
  have h965 := get_lt h962 h963
  have h964 := map_getG (rI .u32) h963
  try simp (disch := first | assumption | (simp; done) | omega | (simp; omega)) only [push_cast, seval] at h964
  obtain ⟨x24, h966, h967, h⟩ := F_get h
  have h969 := get_lt h966 h967
  have h968 := map_getG (rI .u32) h967
  try simp (disch := first | assumption | (simp; done) | omega | (simp; omega)) only [push_cast, seval] at h968
  obtain ⟨h970, h⟩ := F_ck h
  try simp (disch := first | assumption | (simp; done) | omega | (simp; omega)) only [push_cast, seval] at h970
  simp (disch := first | assumption | (simp; done) | omega | (simp; omega)) only [push_cast, seval, h914, h915, h916, h917, h918, h919, h921, h922, h924, h925, h926, h928, h929, h933, h935, h936, h937, h939, h940, h941, h942, h943, h945, h946, h947, h949, h950, h951, h953, h954, h958, h960, h961, h962, h964, h965, h966, h968, h969, h970]
  refine lpK_of m2 [2, 3, 4, 5, 6, 7, 8] [0, 1, 2, 3, 4] (by omega) (by decide) ⟨(a7 + 1), (Arr.of [(IntKind.wrap .u32 ((IntKind.wrap .u32 ((IntKind.wrap .u32 ((IntKind.wrap .u32 ((IntKind.wrap .u32 (x9 + (bits .xor .u32 (bits .xor .u32 v11 v12) v13))) + (bits .xor .u32 (bits .and .u32 x10 x14) (bits .and .u32 (bits .xor .u32 x10 4294967295) x15)))) + x16)) + x17)) + (IntKind.wrap .u32 ((bits .xor .u32 (bits .xor .u32 v19 v20) v21) + (bits .xor .u32 (bits .xor .u32 (bits .and .u32 x18 x22) (bits .and .u32 x18 x23)) (bits .and .u32 x22 x23)))))), x18, x22, x23, (IntKind.wrap .u32 (x24 + (IntKind.wrap .u32 ((IntKind.wrap .u32 ((IntKind.wrap .u32 ((IntKind.wrap .u32 (x9 + (bits .xor .u32 (bits .xor .u32 v11 v12) v13))) + (bits .xor .u32 (bits .and .u32 x10 x14) (bits .and .u32 (bits .xor .u32 x10 4294967295) x15)))) + x16)) + x17)))), x10, x14, x15] rfl), (by first | exact h | simpa only [*] using h), ?_⟩
  rw [wk_mk]
  simp (disch := first | assumption | (simp; done) | omega | (simp; omega)) only [push_cast, seval, h914, h915, h916, h917, h918, h919, h921, h922, h924, h925, h926, h928, h929, h933, h935, h936, h937, h939, h940, h941, h942, h943, h945, h946, h947, h949, h950, h951, h953, h954, h958, h960, h961, h962, h964, h965, h966, h968, h969, h970] <;> rfl

def f120g0 : List RO := [o_ 2 (.newR ((Arr.zero 16).l.map (aI .u8)))]
def f120g1 : List RO := [o_ 6 (.mv (t_ 0)), o_ 7 (.call (.func 145) [(t_ 6)]), o_ 3 (.newR ((Arr.zero 32).l.map (aI .u8))), n_ (.store 32 (t_ 3) (t_ 7))]
def f120g2 : List RO := [o_ 8 (.build ((Arr.zero 16).l.map (aI .u8)) []), o_ 4 (.newR ((Arr.zero 16).l.map (aI .u8))), n_ (.store 16 (t_ 4) (t_ 8))]
def f120g3 : List RO := [o_ 5 (.mv (.const (.int .i64 0)))]
def f120g4 : List RO := [o_ 9 (.mv (t_ 5)), o_ 10 (.bin .lss (t_ 9) (.const (.int .i64 16)))]
def f120g5 : List RO := [o_ 13 (.mv (t_ 5)), o_ 14 (.mv (t_ 5)), o_ 15 (.iaddrA 32 1 (t_ 3) (t_ 14)), o_ 16 (.load .none (t_ 15)), o_ 17 (.iaddrA 16 1 (t_ 4) (t_ 13)), n_ (.store 1 (t_ 17) (t_ 16))]
def f120g6 : List RO := [o_ 11 (.mv (t_ 5)), o_ 12 (.bin .add (t_ 11) (.const (.int .i64 1))), o_ 5 (.mv (t_ 12))]
def f120b7 : RCode := (.seq (.seq (.reg .false f120g4) (.cond (t_ 10) .skip (.exit 0))) (.seq (.block 1 (.reg .false f120g5)) (.reg .false f120g6)))
def f120g8 : List RO := [o_ 18 (.load (.some 16) (t_ 4)), n_ (.store 16 (t_ 2) (t_ 18))]
def f120c : RCode := (.seq (.reg .false f120g0) (.seq (.reg .false f120g1) (.seq (.reg .false f120g2) (.seq (.seq (.reg .false f120g3) (.block 0 (.loop f120b7))) (.seq (.reg .false f120g8) .ret)))))
def f120r : List RRes := [(.cell (.some 16) 2)]
attribute [push_cast] f120g0 f120g1 f120g2 f120g3 f120g4 f120g5 f120g6 f120g8
def L_ref02_Short_0 (N : Nat) (v1 : (Arr 32)) : Nat → Int → (Arr 16) → Option (Arr 16)
  | 0, _, _ => none
  | m1+1, a2, a3 => if? (decide (a2 < 16)) (gd? (0 ≤ a2) (gd? (a2 < 32) (get? v1.l (a2) fun x4 => gd? (a2 < 16) (ck .i64 (a2 + 1) (L_ref02_Short_0 N v1 m1 (a2 + 1) (a3.set a2.toNat x4)))))) (some (a3))
def I_ref02_Short_0 (N : Nat) (v1 : (Arr 32)) (r : (Arr 16)) (n : Nat) (s : AState) : Prop := ∃ (a2 : Int) (a3 : (Arr 16)), L_ref02_Short_0 N v1 n a2 a3 = some r ∧ s = ⟨envL [(2, .eptr (.O 0) 1 0 0), (3, .eptr (.O 1) 1 0 0), (4, .eptr (.O 2) 1 0 0), (5, .D (.I .i64 a2))], ownL [], ownL [some (.row true 1 ((Arr.zero 16).l.map (rI .u8))), some (.row true 1 (v1.l.map (rI .u8))), some (.row true 1 (a3.l.map (rI .u8)))], 3⟩
def F_ref02_Short (N : Nat) (p0 : (List Int)) : Option (Arr 16) := bd? (F_ref02_Sum N p0) fun v1 => L_ref02_Short_0 N v1 N 0 (Arr.zero 16)
theorem c_ref02_Short (N : Nat) (p0 : (List Int)) (r : (Arr 16)) (h : F_ref02_Short N p0 = some r) : ACall Tryd.prog 120 [.D (.L (p0.map (rI .u8)))] [] (.agg (r.l.map (aI .u8))) [] [] := by
  refine ACall.of_bodyW [] (fn := Tryd.f120) (rc := f120c) (rs := f120r) Tryd.func120 rfl rfl (by kernel_rfl) (by kernel_rfl) (by kernel_rfl) (by rw [Tryd.ntmps120]; simp) ?_
  unfold F_ref02_Short at h
  unfold f120c f120r
  rw [entry_eq _ _]
  obtain ⟨v1, h1000, h⟩ := F_bd h
  simp (disch := first | assumption | (simp; done) | omega | (simp; omega)) only [push_cast, seval]
  refine call_flat (by rfl) (c_ref02_Sum N _ _ h1000) ?_ (by simp [AV.flat, AV.flatL, flatL_aI, flatL_app, DV.flat]) ?_
  · simp (disch := first | assumption | (simp; done) | omega | (simp; omega)) only [push_cast, seval] <;> rfl
  simp (disch := first | assumption | (simp; done) | omega | (simp; omega)) only [push_cast, seval]
  refine loop_of (I_ref02_Short_0 N v1 _) N [2, 3, 4, 5] [0, 1, 2] (by decide) ⟨0, (Arr.zero 16), h, ?_⟩ ?_
  · rw [wk_mk]
    simp (disch := first | assumption | (simp; done) | omega | (simp; omega)) only [push_cast, seval] <;> rfl
  rintro n s ⟨a2, a3, h, rfl⟩
  rcases n with _ | m1
  · exact absurd h (by simp [L_ref02_Short_0])
  rw [L_ref02_Short_0] at h
  unfold f120b7
  rcases F_if h with ⟨h1001, h⟩ | ⟨h1001, h⟩
  rotate_left
  · obtain rfl := Option.some.inj h
    simp (disch := first | assumption | (simp; done) | omega | (simp; omega)) only [push_cast, seval, h1001]
    refine e_ret (.inr rfl) ?_
    simp (disch := first | assumption | (simp; done) | omega | (simp; omega)) only [push_cast, seval, aret, aresults, aresult, h1001]
    refine ⟨_, rfl, ?_⟩
    first | (simp (disch := first | assumption | (simp; done) | omega | (simp; omega)) only [push_cast, seval, h1001] <;> rfl) | rfl
  obtain ⟨h1002, h⟩ := F_gd h
  obtain ⟨h1003, h⟩ := F_gd h
  obtain ⟨x4, h1004, h1005, h⟩ := F_get h
  have h1007 := get_lt h1004 h1005
  have h1006 := map_getG (rI .u8) h1005
  try simp (disch := first | assumption | (simp; done) | omega | (simp; omega)) only [push_cast, seval] at h1006
  obtain ⟨h1008, h⟩ := F_gd h
  have h1009 := arr_get (rI .u8) a3 (i := a2.toNat) (by omega)
  try simp (disch := first | assumption | (simp; done) | omega | (simp; omega)) only [push_cast, seval] at h1009
  obtain ⟨h1010, h⟩ := F_ck h
  try simp (disch := first | assumption | (simp; done) | omega | (simp; omega)) only [push_cast, seval] at h1010
  simp (disch := first | assumption | (simp; done) | omega | (simp; omega)) only [push_cast, seval, h1001, h1002, h1003, h1004, h1006, h1007, h1008, h1009, h1010]
  refine lpK_of m1 [2, 3, 4, 5] [0, 1, 2] (by omega) (by decide) ⟨(a2 + 1), (a3.set a2.toNat x4), (by first | exact h | simpa only [*] using h), ?_⟩
  rw [wk_mk]
  simp (disch := first | assumption | (simp; done) | omega | (simp; omega)) only [push_cast, seval, h1001, h1002, h1003, h1004, h1006, h1007, h1008, h1009, h1010] <;> rfl

def f69g0 : List RO := [o_ 4 (.newR ((Arr.zero 16).l.map (aI .u8)))]
def f69g1 : List RO := [o_ 5 (.mv (t_ 0)), o_ 6 (.mv (t_ 1)), o_ 7 (.call (.func 96) [(t_ 5), (t_ 6)]), o_ 8 (.call (.func 120) [(t_ 7)]), n_ (.store 16 (t_ 4) (t_ 8))]
def f69c : RCode := (.seq (.reg .false f69g0) (.seq (.reg .false f69g1) .ret))
def f69r : List RRes := [(.cell (.some 16) 4)]
attribute [push_cast] f69g0 f69g1
def F_ref02_Of (N : Nat) (p0 : Int) (p1 : (List Str)) : Option (Arr 16) := bd? (F_ref02_Input N p0 p1) fun v1 => bd? (F_ref02_Short N v1) fun v2 => some (v2)
theorem c_ref02_Of (N : Nat) (p0 : Int) (p1 : (List Str)) (r : (Arr 16)) (h : F_ref02_Of N p0 p1 = some r) : ACall Tryd.prog 69 [.D (.I .i64 p0), .D (.L (p1.map rS))] [] (.agg (r.l.map (aI .u8))) [] [] := by
  refine ACall.of_bodyW [] (fn := Tryd.f69) (rc := f69c) (rs := f69r) Tryd.func69 rfl rfl (by kernel_rfl) (by kernel_rfl) (by kernel_rfl) (by rw [Tryd.ntmps69]; simp) ?_
  unfold F_ref02_Of at h
  unfold f69c f69r
  rw [entry_eq _ _]
  obtain ⟨v1, h1011, h⟩ := F_bd h
  simp (disch := first | assumption | (simp; done) | omega | (simp; omega)) only [push_cast, seval]
  refine call_new (by rfl) (c_ref02_Input N _ _ _ h1011) ?_ rfl ?_
  · simp (disch := first | assumption | (simp; done) | omega | (simp; omega)) only [push_cast, seval] <;> rfl
  obtain ⟨v2, h1012, h⟩ := F_bd h
  simp (disch := first | assumption | (simp; done) | omega | (simp; omega)) only [push_cast, seval]
  refine call_flat (by rfl) (c_ref02_Short N _ _ h1012) ?_ (by simp [AV.flat, AV.flatL, flatL_aI, flatL_app, DV.flat]) ?_
  · simp (disch := first | assumption | (simp; done) | omega | (simp; omega)) only [push_cast, seval] <;> rfl
  obtain rfl := Option.some.inj h
  simp (disch := first | assumption | (simp; done) | omega | (simp; omega)) only [push_cast, seval]
  refine e_ret (.inr rfl) ?_
  simp (disch := first | assumption | (simp; done) | omega | (simp; omega)) only [push_cast, seval, aret, aresults, aresult]
  refine ⟨_, rfl, ?_⟩
  first | (simp (disch := first | assumption | (simp; done) | omega | (simp; omega)) only [push_cast, seval] <;> rfl) | rfl

def f21g0 : List RO := [o_ 2 (.newR ((Arr.zero 16).l.map (aI .u8)))]
def f21g1 : List RO := [o_ 3 (.mv (t_ 0)), o_ 4 (.bslice 1 [(t_ 3)]), o_ 5 (.call (.func 69) [(.const (.int .i64 30)), (t_ 4)]), n_ (.store 16 (t_ 2) (t_ 5))]
def f21c : RCode := (.seq (.reg .false f21g0) (.seq (.reg .false f21g1) .ret))
def f21r : List RRes := [(.cell (.some 16) 2)]
attribute [push_cast] f21g0 f21g1
def F_ref03_Leaf (N : Nat) (p0 : Str) : Option (Arr 16) := bd? (F_ref02_Of N 30 [p0]) fun v1 => some (v1)
theorem c_ref03_Leaf (N : Nat) (p0 : Str) (r : (Arr 16)) (h : F_ref03_Leaf N p0 = some r) : ACall Tryd.prog 21 [.D (.S p0)] [] (.agg (r.l.map (aI .u8))) [] [] := by
  refine ACall.of_bodyW [] (fn := Tryd.f21) (rc := f21c) (rs := f21r) Tryd.func21 rfl rfl (by kernel_rfl) (by kernel_rfl) (by kernel_rfl) (by rw [Tryd.ntmps21]; simp) ?_
  unfold F_ref03_Leaf at h
  unfold f21c f21r
  rw [entry_eq _ _]
  obtain ⟨v1, h1013, h⟩ := F_bd h
  simp (disch := first | assumption | (simp; done) | omega | (simp; omega)) only [push_cast, seval]
  refine call_flat (by rfl) (c_ref02_Of N _ _ _ h1013) ?_ (by simp [AV.flat, AV.flatL, flatL_aI, flatL_app, DV.flat]) ?_
  · simp (disch := first | assumption | (simp; done) | omega | (simp; omega)) only [push_cast, seval] <;> rfl
  obtain rfl := Option.some.inj h
  simp (disch := first | assumption | (simp; done) | omega | (simp; omega)) only [push_cast, seval]
  refine e_ret (.inr rfl) ?_
  simp (disch := first | assumption | (simp; done) | omega | (simp; omega)) only [push_cast, seval, aret, aresults, aresult]
  refine ⟨_, rfl, ?_⟩
  first | (simp (disch := first | assumption | (simp; done) | omega | (simp; omega)) only [push_cast, seval] <;> rfl) | rfl

def f23g0 : List RO := [o_ 2 (.boxR (t_ 0)), o_ 3 (.boxR (t_ 1)), o_ 4 (.newR ((Arr.zero 16).l.map (aI .u8)))]
def f23g1 : List RO := [o_ 5 (.slsA 16 (t_ 2) .none .none), o_ 6 (.cvS (t_ 5)), o_ 7 (.slsA 16 (t_ 3) .none .none), o_ 8 (.cvS (t_ 7)), o_ 9 (.bslice 1 [(t_ 6), (t_ 8)]), o_ 10 (.call (.func 69) [(.const (.int .i64 31)), (t_ 9)]), n_ (.store 16 (t_ 4) (t_ 10))]
def f23c : RCode := (.seq (.reg .false f23g0) (.seq (.regS f23g1) .ret))
def f23r : List RRes := [(.cell (.some 16) 4)]
attribute [push_cast] f23g0 f23g1
def F_ref03_Node (N : Nat) (p0 : (Arr 16)) (p1 : (Arr 16)) : Option (Arr 16) := bd? (F_ref02_Of N 31 [(bytesI p0.l), (bytesI p1.l)]) fun v1 => some (v1)
theorem c_ref03_Node (N : Nat) (p0 : (Arr 16)) (p1 : (Arr 16)) (r : (Arr 16)) (h : F_ref03_Node N p0 p1 = some r) : ACall Tryd.prog 23 [.agg (p0.l.map (aI .u8)), .agg (p1.l.map (aI .u8))] [] (.agg (r.l.map (aI .u8))) [] [] := by
  refine ACall.of_bodyW [] (fn := Tryd.f23) (rc := f23c) (rs := f23r) Tryd.func23 rfl rfl (by kernel_rfl) (by kernel_rfl) (by kernel_rfl) (by rw [Tryd.ntmps23]; simp) ?_
  unfold F_ref03_Node at h
  unfold f23c f23r
  rw [entry_eq _ _]
  simp (disch := first | assumption | (simp; done) | omega | (simp; omega)) only [push_cast, seval]
  refine regS_of false [.O 0, .O 1] (by rfl) ?_
  obtain ⟨v1, h1014, h⟩ := F_bd h
  simp (disch := first | assumption | (simp; done) | omega | (simp; omega)) only [push_cast, seval]
  refine call_flat (by rfl) (c_ref02_Of N _ _ _ h1014) ?_ (by simp [AV.flat, AV.flatL, flatL_aI, flatL_app, DV.flat]) ?_
  · simp (disch := first | assumption | (simp; done) | omega | (simp; omega)) only [push_cast, seval] <;> rfl
  obtain rfl := Option.some.inj h
  simp (disch := first | assumption | (simp; done) | omega | (simp; omega)) only [push_cast, seval]
  refine e_ret (.inr rfl) ?_
  simp (disch := first | assumption | (simp; done) | omega | (simp; omega)) only [push_cast, seval, aret, aresults, aresult]
  refine ⟨_, rfl, ?_⟩
  first | (simp (disch := first | assumption | (simp; done) | omega | (simp; omega)) only [push_cast, seval] <;> rfl) | rfl

def f20g0 : List RO := [o_ 4 (.mv (.const (.bool .false)))]
def f20g1 : List RO := [o_ 6 (.mv (t_ 0)), o_ 7 (.len .false (t_ 6)), o_ 8 (.mv (t_ 1)), o_ 9 (.len .false (t_ 8)), o_ 10 (.bin .neq (t_ 7) (t_ 9))]
def f20g2 : List RO := [o_ 4 (.mv (.const (.bool .false)))]
def f20g3 : List RO := [o_ 5 (.mv (.const (.int .i64 0)))]
def f20g4 : List RO := [o_ 11 (.mv (t_ 5)), o_ 12 (.mv (t_ 0)), o_ 13 (.len .false (t_ 12)), o_ 14 (.bin .lss (t_ 11) (t_ 13))]
def f20g5 : List RO := [o_ 17 (.mv (t_ 0)), o_ 18 (.mv (t_ 5)), o_ 19 (.iaddr 16 (t_ 17) (t_ 18)), o_ 20 (.load (.some 16) (t_ 19)), o_ 21 (.mv (t_ 1)), o_ 22 (.mv (t_ 5)), o_ 23 (.iaddr 16 (t_ 21) (t_ 22)), o_ 24 (.load (.some 16) (t_ 23)), o_ 25 (.eqa .true .u8 16 (t_ 20) (t_ 24))]
def f20g6 : List RO := [o_ 4 (.mv (.const (.bool .false)))]
def f20g7 : List RO := [o_ 15 (.mv (t_ 5)), o_ 16 (.bin .add (t_ 15) (.const (.int .i64 1))), o_ 5 (.mv (t_ 16))]
def f20b8 : RCode := (.seq (.seq (.reg .false f20g4) (.cond (t_ 14) .skip (.exit 0))) (.seq (.block 1 (.seq (.reg .true f20g5) (.cond (t_ 25) (.seq (.reg .false f20g6) .ret) .skip))) (.reg .false f20g7)))
def f20g9 : List RO := [o_ 4 (.mv (.const (.bool .true)))]
def f20c : RCode := (.seq (.reg .false f20g0) (.seq (.seq (.reg .false f20g1) (.cond (t_ 10) (.seq (.reg .false f20g2) .ret) .skip)) (.seq (.seq (.reg .false f20g3) (.block 0 (.loop f20b8))) (.seq (.reg .false f20g9) .ret))))
def f20r : List RRes := [(.tmp 4)]
attribute [push_cast] f20g0 f20g1 f20g2 f20g3 f20g4 f20g5 f20g6 f20g7 f20g9
def L_ref03_Same_0 (N : Nat) (p0 : (List (Arr 16))) (p1 : (List (Arr 16))) : Nat → Int → Option Bool
  | 0, _ => none
  | m1+1, a1 => if? (decide (a1 < (p0.length : Int))) (get? p0 (a1) fun x2 => get? p1 (a1) fun x3 => if? ((x2.l == x3.l)) (ck .i64 (a1 + 1) (L_ref03_Same_0 N p0 p1 m1 (a1 + 1))) (some (false))) (some (true))
def I_ref03_Same_0 (N : Nat) (p0 : (List (Arr 16))) (p1 : (List (Arr 16))) (r : Bool) (n : Nat) (s : AState) : Prop := ∃ (a1 : Int), L_ref03_Same_0 N p0 p1 n a1 = some r ∧ s = ⟨envL [(0, .D (.L (p0.map (rA .u8)))), (1, .D (.L (p1.map (rA .u8)))), (5, .D (.I .i64 a1))], ownL [], ownL [], 0⟩
def F_ref03_Same (N : Nat) (p0 : (List (Arr 16))) (p1 : (List (Arr 16))) : Option Bool := if? (((p0.length : Int) != (p1.length : Int))) (some (false)) (L_ref03_Same_0 N p0 p1 N 0)
theorem c_ref03_Same (N : Nat) (p0 : (List (Arr 16))) (p1 : (List (Arr 16))) (r : Bool) (h : F_ref03_Same N p0 p1 = some r) : ACall Tryd.prog 20 [.D (.L (p0.map (rA .u8))), .D (.L (p1.map (rA .u8)))] [] (.D (.B r)) [] [] := by
  refine ACall.of_bodyW [] (fn := Tryd.f20) (rc := f20c) (rs := f20r) Tryd.func20 rfl rfl (by kernel_rfl) (by kernel_rfl) (by kernel_rfl) (by rw [Tryd.ntmps20]; simp) ?_
  unfold F_ref03_Same at h
  unfold f20c f20r
  rw [entry_eq _ _]
  rcases F_if h with ⟨h1015, h⟩ | ⟨h1015, h⟩
  · obtain rfl := Option.some.inj h
    simp (disch := first | assumption | (simp; done) | omega | (simp; omega)) only [push_cast, seval, h1015]
    refine e_ret (.inr rfl) ?_
    simp (disch := first | assumption | (simp; done) | omega | (simp; omega)) only [push_cast, seval, aret, aresults, aresult, h1015]
    refine ⟨_, rfl, ?_⟩
    first | (simp (disch := first | assumption | (simp; done) | omega | (simp; omega)) only [push_cast, seval, h1015] <;> rfl) | rfl
  simp (disch := first | assumption | (simp; done) | omega | (simp; omega)) only [push_cast, seval, h1015]
  refine loop_of (I_ref03_Same_0 N p0 p1 _) N [0, 1, 5] [] (by decide) ⟨0, h, ?_⟩ ?_
  · rw [wk_mk]
    simp (disch := first | assumption | (simp; done) | omega | (simp; omega)) only [push_cast, seval, h1015] <;> rfl
  rintro n s ⟨a1, h, rfl⟩
  rcases n with _ | m1
  · exact absurd h (by simp [L_ref03_Same_0])
  rw [L_ref03_Same_0] at h
  unfold f20b8
  rcases F_if h with ⟨h1016, h⟩ | ⟨h1016, h⟩
  rotate_left
  · obtain rfl := Option.some.inj h
    simp (disch := first | assumption | (simp; done) | omega | (simp; omega)) only [push_cast, seval, h1015, h1016]
    refine e_ret (.inr rfl) ?_
    simp (disch := first | assumption | (simp; done) | omega | (simp; omega)) only [push_cast, seval, aret, aresults, aresult, h1015, h1016]
    refine ⟨_, rfl, ?_⟩
    first | (simp (disch := first | assumption | (simp; done) | omega | (simp; omega)) only [push_cast, seval, h1015, h1016] <;> rfl) | rfl
  obtain ⟨x2, h1017, h1018, h⟩ := F_get h
  have h1020 := get_lt h1017 h1018
  have h1019 := map_get (rA .u8) h1018
  try simp (disch := first | assumption | (simp; done) | omega | (simp; omega)) only [push_cast, seval] at h1019
  obtain ⟨x3, h1021, h1022, h⟩ := F_get h
  have h1024 := get_lt h1021 h1022
  have h1023 := map_get (rA .u8) h1022
  try simp (disch := first | assumption | (simp; done) | omega | (simp; omega)) only [push_cast, seval] at h1023
  rcases F_if h with ⟨h1025, h⟩ | ⟨h1025, h⟩
  · obtain ⟨h1026, h⟩ := F_ck h
    try simp (disch := first | assumption | (simp; done) | omega | (simp; omega)) only [push_cast, seval] at h1026
    simp (disch := first | assumption | (simp; done) | omega | (simp; omega)) only [push_cast, seval, h1015, h1016, h1017, h1019, h1020, h1021, h1023, h1024, h1025, h1026]
    refine lpK_of m1 [0, 1, 5] [] (by omega) (by decide) ⟨(a1 + 1), (by first | exact h | simpa only [*] using h), ?_⟩
    rw [wk_mk]
    simp (disch := first | assumption | (simp; done) | omega | (simp; omega)) only [push_cast, seval, h1015, h1016, h1017, h1019, h1020, h1021, h1023, h1024, h1025, h1026] <;> rfl
  obtain rfl := Option.some.inj h
  simp (disch := first | assumption | (simp; done) | omega | (simp; omega)) only [push_cast, seval, h1015, h1016, h1017, h1019, h1020, h1021, h1023, h1024, h1025]
  refine e_ret (.inr rfl) ?_
  simp (disch := first | assumption | (simp; done) | omega | (simp; omega)) only [push_cast, seval, aret, aresults, aresult, h1015, h1016, h1017, h1019, h1020, h1021, h1023, h1024, h1025]
  refine ⟨_, rfl, ?_⟩
  first | (simp (disch := first | assumption | (simp; done) | omega | (simp; omega)) only [push_cast, seval, h1015, h1016, h1017, h1019, h1020, h1021, h1023, h1024, h1025] <;> rfl) | rfl

def f80g0 : List RO := [o_ 2 (.newR ((Arr.zero 16).l.map (aI .u8)))]
def f80g1 : List RO := [o_ 5 (.mv (t_ 0)), o_ 6 (.nilc (t_ 5)), o_ 7 (.faddr 0 (t_ 6)), o_ 8 (.load .none (t_ 7)), o_ 9 (.len .false (t_ 8)), o_ 3 (.mv (t_ 9))]
def f80g2 : List RO := [o_ 10 (.mv (t_ 3)), o_ 11 (.bin .eql (t_ 10) (.const (.int .i64 0)))]
def f80g3 : List RO := [o_ 12 (.mv (t_ 0)), o_ 13 (.nilc (t_ 12)), o_ 14 (.faddr 1 (t_ 13)), n_ (.store 1 (t_ 14) (.const (.bool .true)))]
def f80g4 : List RO := [o_ 15 (.build ((Arr.zero 16).l.map (aI .u8)) []), n_ (.store 16 (t_ 2) (t_ 15))]
def f80g5 : List RO := [o_ 16 (.mv (t_ 0)), o_ 17 (.nilc (t_ 16)), o_ 18 (.faddr 0 (t_ 17)), o_ 19 (.load .none (t_ 18)), o_ 20 (.mv (t_ 3)), o_ 21 (.bin .sub (t_ 20) (.const (.int .i64 1))), o_ 22 (.iaddr 16 (t_ 19) (t_ 21)), o_ 23 (.load (.some 16) (t_ 22)), o_ 4 (.newR ((Arr.zero 16).l.map (aI .u8))), n_ (.store 16 (t_ 4) (t_ 23))]
def f80g6 : List RO := [o_ 24 (.mv (t_ 0)), o_ 25 (.mv (t_ 0)), o_ 26 (.nilc (t_ 25)), o_ 27 (.faddr 0 (t_ 26)), o_ 28 (.load .none (t_ 27)), o_ 29 (.mv (t_ 3)), o_ 30 (.bin .sub (t_ 29) (.const (.int .i64 1))), o_ 31 (.mv (t_ 3)), o_ 32 (.bin .sub (t_ 31) (.const (.int .i64 1))), o_ 33 (.sll 16 (t_ 28) .none (.some (t_ 30)) (.some (t_ 32))), o_ 34 (.nilc (t_ 24)), o_ 35 (.faddr 0 (t_ 34)), n_ (.store 1 (t_ 35) (t_ 33))]
def f80g7 : List RO := [o_ 36 (.load (.some 16) (t_ 4)), n_ (.store 16 (t_ 2) (t_ 36))]
def f80c : RCode := (.seq (.reg .false f80g0) (.seq (.reg .false f80g1) (.seq (.seq (.reg .false f80g2) (.cond (t_ 11) (.seq (.reg .false f80g3) (.seq (.reg .false f80g4) .ret)) .skip)) (.seq (.reg .false f80g5) (.seq (.reg .false f80g6) (.seq (.reg .false f80g7) .ret))))))
def f80r : List RRes := [(.cell (.some 16) 2)]
attribute [push_cast] f80g0 f80g1 f80g2 f80g3 f80g4 f80g5 f80g6 f80g7
def F_merkle_path_last (N : Nat) (q0 : Merklepath) : Option ((Arr 16) × Merklepath) := if? (((q0.l.length : Int) == 0)) (some ((Arr.zero 16), (Merklepath.mk q0.l true))) (ck .i64 ((q0.l.length : Int) - 1) (get? q0.l (((q0.l.length : Int) - 1)) fun x1 => gd? (0 ≤ ((q0.l.length : Int) - 1)) (gd? (((q0.l.length : Int) - 1).toNat ≤ q0.l.length) (some (x1, (Merklepath.mk (q0.l.take (((q0.l.length : Int) - 1).toNat - 0)) q0.short))))))
theorem c_merkle_path_last (N : Nat) (q0 : Merklepath) (r : ((Arr 16) × Merklepath)) (h : F_merkle_path_last N q0 = some r) : ACall Tryd.prog 80 [.ptr (.B 0) 0] [some (.box ([.D (.L (q0.l.map (rA .u8))), .D (.B q0.short)]))] (.agg (r.1.l.map (aI .u8))) [some (.box ([.D (.L (r.2.l.map (rA .u8))), .D (.B r.2.short)]))] [] := by
  refine ACall.of_bodyW [] (fn := Tryd.f80) (rc := f80c) (rs := f80r) Tryd.func80 rfl rfl (by kernel_rfl) (by kernel_rfl) (by kernel_rfl) (by rw [Tryd.ntmps80]; simp) ?_
  unfold F_merkle_path_last at h
  unfold f80c f80r
  rw [entry_eq _ _]
  rcases F_if h with ⟨h1027, h⟩ | ⟨h1027, h⟩
  · obtain rfl := Option.some.inj h
    simp (disch := first | assumption | (simp; done) | omega | (simp; omega)) only [push_cast, seval, h1027]
    refine AEndW.of2 [] (.inr rfl) (by decide) ?_ ?_ ?_
    · simp (disch := first | assumption | (simp; done) | omega | (simp; omega)) only [push_cast, seval, aret, aresults, aresult, h1027]
      refine ⟨_, rfl, ?_⟩
      first | (simp (disch := first | assumption | (simp; done) | omega | (simp; omega)) only [push_cast, seval, h1027] <;> rfl) | rfl
    · simp (disch := first | assumption | (simp; done) | omega | (simp; omega)) only [push_cast, seval, h1027] <;> rfl
    · simp (disch := first | assumption | (simp; done) | omega | (simp; omega)) only [push_cast, seval, h1027] <;> rfl
  obtain ⟨h1028, h⟩ := F_ck h
  try simp (disch := first | assumption | (simp; done) | omega | (simp; omega)) only [push_cast, seval] at h1028
  obtain ⟨x1, h1029, h1030, h⟩ := F_get h
  have h1032 := get_lt h1029 h1030
  have h1031 := map_get (rA .u8) h1030
  try simp (disch := first | assumption | (simp; done) | omega | (simp; omega)) only [push_cast, seval] at h1031
  try simp (disch := first | assumption | (simp; done) | omega | (simp; omega)) only [push_cast, seval] at h1029
  try simp (disch := first | assumption | (simp; done) | omega | (simp; omega)) only [push_cast, seval] at h1032
  obtain ⟨h1033, h⟩ := F_gd h
  try simp (disch := first | assumption | (simp; done) | omega | (simp; omega)) only [push_cast, seval] at h1033
  obtain ⟨h1034, h⟩ := F_gd h
  try simp (disch := first | assumption | (simp; done) | omega | (simp; omega)) only [push_cast, seval] at h1034
  obtain rfl := Option.some.inj h
  simp (disch := first | assumption | (simp; done) | omega | (simp; omega)) only [push_cast, seval, h1027, h1028, h1029, h1031, h1032, h1033, h1034]
  refine AEndW.of2 [] (.inr rfl) (by decide) ?_ ?_ ?_
  · simp (disch := first | assumption | (simp; done) | omega | (simp; omega)) only [push_cast, seval, aret, aresults, aresult, h1027, h1028, h1029, h1031, h1032, h1033, h1034]
    refine ⟨_, rfl, ?_⟩
    first | (simp (disch := first | assumption | (simp; done) | omega | (simp; omega)) only [push_cast, seval, h1027, h1028, h1029, h1031, h1032, h1033, h1034] <;> rfl) | rfl
  · simp (disch := first | assumption | (simp; done) | omega | (simp; omega)) only [push_cast, seval, h1027, h1028, h1029, h1031, h1032, h1033, h1034] <;> rfl
  · simp (disch := first | assumption | (simp; done) | omega | (simp; omega)) only [push_cast, seval, h1027, h1028, h1029, h1031, h1032, h1033, h1034] <;> rfl

def f79g0 : List RO := [o_ 7 (.newR ((Arr.zero 16).l.map (aI .u8)))]
def f79g1 : List RO := [o_ 10 (.mv (t_ 1)), o_ 11 (.bin .eql (t_ 10) (.const (.int .i64 1)))]
def f79g2 : List RO := [o_ 12 (.load (.some 16) (t_ 2)), n_ (.store 16 (t_ 7) (t_ 12))]
def f79g3 : List RO := [o_ 13 (.mv (t_ 1)), o_ 14 (.call (.func 61) [(t_ 13)]), o_ 15 (.load .none (t_ 3)), o_ 16 (.callE (.func 80) [(t_ 15)]), o_ 9 (.newR ((Arr.zero 16).l.map (aI .u8))), o_ 8 (.mv (t_ 14)), n_ (.store 16 (t_ 9) (t_ 16))]
def f79g4 : List RO := [o_ 17 (.mv (t_ 0)), o_ 18 (.mv (t_ 8)), o_ 19 (.bin .lss (t_ 17) (t_ 18))]
def f79g5 : List RO := [o_ 20 (.loadS .none (t_ 4)), o_ 21 (.mv (t_ 0)), o_ 22 (.mv (t_ 8)), o_ 23 (.callE (t_ 20) [(t_ 21), (t_ 22)]), o_ 24 (.loadS (.some 16) (t_ 9)), o_ 25 (.call (.func 22) [(t_ 23), (t_ 24)]), n_ (.store 16 (t_ 7) (t_ 25))]
def f79g6 : List RO := [o_ 26 (.loadS (.some 16) (t_ 9)), o_ 27 (.loadS .none (t_ 4)), o_ 28 (.mv (t_ 0)), o_ 29 (.mv (t_ 8)), o_ 30 (.bin .sub (t_ 28) (t_ 29)), o_ 31 (.mv (t_ 1)), o_ 32 (.mv (t_ 8)), o_ 33 (.bin .sub (t_ 31) (t_ 32)), o_ 34 (.callE (t_ 27) [(t_ 30), (t_ 33)]), o_ 35 (.call (.func 22) [(t_ 26), (t_ 34)]), n_ (.store 16 (t_ 7) (t_ 35))]
def f79c : RCode := (.seq (.reg .false f79g0) (.seq (.seq (.reg .false f79g1) (.cond (t_ 11) (.seq (.reg .false f79g2) .ret) .skip)) (.seq (.reg .true f79g3) (.seq (.seq (.reg .false f79g4) (.cond (t_ 19) (.seq (.regS f79g5) .ret) .skip)) (.seq (.regS f79g6) .ret)))))
def f79r : List RRes := [(.cell (.some 16) 7)]
attribute [push_cast] f79g0 f79g1 f79g2 f79g3 f79g4 f79g5 f79g6
def F_merkle_CheckInclusion_1_r (N : Nat) : Nat → Int → Int → (Arr 16) → Merklepath → Option ((Arr 16) × Merklepath)
  | 0, _, _, _, _ => none
  | dd + 1, p0, p1, q0, q2 => if? ((p1 == 1)) (some (q0, q2)) (bd? (F_merkle_split N p1) fun v1 => bd? (F_merkle_path_last N q2) fun v2 => if? (decide (p0 < v1)) (bd? (F_merkle_CheckInclusion_1_r N dd p0 v1 q0 v2.2) fun v3 => bd? (F_merkle_Node N v3.1 v2.1) fun v4 => some (v4, v3.2)) (ck .i64 (p0 - v1) (ck .i64 (p1 - v1) (bd? (F_merkle_CheckInclusion_1_r N dd (p0 - v1) (p1 - v1) q0 v2.2) fun v5 => bd? (F_merkle_Node N v2.1 v5.1) fun v6 => some (v6, v5.2)))))
def F_merkle_CheckInclusion_1 (N : Nat) (p0 : Int) (p1 : Int) (q0 : (Arr 16)) (q2 : Merklepath) : Option ((Arr 16) × Merklepath) := F_merkle_CheckInclusion_1_r N N p0 p1 q0 q2
theorem c_merkle_CheckInclusion_1_r (N dd : Nat) : ∀ (p0 : Int) (p1 : Int) (q0 : (Arr 16)) (q2 : Merklepath) (r : ((Arr 16) × Merklepath)), F_merkle_CheckInclusion_1_r N dd p0 p1 q0 q2 = some r → ACall Tryd.prog 79 [.D (.I .i64 p0), .D (.I .i64 p1), .eptr (.B 0) 1 0 0, .ptr (.B 1) 0, .ptr (.B 3) 0] [some (.row true 1 (q0.l.map (rI .u8))), some (.box ([.ptr (.B 2) 0])), some (.box ([.D (.L (q2.l.map (rA .u8))), .D (.B q2.short)])), some (.box ([.clo 79 [.eptr (.B 0) 1 0 0, .ptr (.B 1) 0, .ptr (.B 3) 0]]))] (.agg (r.1.l.map (aI .u8))) [some (.row true 1 (q0.l.map (rI .u8))), some (.box ([.ptr (.B 2) 0])), some (.box ([.D (.L (r.2.l.map (rA .u8))), .D (.B r.2.short)])), some (.box ([.clo 79 [.eptr (.B 0) 1 0 0, .ptr (.B 1) 0, .ptr (.B 3) 0]]))] [] := by
  induction dd with
  | zero => intro p0 p1 q0 q2 r h; exact absurd h (by simp [F_merkle_CheckInclusion_1_r])
  | succ dd ih =>
  intro p0 p1 q0 q2 r h
  refine ACall.of_bodyW [16, 20, 23, 24, 26, 27, 34] (fn := Tryd.f79) (rc := f79c) (rs := f79r) Tryd.func79 rfl rfl (by kernel_rfl) (by kernel_rfl) (by kernel_rfl) (by rw [Tryd.ntmps79]; simp) ?_
  rw [F_merkle_CheckInclusion_1_r] at h
  unfold f79c f79r
  rw [entry_eq _ _]
  rcases F_if h with ⟨h1035, h⟩ | ⟨h1035, h⟩
  · obtain rfl := Option.some.inj h
    simp (disch := first | assumption | (simp; done) | omega | (simp; omega)) only [push_cast, seval, h1035]
    refine AEndW.of2 [] (.inr rfl) (by decide) ?_ ?_ ?_
    · simp (disch := first | assumption | (simp; done) | omega | (simp; omega)) only [push_cast, seval, aret, aresults, aresult, h1035]
      refine ⟨_, rfl, ?_⟩
      first | (simp (disch := first | assumption | (simp; done) | omega | (simp; omega)) only [push_cast, seval, h1035] <;> rfl) | rfl
    · simp (disch := first | assumption | (simp; done) | omega | (simp; omega)) only [push_cast, seval, h1035] <;> rfl
    · simp (disch := first | assumption | (simp; done) | omega | (simp; omega)) only [push_cast, seval, h1035] <;> rfl
  obtain ⟨v1, h1036, h⟩ := F_bd h
  simp (disch := first | assumption | (simp; done) | omega | (simp; omega)) only [push_cast, seval, h1035]
  refine call_flat (by rfl) (c_merkle_split N _ _ h1036) ?_ rfl ?_
  · simp (disch := first | assumption | (simp; done) | omega | (simp; omega)) only [push_cast, seval, h1035] <;> rfl
  obtain ⟨v2, h1037, h⟩ := F_bd h
  simp (disch := first | assumption | (simp; done) | omega | (simp; omega)) only [push_cast, seval, h1035]
  refine callE_of [.B 2] (by rfl) (c_merkle_path_last N _ _ h1037) (by decide) rfl (by simp (disch := first | assumption | (simp; done) | omega | (simp; omega)) only [push_cast, seval] <;> rfl) (by simp (maxSteps := 999999) (disch := first | assumption | (simp; done) | omega | (simp; omega)) only [push_cast, seval] <;> rfl) ?_ ?_ ?_
  · simp (disch := first | assumption | (simp; done) | omega | (simp; omega)) only [push_cast, seval, h1035] <;> rfl
  · simp (disch := first | assumption | (simp; done) | omega | (simp; omega)) only [push_cast, seval, h1035] <;> rfl
  rcases F_if h with ⟨h1038, h⟩ | ⟨h1038, h⟩
  · simp (disch := first | assumption | (simp; done) | omega | (simp; omega)) only [push_cast, seval, h1035, h1038]
    refine regS_of true [.B 3, .O 1] (by rfl) ?_
    obtain ⟨v3, h1039, h⟩ := F_bd h
    simp (disch := first | assumption | (simp; done) | omega | (simp; omega)) only [push_cast, seval, h1035, h1038]
    refine callE_of [.B 0, .B 1, .B 2, .B 3] (by rfl) (ih _ _ _ _ _ h1039) (by decide) rfl (by simp (disch := first | assumption | (simp; done) | omega | (simp; omega)) only [push_cast, seval] <;> rfl) (by simp (maxSteps := 999999) (disch := first | assumption | (simp; done) | omega | (simp; omega)) only [push_cast, seval] <;> rfl) ?_ ?_ ?_
    · simp (disch := first | assumption | (simp; done) | omega | (simp; omega)) only [push_cast, seval, h1035, h1038] <;> rfl
    · simp (disch := first | assumption | (simp; done) | omega | (simp; omega)) only [push_cast, seval, h1035, h1038] <;> rfl
    obtain ⟨v4, h1040, h⟩ := F_bd h
    simp (disch := first | assumption | (simp; done) | omega | (simp; omega)) only [push_cast, seval, h1035, h1038]
    refine call_flat (by rfl) (c_merkle_Node N _ _ _ h1040) ?_ (by simp [AV.flat, AV.flatL, flatL_aI, flatL_app, DV.flat]) ?_
    · simp (disch := first | assumption | (simp; done) | omega | (simp; omega)) only [push_cast, seval, h1035, h1038] <;> rfl
    obtain rfl := Option.some.inj h
    simp (disch := first | assumption | (simp; done) | omega | (simp; omega)) only [push_cast, seval, h1035, h1038]
    refine AEndW.of2 [] (.inr rfl) (by decide) ?_ ?_ ?_
    · simp (disch := first | assumption | (simp; done) | omega | (simp; omega)) only [push_cast, seval, aret, aresults, aresult, h1035, h1038]
      refine ⟨_, rfl, ?_⟩
      first | (simp (disch := first | assumption | (simp; done) | omega | (simp; omega)) only [push_cast, seval, h1035, h1038] <;> rfl) | rfl
    · simp (disch := first | assumption | (simp; done) | omega | (simp; omega)) only [push_cast, seval, h1035, h1038] <;> rfl
    · simp (disch := first | assumption | (simp; done) | omega | (simp; omega)) only [push_cast, seval, h1035, h1038] <;> rfl
  simp (disch := first | assumption | (simp; done) | omega | (simp; omega)) only [push_cast, seval, h1035, h1038]
  refine regS_of true [.O 1, .B 3] (by rfl) ?_
  obtain ⟨h1041, h⟩ := F_ck h
  try simp (disch := first | assumption | (simp; done) | omega | (simp; omega)) only [push_cast, seval] at h1041
  obtain ⟨h1042, h⟩ := F_ck h
  try simp (disch := first | assumption | (simp; done) | omega | (simp; omega)) only [push_cast, seval] at h1042
  obtain ⟨v5, h1043, h⟩ := F_bd h
  simp (disch := first | assumption | (simp; done) | omega | (simp; omega)) only [push_cast, seval, h1035, h1038, h1041, h1042]
  refine callE_of [.B 0, .B 1, .B 2, .B 3] (by rfl) (ih _ _ _ _ _ h1043) (by decide) rfl (by simp (disch := first | assumption | (simp; done) | omega | (simp; omega)) only [push_cast, seval] <;> rfl) (by simp (maxSteps := 999999) (disch := first | assumption | (simp; done) | omega | (simp; omega)) only [push_cast, seval] <;> rfl) ?_ ?_ ?_
  · simp (disch := first | assumption | (simp; done) | omega | (simp; omega)) only [push_cast, seval, h1035, h1038, h1041, h1042] <;> rfl
  · simp (disch := first | assumption | (simp; done) | omega | (simp; omega)) only [push_cast, seval, h1035, h1038, h1041, h1042] <;> rfl
  obtain ⟨v6, h1044, h⟩ := F_bd h
  simp (disch := first | assumption | (simp; done) | omega | (simp; omega)) only [push_cast, seval, h1035, h1038, h1041, h1042]
  refine call_flat (by rfl) (c_merkle_Node N _ _ _ h1044) ?_ (by simp [AV.flat, AV.flatL, flatL_aI, flatL_app, DV.flat]) ?_
  · simp (disch := first | assumption | (simp; done) | omega | (simp; omega)) only [push_cast, seval, h1035, h1038, h1041, h1042] <;> rfl
  obtain rfl := Option.some.inj h
  simp (disch := first | assumption | (simp; done) | omega | (simp; omega)) only [push_cast, seval, h1035, h1038, h1041, h1042]
  refine AEndW.of2 [] (.inr rfl) (by decide) ?_ ?_ ?_
  · simp (disch := first | assumption | (simp; done) | omega | (simp; omega)) only [push_cast, seval, aret, aresults, aresult, h1035, h1038, h1041, h1042]
    refine ⟨_, rfl, ?_⟩
    first | (simp (disch := first | assumption | (simp; done) | omega | (simp; omega)) only [push_cast, seval, h1035, h1038, h1041, h1042] <;> rfl) | rfl
  · simp (disch := first | assumption | (simp; done) | omega | (simp; omega)) only [push_cast, seval, h1035, h1038, h1041, h1042] <;> rfl
  · simp (disch := first | assumption | (simp; done) | omega | (simp; omega)) only [push_cast, seval, h1035, h1038, h1041, h1042] <;> rfl
theorem c_merkle_CheckInclusion_1 (N : Nat) (p0 : Int) (p1 : Int) (q0 : (Arr 16)) (q2 : Merklepath) (r : ((Arr 16) × Merklepath)) (h : F_merkle_CheckInclusion_1 N p0 p1 q0 q2 = some r) : ACall Tryd.prog 79 [.D (.I .i64 p0), .D (.I .i64 p1), .eptr (.B 0) 1 0 0, .ptr (.B 1) 0, .ptr (.B 3) 0] [some (.row true 1 (q0.l.map (rI .u8))), some (.box ([.ptr (.B 2) 0])), some (.box ([.D (.L (q2.l.map (rA .u8))), .D (.B q2.short)])), some (.box ([.clo 79 [.eptr (.B 0) 1 0 0, .ptr (.B 1) 0, .ptr (.B 3) 0]]))] (.agg (r.1.l.map (aI .u8))) [some (.row true 1 (q0.l.map (rI .u8))), some (.box ([.ptr (.B 2) 0])), some (.box ([.D (.L (r.2.l.map (rA .u8))), .D (.B r.2.short)])), some (.box ([.clo 79 [.eptr (.B 0) 1 0 0, .ptr (.B 1) 0, .ptr (.B 3) 0]]))] [] := c_merkle_CheckInclusion_1_r N N p0 p1 q0 q2 r h

def f75g0 : List RO := [o_ 4 (.mv (t_ 1)), o_ 5 (.mv (t_ 1)), o_ 6 (.nilc (t_ 5)), o_ 7 (.load .none (t_ 6)), o_ 8 (.mv (t_ 7)), ⟨(.some 9), (.mv (t_ 0)), (.some (8, .true))⟩, ⟨(.some 10), (.nilc (t_ 9)), (.some (8, .true))⟩, ⟨(.some 11), (.faddr 1 (t_ 10)), (.some (8, .true))⟩, ⟨(.some 12), (.load .none (t_ 11)), (.some (8, .true))⟩, ⟨(.some 13), (.un .not (t_ 12)), (.some (8, .true))⟩, o_ 14 (.pick (t_ 8) (t_ 13) (.const (.bool .false))), o_ 15 (.mv (t_ 14)), ⟨(.some 16), (.mv (t_ 0)), (.some (15, .true))⟩, ⟨(.some 17), (.nilc (t_ 16)), (.some (15, .true))⟩, ⟨(.some 18), (.faddr 0 (t_ 17)), (.some (15, .true))⟩, ⟨(.some 19), (.load .none (t_ 18)), (.some (15, .true))⟩, ⟨(.some 20), (.len .false (t_ 19)), (.some (15, .true))⟩, ⟨(.some 21), (.bin .eql (t_ 20) (.const (.int .i64 0))), (.some (15, .true))⟩, o_ 22 (.pick (t_ 15) (t_ 21) (.const (.bool .false))), o_ 23 (.nilc (t_ 4)), n_ (.store 1 (t_ 23) (t_ 22))]
def f75c : RCode := (.reg .false f75g0)
def f75r : List RRes := []
attribute [push_cast] f75g0
def F_merkle_path_settle_put (N : Nat) (q0 : Merklepath) (q1 : Bool) : Option Bool := if? (q1) (if? (q0.short) (some (false)) (some (((q0.l.length : Int) == 0)))) (some (false))
theorem d_merkle_path_settle_put (N : Nat) (q0 : Merklepath) (q1 : Bool) (r : Bool) (h : F_merkle_path_settle_put N q0 q1 = some r) : DCall Tryd.prog 75 [.ptr (.B 0) 0, .ptr (.B 1) 0] [some (.box ([.D (.L (q0.l.map (rA .u8))), .D (.B q0.short)])), some (.box ([.D (.B q1)]))] (.tup []) [some (.box ([.D (.L (q0.l.map (rA .u8))), .D (.B q0.short)])), some (.box ([.D (.B r)]))] [] := by
  refine DCall.of_bodyW [] (fn := Tryd.f75) (rc := f75c) (rs := f75r) Tryd.func75 rfl rfl (by kernel_rfl) (by kernel_rfl) (by kernel_rfl) (by rw [Tryd.ntmps75]; simp) ?_
  unfold F_merkle_path_settle_put at h
  unfold f75c f75r
  rw [entry_eq _ _]
  rcases F_if h with ⟨h1045, h⟩ | ⟨h1045, h⟩
  rotate_left
  · obtain rfl := Option.some.inj h
    simp (disch := first | assumption | (simp; done) | omega | (simp; omega)) only [push_cast, seval, h1045]
    refine AEndW.of [] (.inl rfl) (by decide) rfl ?_ ?_ ?_
    · simp (disch := first | assumption | (simp; done) | omega | (simp; omega)) only [push_cast, seval, h1045] <;> rfl
    · simp (disch := first | assumption | (simp; done) | omega | (simp; omega)) only [push_cast, seval, h1045] <;> rfl
    · simp (disch := first | assumption | (simp; done) | omega | (simp; omega)) only [push_cast, seval, h1045] <;> rfl
  rcases F_if h with ⟨h1046, h⟩ | ⟨h1046, h⟩
  · obtain rfl := Option.some.inj h
    simp (disch := first | assumption | (simp; done) | omega | (simp; omega)) only [push_cast, seval, h1045, h1046]
    refine AEndW.of [] (.inl rfl) (by decide) rfl ?_ ?_ ?_
    · simp (disch := first | assumption | (simp; done) | omega | (simp; omega)) only [push_cast, seval, h1045, h1046] <;> rfl
    · simp (disch := first | assumption | (simp; done) | omega | (simp; omega)) only [push_cast, seval, h1045, h1046] <;> rfl
    · simp (disch := first | assumption | (simp; done) | omega | (simp; omega)) only [push_cast, seval, h1045, h1046] <;> rfl
  obtain rfl := Option.some.inj h
  simp (disch := first | assumption | (simp; done) | omega | (simp; omega)) only [push_cast, seval, h1045, h1046]
  refine AEndW.of [] (.inl rfl) (by decide) rfl ?_ ?_ ?_
  · simp (disch := first | assumption | (simp; done) | omega | (simp; omega)) only [push_cast, seval, h1045, h1046] <;> rfl
  · simp (disch := first | assumption | (simp; done) | omega | (simp; omega)) only [push_cast, seval, h1045, h1046] <;> rfl
  · simp (disch := first | assumption | (simp; done) | omega | (simp; omega)) only [push_cast, seval, h1045, h1046] <;> rfl

def f28g0 : List RO := [o_ 5 (.boxR (t_ 0)), o_ 9 (.boxR (t_ 4)), o_ 10 (.new [(.D (.B .false))])]
def f28g1 : List RO := [o_ 13 (.mv (t_ 2)), o_ 14 (.bin .lss (t_ 13) (.const (.int .i64 1))), o_ 15 (.mv (t_ 14)), ⟨(.some 16), (.mv (t_ 2)), (.some (15, .false))⟩, ⟨(.some 17), (.bin .gtr (t_ 16) (.const (.int .i64 1099511627776))), (.some (15, .false))⟩, o_ 18 (.pick (t_ 15) (.const (.bool .true)) (t_ 17)), o_ 19 (.mv (t_ 18)), ⟨(.some 20), (.mv (t_ 1)), (.some (19, .false))⟩, ⟨(.some 21), (.bin .lss (t_ 20) (.const (.int .i64 0))), (.some (19, .false))⟩, o_ 22 (.pick (t_ 19) (.const (.bool .true)) (t_ 21)), o_ 23 (.mv (t_ 22)), ⟨(.some 24), (.mv (t_ 1)), (.some (23, .false))⟩, ⟨(.some 25), (.mv (t_ 2)), (.some (23, .false))⟩, ⟨(.some 26), (.bin .geq (t_ 24) (t_ 25)), (.some (23, .false))⟩, o_ 27 (.pick (t_ 23) (.const (.bool .true)) (t_ 26))]
def f28g2 : List RO := [n_ (.store 1 (t_ 10) (.const (.bool .false)))]
def f28g3 : List RO := [o_ 28 (.mv (t_ 3)), o_ 29 (.build [(.fl []), (.D (.B .false))] [(0, (1, (t_ 28)))]), o_ 30 (.box (t_ 29)), o_ 11 (.new [(.D (.C (.pointer .none)))]), n_ (.store 1 (t_ 11) (t_ 30))]
def f28g4 : List RO := [o_ 31 (.load .none (t_ 11))]
def f28g5 : List RO := [o_ 12 (.new [(.D (.C .nilFunc))])]
def f28g6 : List RO := [o_ 32 (.mkf 79 [(t_ 5), (t_ 11), (t_ 12)]), n_ (.store 1 (t_ 12) (t_ 32))]
def f28g7 : List RO := [o_ 33 (.loadS .none (t_ 12)), o_ 34 (.mv (t_ 1)), o_ 35 (.mv (t_ 2)), o_ 36 (.callE (t_ 33) [(t_ 34), (t_ 35)]), o_ 37 (.loadS (.some 16) (t_ 9)), o_ 38 (.eqa .false .u8 16 (t_ 36) (t_ 37)), n_ (.store 1 (t_ 10) (t_ 38))]
def f28p0 : RCode := (.reg .false f28g0)
def f28p1 : RCode := (.seq (.reg .false f28g1) (.cond (t_ 27) (.seq (.reg .false f28g2) .ret) .skip))
def f28p2 : RCode := (.reg .false f28g3)
def f28c : RCode := (.seq (.reg .false f28g5) (.seq (.reg .false f28g6) (.seq (.regS f28g7) .ret)))
def f28r : List RRes := [(.cell .none 10)]
attribute [push_cast] f28g0 f28g1 f28g2 f28g3 f28g4 f28g5 f28g6 f28g7
def F_merkle_CheckInclusion (N : Nat) (p0 : (Arr 16)) (p1 : Int) (p2 : Int) (p3 : (List (Arr 16))) (p4 : (Arr 16)) : Option Bool := if? (decide (p2 < 1)) (some (false)) (if? (decide (p2 > 1099511627776)) (some (false)) (if? (decide (p1 < 0)) (some (false)) (if? (decide (p1 ≥ p2)) (some (false)) (bd? (F_merkle_CheckInclusion_1 N p1 p2 p0 (Merklepath.mk p3 false)) fun v1 => bd? (F_merkle_path_settle_put N v1.2 (v1.1.l == p4.l)) fun v2 => some (v2)))))
theorem c_merkle_CheckInclusion (N : Nat) (p0 : (Arr 16)) (p1 : Int) (p2 : Int) (p3 : (List (Arr 16))) (p4 : (Arr 16)) (r : Bool) (h : F_merkle_CheckInclusion N p0 p1 p2 p3 p4 = some r) : ACall Tryd.prog 28 [.agg (p0.l.map (aI .u8)), .D (.I .i64 p1), .D (.I .i64 p2), .D (.L (p3.map (rA .u8))), .agg (p4.l.map (aI .u8))] [] (.D (.B r)) [] [] := by
  refine ACall.of_bodyK [33, 36, 37] (fn := Tryd.f28) (rcs := [f28p0, f28p1, f28p2]) (ros := f28g4) (rc := f28c) (g := 75) (xs := [.tmp 31, .tmp 10]) (rs := f28r) (N := 39) Tryd.func28 rfl rfl (by kernel_rfl) (by kernel_rfl) (by kernel_rfl) Tryd.ntmps28 (by rw [Tryd.ntmps28]; simp) ?_
  unfold F_merkle_CheckInclusion at h
  unfold f28p0 f28p1 f28p2 f28c f28r
  rw [entry_eq _ _]
  rcases F_if h with ⟨h1047, h⟩ | ⟨h1047, h⟩
  · obtain rfl := Option.some.inj h
    simp (disch := first | assumption | (simp; done) | omega | (simp; omega)) only [push_cast, seval, h1047]
    refine e_ret (.inr rfl) ?_
    simp (disch := first | assumption | (simp; done) | omega | (simp; omega)) only [push_cast, seval, aret, aresults, aresult, h1047]
    refine ⟨_, rfl, ?_⟩
    first | (simp (disch := first | assumption | (simp; done) | omega | (simp; omega)) only [push_cast, seval, h1047] <;> rfl) | rfl
  rcases F_if h with ⟨h1048, h⟩ | ⟨h1048, h⟩
  · obtain rfl := Option.some.inj h
    simp (disch := first | assumption | (simp; done) | omega | (simp; omega)) only [push_cast, seval, h1047, h1048]
    refine e_ret (.inr rfl) ?_
    simp (disch := first | assumption | (simp; done) | omega | (simp; omega)) only [push_cast, seval, aret, aresults, aresult, h1047, h1048]
    refine ⟨_, rfl, ?_⟩
    first | (simp (disch := first | assumption | (simp; done) | omega | (simp; omega)) only [push_cast, seval, h1047, h1048] <;> rfl) | rfl
  rcases F_if h with ⟨h1049, h⟩ | ⟨h1049, h⟩
  · obtain rfl := Option.some.inj h
    simp (disch := first | assumption | (simp; done) | omega | (simp; omega)) only [push_cast, seval, h1047, h1048, h1049]
    refine e_ret (.inr rfl) ?_
    simp (disch := first | assumption | (simp; done) | omega | (simp; omega)) only [push_cast, seval, aret, aresults, aresult, h1047, h1048, h1049]
    refine ⟨_, rfl, ?_⟩
    first | (simp (disch := first | assumption | (simp; done) | omega | (simp; omega)) only [push_cast, seval, h1047, h1048, h1049] <;> rfl) | rfl
  rcases F_if h with ⟨h1050, h⟩ | ⟨h1050, h⟩
  · obtain rfl := Option.some.inj h
    simp (disch := first | assumption | (simp; done) | omega | (simp; omega)) only [push_cast, seval, h1047, h1048, h1049, h1050]
    refine e_ret (.inr rfl) ?_
    simp (disch := first | assumption | (simp; done) | omega | (simp; omega)) only [push_cast, seval, aret, aresults, aresult, h1047, h1048, h1049, h1050]
    refine ⟨_, rfl, ?_⟩
    first | (simp (disch := first | assumption | (simp; done) | omega | (simp; omega)) only [push_cast, seval, h1047, h1048, h1049, h1050] <;> rfl) | rfl
  simp (disch := first | assumption | (simp; done) | omega | (simp; omega)) only [push_cast, seval, h1047, h1048, h1049, h1050]
  refine regS_of true [.O 5, .O 1] (by rfl) ?_
  obtain ⟨v1, h1051, h⟩ := F_bd h
  simp (disch := first | assumption | (simp; done) | omega | (simp; omega)) only [push_cast, seval, h1047, h1048, h1049, h1050]
  refine callE_of [.O 0, .O 4, .O 3, .O 5] (by rfl) (c_merkle_CheckInclusion_1 N _ _ _ _ _ h1051) (by decide) rfl (by simp (disch := first | assumption | (simp; done) | omega | (simp; omega)) only [push_cast, seval] <;> rfl) (by simp (maxSteps := 999999) (disch := first | assumption | (simp; done) | omega | (simp; omega)) only [push_cast, seval] <;> rfl) ?_ ?_ ?_
  · simp (disch := first | assumption | (simp; done) | omega | (simp; omega)) only [push_cast, seval, h1047, h1048, h1049, h1050] <;> rfl
  · simp (disch := first | assumption | (simp; done) | omega | (simp; omega)) only [push_cast, seval, h1047, h1048, h1049, h1050] <;> rfl
  obtain ⟨v2, h1052, h⟩ := F_bd h
  simp (disch := first | assumption | (simp; done) | omega | (simp; omega)) only [push_cast, seval, h1047, h1048, h1049, h1050]
  refine DEnd.of [.O 3, .O 2] (.inr rfl) (d_merkle_path_settle_put N _ _ _ h1052) (by decide) rfl ?_ ?_ ?_ ?_
  · simp (disch := first | assumption | (simp; done) | omega | (simp; omega)) only [push_cast, seval, h1047, h1048, h1049, h1050] <;> rfl
  · simp (disch := first | assumption | (simp; done) | omega | (simp; omega)) only [push_cast, seval, h1047, h1048, h1049, h1050] <;> rfl
  · simp (disch := first | assumption | (simp; done) | omega | (simp; omega)) only [push_cast, seval, h1047, h1048, h1049, h1050] <;> rfl
  obtain rfl := Option.some.inj h
  simp (disch := first | assumption | (simp; done) | omega | (simp; omega)) only [push_cast, seval, h1047, h1048, h1049, h1050]
  refine e_ret (.inr rfl) ?_
  simp (disch := first | assumption | (simp; done) | omega | (simp; omega)) only [push_cast, seval, aret, aresults, aresult, h1047, h1048, h1049, h1050]
  refine ⟨_, rfl, ?_⟩
  first | (simp (disch := first | assumption | (simp; done) | omega | (simp; omega)) only [push_cast, seval, h1047, h1048, h1049, h1050] <;> rfl) | rfl

def f81g0 : List RO := [o_ 9 (.newR ((Arr.zero 16).l.map (aI .u8))), o_ 10 (.newR ((Arr.zero 16).l.map (aI .u8)))]
def f81g1 : List RO := [o_ 18 (.mv (t_ 0)), o_ 19 (.mv (t_ 1)), o_ 20 (.bin .eql (t_ 18) (t_ 19))]
def f81g2 : List RO := [o_ 21 (.load (.some 16) (t_ 3)), o_ 11 (.newR ((Arr.zero 16).l.map (aI .u8))), n_ (.store 16 (t_ 11) (t_ 21))]
def f81g3 : List RO := [o_ 22 (.mv (t_ 2)), o_ 23 (.un .not (t_ 22))]
def f81g4 : List RO := [o_ 24 (.load .none (t_ 4)), o_ 25 (.callE (.func 80) [(t_ 24)]), n_ (.store 16 (t_ 11) (t_ 25))]
def f81g5 : List RO := [o_ 26 (.loadS (.some 16) (t_ 11)), o_ 27 (.loadS (.some 16) (t_ 11)), n_ (.store 16 (t_ 9) (t_ 26)), n_ (.store 16 (t_ 10) (t_ 27))]
def f81g6 : List RO := [o_ 28 (.mv (t_ 1)), o_ 29 (.call (.func 61) [(t_ 28)]), o_ 30 (.load .none (t_ 4)), o_ 31 (.callE (.func 80) [(t_ 30)]), o_ 13 (.newR ((Arr.zero 16).l.map (aI .u8))), o_ 12 (.mv (t_ 29)), n_ (.store 16 (t_ 13) (t_ 31))]
def f81g7 : List RO := [o_ 32 (.mv (t_ 0)), o_ 33 (.mv (t_ 12)), o_ 34 (.bin .leq (t_ 32) (t_ 33))]
def f81g8 : List RO := [o_ 36 (.load .none (t_ 5)), o_ 37 (.mv (t_ 0)), o_ 38 (.mv (t_ 12)), o_ 39 (.mv (t_ 2)), o_ 40 (.callE (t_ 36) [(t_ 37), (t_ 38), (t_ 39)]), o_ 35 (.mv (t_ 40)), o_ 41 (.ext (t_ 35) 0), o_ 42 (.ext (t_ 35) 1), o_ 14 (.newR ((Arr.zero 16).l.map (aI .u8))), o_ 15 (.newR ((Arr.zero 16).l.map (aI .u8))), n_ (.store 16 (t_ 14) (t_ 41)), n_ (.store 16 (t_ 15) (t_ 42))]
def f81g9 : List RO := [o_ 43 (.load (.some 16) (t_ 14)), o_ 44 (.load (.some 16) (t_ 15)), o_ 45 (.load (.some 16) (t_ 13)), o_ 46 (.call (.func 22) [(t_ 44), (t_ 45)]), n_ (.store 16 (t_ 9) (t_ 43)), n_ (.store 16 (t_ 10) (t_ 46))]
def f81g10 : List RO := [o_ 48 (.load .none (t_ 5)), o_ 49 (.mv (t_ 0)), o_ 50 (.mv (t_ 12)), o_ 51 (.bin .sub (t_ 49) (t_ 50)), o_ 52 (.mv (t_ 1)), o_ 53 (.mv (t_ 12)), o_ 54 (.bin .sub (t_ 52) (t_ 53)), o_ 55 (.callE (t_ 48) [(t_ 51), (t_ 54), (.const (.bool .false))]), o_ 47 (.mv (t_ 55)), o_ 56 (.ext (t_ 47) 0), o_ 57 (.ext (t_ 47) 1), o_ 16 (.newR ((Arr.zero 16).l.map (aI .u8))), o_ 17 (.newR ((Arr.zero 16).l.map (aI .u8))), n_ (.store 16 (t_ 16) (t_ 56)), n_ (.store 16 (t_ 17) (t_ 57))]
def f81g11 : List RO := [o_ 58 (.load (.some 16) (t_ 13)), o_ 59 (.load (.some 16) (t_ 16)), o_ 60 (.call (.func 22) [(t_ 58), (t_ 59)]), o_ 61 (.load (.some 16) (t_ 13)), o_ 62 (.load (.some 16) (t_ 17)), o_ 63 (.call (.func 22) [(t_ 61), (t_ 62)]), n_ (.store 16 (t_ 9) (t_ 60)), n_ (.store 16 (t_ 10) (t_ 63))]
def f81c : RCode := (.seq (.reg .false f81g0) (.seq (.seq (.reg .false f81g1) (.cond (t_ 20) (.seq (.reg .false f81g2) (.seq (.seq (.reg .false f81g3) (.cond (t_ 23) (.reg .false f81g4) .skip)) (.seq (.regS f81g5) .ret))) .skip)) (.seq (.reg .true f81g6) (.seq (.seq (.reg .false f81g7) (.cond (t_ 34) (.seq (.reg .false f81g8) (.seq (.reg .true f81g9) .ret)) .skip)) (.seq (.reg .false f81g10) (.seq (.reg .true f81g11) .ret))))))
def f81r : List RRes := [(.cell (.some 16) 9), (.cell (.some 16) 10)]
attribute [push_cast] f81g0 f81g1 f81g2 f81g3 f81g4 f81g5 f81g6 f81g7 f81g8 f81g9 f81g10 f81g11
def F_merkle_CheckConsistency_1_r (N : Nat) : Nat → Int → Int → Bool → (Arr 16) → Merklepath → Option ((Arr 16) × (Arr 16) × Merklepath)
  | 0, _, _, _, _, _ => none
  | dd + 1, p0, p1, p2, q0, q2 => if? ((p0 == p1)) (if? (p2) (some (q0, q0, q2)) (bd? (F_merkle_path_last N q2) fun v1 => some (v1.1, v1.1, v1.2))) (bd? (F_merkle_split N p1) fun v2 => bd? (F_merkle_path_last N q2) fun v3 => if? (decide (p0 ≤ v2)) (bd? (F_merkle_CheckConsistency_1_r N dd p0 v2 p2 q0 v3.2) fun v4 => bd? (F_merkle_Node N v4.2.1 v3.1) fun v5 => some (v4.1, v5, v4.2.2)) (ck .i64 (p0 - v2) (ck .i64 (p1 - v2) (bd? (F_merkle_CheckConsistency_1_r N dd (p0 - v2) (p1 - v2) false q0 v3.2) fun v6 => bd? (F_merkle_Node N v3.1 v6.1) fun v7 => bd? (F_merkle_Node N v3.1 v6.2.1) fun v8 => some (v7, v8, v6.2.2)))))
def F_merkle_CheckConsistency_1 (N : Nat) (p0 : Int) (p1 : Int) (p2 : Bool) (q0 : (Arr 16)) (q2 : Merklepath) : Option ((Arr 16) × (Arr 16) × Merklepath) := F_merkle_CheckConsistency_1_r N N p0 p1 p2 q0 q2
theorem c_merkle_CheckConsistency_1_r (N dd : Nat) : ∀ (p0 : Int) (p1 : Int) (p2 : Bool) (q0 : (Arr 16)) (q2 : Merklepath) (r : ((Arr 16) × (Arr 16) × Merklepath)), F_merkle_CheckConsistency_1_r N dd p0 p1 p2 q0 q2 = some r → ACall Tryd.prog 81 [.D (.I .i64 p0), .D (.I .i64 p1), .D (.B p2), .eptr (.B 0) 1 0 0, .ptr (.B 1) 0, .ptr (.B 3) 0] [some (.row true 1 (q0.l.map (rI .u8))), some (.box ([.ptr (.B 2) 0])), some (.box ([.D (.L (q2.l.map (rA .u8))), .D (.B q2.short)])), some (.box ([.clo 81 [.eptr (.B 0) 1 0 0, .ptr (.B 1) 0, .ptr (.B 3) 0]]))] (.tup [.agg (r.1.l.map (aI .u8)), .agg (r.2.1.l.map (aI .u8))]) [some (.row true 1 (q0.l.map (rI .u8))), some (.box ([.ptr (.B 2) 0])), some (.box ([.D (.L (r.2.2.l.map (rA .u8))), .D (.B r.2.2.short)])), some (.box ([.clo 81 [.eptr (.B 0) 1 0 0, .ptr (.B 1) 0, .ptr (.B 3) 0]]))] [] := by
  induction dd with
  | zero => intro p0 p1 p2 q0 q2 r h; exact absurd h (by simp [F_merkle_CheckConsistency_1_r])
  | succ dd ih =>
  intro p0 p1 p2 q0 q2 r h
  refine ACall.of_bodyW [25, 26, 27, 31, 40, 55] (fn := Tryd.f81) (rc := f81c) (rs := f81r) Tryd.func81 rfl rfl (by kernel_rfl) (by kernel_rfl) (by kernel_rfl) (by rw [Tryd.ntmps81]; simp) ?_
  rw [F_merkle_CheckConsistency_1_r] at h
  unfold f81c f81r
  rw [entry_eq _ _]
  rcases F_if h with ⟨h1053, h⟩ | ⟨h1053, h⟩
  · rcases F_if h with ⟨h1054, h⟩ | ⟨h1054, h⟩
    · simp (disch := first | assumption | (simp; done) | omega | (simp; omega)) only [push_cast, seval, h1053, h1054]
      refine regS_of true [.O 2] (by rfl) ?_
      obtain rfl := Option.some.inj h
      simp (disch := first | assumption | (simp; done) | omega | (simp; omega)) only [push_cast, seval, h1053, h1054]
      refine AEndW.of2 [] (.inr rfl) (by decide) ?_ ?_ ?_
      · simp (disch := first | assumption | (simp; done) | omega | (simp; omega)) only [push_cast, seval, aret, aresults, aresult, h1053, h1054]
        refine ⟨_, rfl, ?_⟩
        first | (simp (disch := first | assumption | (simp; done) | omega | (simp; omega)) only [push_cast, seval, h1053, h1054] <;> rfl) | rfl
      · simp (disch := first | assumption | (simp; done) | omega | (simp; omega)) only [push_cast, seval, h1053, h1054] <;> rfl
      · simp (disch := first | assumption | (simp; done) | omega | (simp; omega)) only [push_cast, seval, h1053, h1054] <;> rfl
    obtain ⟨v1, h1055, h⟩ := F_bd h
    simp (disch := first | assumption | (simp; done) | omega | (simp; omega)) only [push_cast, seval, h1053, h1054]
    refine callE_of [.B 2] (by rfl) (c_merkle_path_last N _ _ h1055) (by decide) rfl (by simp (disch := first | assumption | (simp; done) | omega | (simp; omega)) only [push_cast, seval] <;> rfl) (by simp (maxSteps := 999999) (disch := first | assumption | (simp; done) | omega | (simp; omega)) only [push_cast, seval] <;> rfl) ?_ ?_ ?_
    · simp (disch := first | assumption | (simp; done) | omega | (simp; omega)) only [push_cast, seval, h1053, h1054] <;> rfl
    · simp (disch := first | assumption | (simp; done) | omega | (simp; omega)) only [push_cast, seval, h1053, h1054] <;> rfl
    simp (disch := first | assumption | (simp; done) | omega | (simp; omega)) only [push_cast, seval, h1053, h1054]
    refine regS_of true [.O 2] (by rfl) ?_
    obtain rfl := Option.some.inj h
    simp (disch := first | assumption | (simp; done) | omega | (simp; omega)) only [push_cast, seval, h1053, h1054]
    refine AEndW.of2 [] (.inr rfl) (by decide) ?_ ?_ ?_
    · simp (disch := first | assumption | (simp; done) | omega | (simp; omega)) only [push_cast, seval, aret, aresults, aresult, h1053, h1054]
      refine ⟨_, rfl, ?_⟩
      first | (simp (disch := first | assumption | (simp; done) | omega | (simp; omega)) only [push_cast, seval, h1053, h1054] <;> rfl) | rfl
    · simp (disch := first | assumption | (simp; done) | omega | (simp; omega)) only [push_cast, seval, h1053, h1054] <;> rfl
    · simp (disch := first | assumption | (simp; done) | omega | (simp; omega)) only [push_cast, seval, h1053, h1054] <;> rfl
  obtain ⟨v2, h1056, h⟩ := F_bd h
  simp (disch := first | assumption | (simp; done) | omega | (simp; omega)) only [push_cast, seval, h1053]
  refine call_flat (by rfl) (c_merkle_split N _ _ h1056) ?_ rfl ?_
  · simp (disch := first | assumption | (simp; done) | omega | (simp; omega)) only [push_cast, seval, h1053] <;> rfl
  obtain ⟨v3, h1057, h⟩ := F_bd h
  simp (disch := first | assumption | (simp; done) | omega | (simp; omega)) only [push_cast, seval, h1053]
  refine callE_of [.B 2] (by rfl) (c_merkle_path_last N _ _ h1057) (by decide) rfl (by simp (disch := first | assumption | (simp; done) | omega | (simp; omega)) only [push_cast, seval] <;> rfl) (by simp (maxSteps := 999999) (disch := first | assumption | (simp; done) | omega | (simp; omega)) only [push_cast, seval] <;> rfl) ?_ ?_ ?_
  · simp (disch := first | assumption | (simp; done) | omega | (simp; omega)) only [push_cast, seval, h1053] <;> rfl
  · simp (disch := first | assumption | (simp; done) | omega | (simp; omega)) only [push_cast, seval, h1053] <;> rfl
  rcases F_if h with ⟨h1058, h⟩ | ⟨h1058, h⟩
  · obtain ⟨v4, h1059, h⟩ := F_bd h
    simp (disch := first | assumption | (simp; done) | omega | (simp; omega)) only [push_cast, seval, h1053, h1058]
    refine callE_of [.B 0, .B 1, .B 2, .B 3] (by rfl) (ih _ _ _ _ _ _ h1059) (by decide) rfl (by simp (disch := first | assumption | (simp; done) | omega | (simp; omega)) only [push_cast, seval] <;> rfl) (by simp (maxSteps := 999999) (disch := first | assumption | (simp; done) | omega | (simp; omega)) only [push_cast, seval] <;> rfl) ?_ ?_ ?_
    · simp (disch := first | assumption | (simp; done) | omega | (simp; omega)) only [push_cast, seval, h1053, h1058] <;> rfl
    · simp (disch := first | assumption | (simp; done) | omega | (simp; omega)) only [push_cast, seval, h1053, h1058] <;> rfl
    obtain ⟨v5, h1060, h⟩ := F_bd h
    simp (disch := first | assumption | (simp; done) | omega | (simp; omega)) only [push_cast, seval, h1053, h1058]
    refine call_flat (by rfl) (c_merkle_Node N _ _ _ h1060) ?_ (by simp [AV.flat, AV.flatL, flatL_aI, flatL_app, DV.flat]) ?_
    · simp (disch := first | assumption | (simp; done) | omega | (simp; omega)) only [push_cast, seval, h1053, h1058] <;> rfl
    obtain rfl := Option.some.inj h
    simp (disch := first | assumption | (simp; done) | omega | (simp; omega)) only [push_cast, seval, h1053, h1058]
    refine AEndW.of2 [] (.inr rfl) (by decide) ?_ ?_ ?_
    · simp (disch := first | assumption | (simp; done) | omega | (simp; omega)) only [push_cast, seval, aret, aresults, aresult, h1053, h1058]
      refine ⟨_, rfl, ?_⟩
      first | (simp (disch := first | assumption | (simp; done) | omega | (simp; omega)) only [push_cast, seval, h1053, h1058] <;> rfl) | rfl
    · simp (disch := first | assumption | (simp; done) | omega | (simp; omega)) only [push_cast, seval, h1053, h1058] <;> rfl
    · simp (disch := first | assumption | (simp; done) | omega | (simp; omega)) only [push_cast, seval, h1053, h1058] <;> rfl
  obtain ⟨h1061, h⟩ := F_ck h
  try simp (disch := first | assumption | (simp; done) | omega | (simp; omega)) only [push_cast, seval] at h1061
  obtain ⟨h1062, h⟩ := F_ck h
  try simp (disch := first | assumption | (simp; done) | omega | (simp; omega)) only [push_cast, seval] at h1062
  obtain ⟨v6, h1063, h⟩ := F_bd h
  simp (disch := first | assumption | (simp; done) | omega | (simp; omega)) only [push_cast, seval, h1053, h1058, h1061, h1062]
  refine callE_of [.B 0, .B 1, .B 2, .B 3] (by rfl) (ih _ _ _ _ _ _ h1063) (by decide) rfl (by simp (disch := first | assumption | (simp; done) | omega | (simp; omega)) only [push_cast, seval] <;> rfl) (by simp (maxSteps := 999999) (disch := first | assumption | (simp; done) | omega | (simp; omega)) only [push_cast, seval] <;> rfl) ?_ ?_ ?_
  · simp (disch := first | assumption | (simp; done) | omega | (simp; omega)) only [push_cast, seval, h1053, h1058, h1061, h1062] <;> rfl
  · simp (disch := first | assumption | (simp; done) | omega | (simp; omega)) only [push_cast, seval, h1053, h1058, h1061, h1062] <;> rfl
  obtain ⟨v7, h1064, h⟩ := F_bd h
  simp (disch := first | assumption | (simp; done) | omega | (simp; omega)) only [push_cast, seval, h1053, h1058, h1061, h1062]
  refine call_flat (by rfl) (c_merkle_Node N _ _ _ h1064) ?_ (by simp [AV.flat, AV.flatL, flatL_aI, flatL_app, DV.flat]) ?_
  · simp (disch := first | assumption | (simp; done) | omega | (simp; omega)) only [push_cast, seval, h1053, h1058, h1061, h1062] <;> rfl
  obtain ⟨v8, h1065, h⟩ := F_bd h
  simp (disch := first | assumption | (simp; done) | omega | (simp; omega)) only [push_cast, seval, h1053, h1058, h1061, h1062]
  refine call_flat (by rfl) (c_merkle_Node N _ _ _ h1065) ?_ (by simp [AV.flat, AV.flatL, flatL_aI, flatL_app, DV.flat]) ?_
  · simp (disch := first | assumption | (simp; done) | omega | (simp; omega)) only [push_cast, seval, h1053, h1058, h1061, h1062] <;> rfl
  obtain rfl := Option.some.inj h
  simp (disch := first | assumption | (simp; done) | omega | (simp; omega)) only [push_cast, seval, h1053, h1058, h1061, h1062]
  refine AEndW.of2 [] (.inr rfl) (by decide) ?_ ?_ ?_
  · simp (disch := first | assumption | (simp; done) | omega | (simp; omega)) only [push_cast, seval, aret, aresults, aresult, h1053, h1058, h1061, h1062]
    refine ⟨_, rfl, ?_⟩
    first | (simp (disch := first | assumption | (simp; done) | omega | (simp; omega)) only [push_cast, seval, h1053, h1058, h1061, h1062] <;> rfl) | rfl
  · simp (disch := first | assumption | (simp; done) | omega | (simp; omega)) only [push_cast, seval, h1053, h1058, h1061, h1062] <;> rfl
  · simp (disch := first | assumption | (simp; done) | omega | (simp; omega)) only [push_cast, seval, h1053, h1058, h1061, h1062] <;> rfl
theorem c_merkle_CheckConsistency_1 (N : Nat) (p0 : Int) (p1 : Int) (p2 : Bool) (q0 : (Arr 16)) (q2 : Merklepath) (r : ((Arr 16) × (Arr 16) × Merklepath)) (h : F_merkle_CheckConsistency_1 N p0 p1 p2 q0 q2 = some r) : ACall Tryd.prog 81 [.D (.I .i64 p0), .D (.I .i64 p1), .D (.B p2), .eptr (.B 0) 1 0 0, .ptr (.B 1) 0, .ptr (.B 3) 0] [some (.row true 1 (q0.l.map (rI .u8))), some (.box ([.ptr (.B 2) 0])), some (.box ([.D (.L (q2.l.map (rA .u8))), .D (.B q2.short)])), some (.box ([.clo 81 [.eptr (.B 0) 1 0 0, .ptr (.B 1) 0, .ptr (.B 3) 0]]))] (.tup [.agg (r.1.l.map (aI .u8)), .agg (r.2.1.l.map (aI .u8))]) [some (.row true 1 (q0.l.map (rI .u8))), some (.box ([.ptr (.B 2) 0])), some (.box ([.D (.L (r.2.2.l.map (rA .u8))), .D (.B r.2.2.short)])), some (.box ([.clo 81 [.eptr (.B 0) 1 0 0, .ptr (.B 1) 0, .ptr (.B 3) 0]]))] [] := c_merkle_CheckConsistency_1_r N N p0 p1 p2 q0 q2 r h

def f29g0 : List RO := [o_ 7 (.boxR (t_ 2)), o_ 8 (.boxR (t_ 3)), o_ 10 (.new [(.D (.B .false))])]
def f29g1 : List RO := [o_ 15 (.mv (t_ 0)), o_ 16 (.bin .lss (t_ 15) (.const (.int .i64 0))), o_ 17 (.mv (t_ 16)), ⟨(.some 18), (.mv (t_ 0)), (.some (17, .false))⟩, ⟨(.some 19), (.mv (t_ 1)), (.some (17, .false))⟩, ⟨(.some 20), (.bin .gtr (t_ 18) (t_ 19)), (.some (17, .false))⟩, o_ 21 (.pick (t_ 17) (.const (.bool .true)) (t_ 20)), o_ 22 (.mv (t_ 21)), ⟨(.some 23), (.mv (t_ 1)), (.some (22, .false))⟩, ⟨(.some 24), (.bin .gtr (t_ 23) (.const (.int .i64 1099511627776))), (.some (22, .false))⟩, o_ 25 (.pick (t_ 22) (.const (.bool .true)) (t_ 24))]
def f29g2 : List RO := [n_ (.store 1 (t_ 10) (.const (.bool .false)))]
def f29g3 : List RO := [o_ 26 (.mv (t_ 4)), o_ 27 (.build [(.fl []), (.D (.B .false))] [(0, (1, (t_ 26)))]), o_ 28 (.box (t_ 27)), o_ 11 (.new [(.D (.C (.pointer .none)))]), n_ (.store 1 (t_ 11) (t_ 28))]
def f29g4 : List RO := [o_ 29 (.load .none (t_ 11))]
def f29g5 : List RO := [o_ 30 (.mv (t_ 0)), o_ 31 (.bin .eql (t_ 30) (.const (.int .i64 0)))]
def f29g6 : List RO := [o_ 32 (.load (.some 16) (t_ 7)), o_ 33 (.call (.func 66) []), o_ 34 (.eqa .false .u8 16 (t_ 32) (t_ 33)), n_ (.store 1 (t_ 10) (t_ 34))]
def f29g7 : List RO := [o_ 12 (.new [(.D (.C .nilFunc))])]
def f29g8 : List RO := [o_ 35 (.mkf 81 [(t_ 7), (t_ 11), (t_ 12)]), n_ (.store 1 (t_ 12) (t_ 35))]
def f29g9 : List RO := [o_ 37 (.load .none (t_ 12)), o_ 38 (.mv (t_ 0)), o_ 39 (.mv (t_ 1)), o_ 40 (.callE (t_ 37) [(t_ 38), (t_ 39), (.const (.bool .true))]), o_ 36 (.mv (t_ 40)), o_ 41 (.ext (t_ 36) 0), o_ 42 (.ext (t_ 36) 1), o_ 13 (.newR ((Arr.zero 16).l.map (aI .u8))), o_ 14 (.newR ((Arr.zero 16).l.map (aI .u8))), n_ (.store 16 (t_ 13) (t_ 41)), n_ (.store 16 (t_ 14) (t_ 42))]
def f29g10 : List RO := [o_ 43 (.load (.some 16) (t_ 13)), o_ 44 (.load (.some 16) (t_ 7)), o_ 45 (.eqa .false .u8 16 (t_ 43) (t_ 44)), o_ 46 (.mv (t_ 45)), ⟨(.some 47), (.load (.some 16) (t_ 14)), (.some (46, .true))⟩, ⟨(.some 48), (.load (.some 16) (t_ 8)), (.some (46, .true))⟩, ⟨(.some 49), (.eqa .false .u8 16 (t_ 47) (t_ 48)), (.some (46, .true))⟩, o_ 50 (.pick (t_ 46) (t_ 49) (.const (.bool .false))), n_ (.store 1 (t_ 10) (t_ 50))]
def f29p0 : RCode := (.reg .false f29g0)
def f29p1 : RCode := (.seq (.reg .false f29g1) (.cond (t_ 25) (.seq (.reg .false f29g2) .ret) .skip))
def f29p2 : RCode := (.reg .false f29g3)
def f29c : RCode := (.seq (.seq (.reg .false f29g5) (.cond (t_ 31) (.seq (.reg .true f29g6) .ret) .skip)) (.seq (.reg .false f29g7) (.seq (.reg .false f29g8) (.seq (.reg .false f29g9) (.seq (.reg .false f29g10) .ret)))))
def f29r : List RRes := [(.cell .none 10)]
attribute [push_cast] f29g0 f29g1 f29g2 f29g3 f29g4 f29g5 f29g6 f29g7 f29g8 f29g9 f29g10
def F_merkle_CheckConsistency (N : Nat) (p0 : Int) (p1 : Int) (p2 : (Arr 16)) (p3 : (Arr 16)) (p4 : (List (Arr 16))) : Option Bool := if? (decide (p0 < 0)) (some (false)) (if? (decide (p0 > p1)) (some (false)) (if? (decide (p1 > 1099511627776)) (some (false)) (if? ((p0 == 0)) (bd? (F_merkle_empty N ) fun v1 => bd? (F_merkle_path_settle_put N (Merklepath.mk p4 false) (p2.l == v1.l)) fun v2 => some (v2)) (bd? (F_merkle_CheckConsistency_1 N p0 p1 true p2 (Merklepath.mk p4 false)) fun v3 => if? ((v3.1.l == p2.l)) (bd? (F_merkle_path_settle_put N v3.2.2 (v3.2.1.l == p3.l)) fun v4 => some (v4)) (bd? (F_merkle_path_settle_put N v3.2.2 false) fun v5 => some (v5))))))
theorem c_merkle_CheckConsistency (N : Nat) (p0 : Int) (p1 : Int) (p2 : (Arr 16)) (p3 : (Arr 16)) (p4 : (List (Arr 16))) (r : Bool) (h : F_merkle_CheckConsistency N p0 p1 p2 p3 p4 = some r) : ACall Tryd.prog 29 [.D (.I .i64 p0), .D (.I .i64 p1), .agg (p2.l.map (aI .u8)), .agg (p3.l.map (aI .u8)), .D (.L (p4.map (rA .u8)))] [] (.D (.B r)) [] [] := by
  refine ACall.of_bodyK [40] (fn := Tryd.f29) (rcs := [f29p0, f29p1, f29p2]) (ros := f29g4) (rc := f29c) (g := 75) (xs := [.tmp 29, .tmp 10]) (rs := f29r) (N := 51) Tryd.func29 rfl rfl (by kernel_rfl) (by kernel_rfl) (by kernel_rfl) Tryd.ntmps29 (by rw [Tryd.ntmps29]; simp) ?_
  unfold F_merkle_CheckConsistency at h
  unfold f29p0 f29p1 f29p2 f29c f29r
  rw [entry_eq _ _]
  rcases F_if h with ⟨h1066, h⟩ | ⟨h1066, h⟩
  · obtain rfl := Option.some.inj h
    simp (disch := first | assumption | (simp; done) | omega | (simp; omega)) only [push_cast, seval, h1066]
    refine e_ret (.inr rfl) ?_
    simp (disch := first | assumption | (simp; done) | omega | (simp; omega)) only [push_cast, seval, aret, aresults, aresult, h1066]
    refine ⟨_, rfl, ?_⟩
    first | (simp (disch := first | assumption | (simp; done) | omega | (simp; omega)) only [push_cast, seval, h1066] <;> rfl) | rfl
  rcases F_if h with ⟨h1067, h⟩ | ⟨h1067, h⟩
  · obtain rfl := Option.some.inj h
    simp (disch := first | assumption | (simp; done) | omega | (simp; omega)) only [push_cast, seval, h1066, h1067]
    refine e_ret (.inr rfl) ?_
    simp (disch := first | assumption | (simp; done) | omega | (simp; omega)) only [push_cast, seval, aret, aresults, aresult, h1066, h1067]
    refine ⟨_, rfl, ?_⟩
    first | (simp (disch := first | assumption | (simp; done) | omega | (simp; omega)) only [push_cast, seval, h1066, h1067] <;> rfl) | rfl
  rcases F_if h with ⟨h1068, h⟩ | ⟨h1068, h⟩
  · obtain rfl := Option.some.inj h
    simp (disch := first | assumption | (simp; done) | omega | (simp; omega)) only [push_cast, seval, h1066, h1067, h1068]
    refine e_ret (.inr rfl) ?_
    simp (disch := first | assumption | (simp; done) | omega | (simp; omega)) only [push_cast, seval, aret, aresults, aresult, h1066, h1067, h1068]
    refine ⟨_, rfl, ?_⟩
    first | (simp (disch := first | assumption | (simp; done) | omega | (simp; omega)) only [push_cast, seval, h1066, h1067, h1068] <;> rfl) | rfl
  rcases F_if h with ⟨h1069, h⟩ | ⟨h1069, h⟩
  · obtain ⟨v1, h1070, h⟩ := F_bd h
    simp (disch := first | assumption | (simp; done) | omega | (simp; omega)) only [push_cast, seval, h1066, h1067, h1068, h1069]
    refine call_flat (by rfl) (c_merkle_empty N _ h1070) ?_ (by simp [AV.flat, AV.flatL, flatL_aI, flatL_app, DV.flat]) ?_
    · simp (disch := first | assumption | (simp; done) | omega | (simp; omega)) only [push_cast, seval, h1066, h1067, h1068, h1069] <;> rfl
    obtain ⟨v2, h1071, h⟩ := F_bd h
    simp (disch := first | assumption | (simp; done) | omega | (simp; omega)) only [push_cast, seval, h1066, h1067, h1068, h1069]
    refine DEnd.of [.O 3, .O 2] (.inr rfl) (d_merkle_path_settle_put N _ _ _ h1071) (by decide) rfl ?_ ?_ ?_ ?_
    · simp (disch := first | assumption | (simp; done) | omega | (simp; omega)) only [push_cast, seval, h1066, h1067, h1068, h1069] <;> rfl
    · simp (disch := first | assumption | (simp; done) | omega | (simp; omega)) only [push_cast, seval, h1066, h1067, h1068, h1069] <;> rfl
    · simp (disch := first | assumption | (simp; done) | omega | (simp; omega)) only [push_cast, seval, h1066, h1067, h1068, h1069] <;> rfl
    obtain rfl := Option.some.inj h
    simp (disch := first | assumption | (simp; done) | omega | (simp; omega)) only [push_cast, seval, h1066, h1067, h1068, h1069]
    refine e_ret (.inr rfl) ?_
    simp (disch := first | assumption | (simp; done) | omega | (simp; omega)) only [push_cast, seval, aret, aresults, aresult, h1066, h1067, h1068, h1069]
    refine ⟨_, rfl, ?_⟩
    first | (simp (disch := first | assumption | (simp; done) | omega | (simp; omega)) only [push_cast, seval, h1066, h1067, h1068, h1069] <;> rfl) | rfl
  obtain ⟨v3, h1072, h⟩ := F_bd h
  simp (disch := first | assumption | (simp; done) | omega | (simp; omega)) only [push_cast, seval, h1066, h1067, h1068, h1069]
  refine callE_of [.O 0, .O 4, .O 3, .O 5] (by rfl) (c_merkle_CheckConsistency_1 N _ _ _ _ _ _ h1072) (by decide) rfl (by simp (disch := first | assumption | (simp; done) | omega | (simp; omega)) only [push_cast, seval] <;> rfl) (by simp (maxSteps := 999999) (disch := first | assumption | (simp; done) | omega | (simp; omega)) only [push_cast, seval] <;> rfl) ?_ ?_ ?_
  · simp (disch := first | assumption | (simp; done) | omega | (simp; omega)) only [push_cast, seval, h1066, h1067, h1068, h1069] <;> rfl
  · simp (disch := first | assumption | (simp; done) | omega | (simp; omega)) only [push_cast, seval, h1066, h1067, h1068, h1069] <;> rfl
  rcases F_if h with ⟨h1073, h⟩ | ⟨h1073, h⟩
  · obtain ⟨v4, h1074, h⟩ := F_bd h
    simp (disch := first | assumption | (simp; done) | omega | (simp; omega)) only [push_cast, seval, h1066, h1067, h1068, h1069, h1073]
    refine DEnd.of [.O 3, .O 2] (.inr rfl) (d_merkle_path_settle_put N _ _ _ h1074) (by decide) rfl ?_ ?_ ?_ ?_
    · simp (disch := first | assumption | (simp; done) | omega | (simp; omega)) only [push_cast, seval, h1066, h1067, h1068, h1069, h1073] <;> rfl
    · simp (disch := first | assumption | (simp; done) | omega | (simp; omega)) only [push_cast, seval, h1066, h1067, h1068, h1069, h1073] <;> rfl
    · simp (disch := first | assumption | (simp; done) | omega | (simp; omega)) only [push_cast, seval, h1066, h1067, h1068, h1069, h1073] <;> rfl
    obtain rfl := Option.some.inj h
    simp (disch := first | assumption | (simp; done) | omega | (simp; omega)) only [push_cast, seval, h1066, h1067, h1068, h1069, h1073]
    refine e_ret (.inr rfl) ?_
    simp (disch := first | assumption | (simp; done) | omega | (simp; omega)) only [push_cast, seval, aret, aresults, aresult, h1066, h1067, h1068, h1069, h1073]
    refine ⟨_, rfl, ?_⟩
    first | (simp (disch := first | assumption | (simp; done) | omega | (simp; omega)) only [push_cast, seval, h1066, h1067, h1068, h1069, h1073] <;> rfl) | rfl
  obtain ⟨v5, h1075, h⟩ := F_bd h
  simp (disch := first | assumption | (simp; done) | omega | (simp; omega)) only [push_cast, seval, h1066, h1067, h1068, h1069, h1073]
  refine DEnd.of [.O 3, .O 2] (.inr rfl) (d_merkle_path_settle_put N _ _ _ h1075) (by decide) rfl ?_ ?_ ?_ ?_
  · simp (disch := first | assumption | (simp; done) | omega | (simp; omega)) only [push_cast, seval, h1066, h1067, h1068, h1069, h1073] <;> rfl
  · simp (disch := first | assumption | (simp; done) | omega | (simp; omega)) only [push_cast, seval, h1066, h1067, h1068, h1069, h1073] <;> rfl
  · simp (disch := first | assumption | (simp; done) | omega | (simp; omega)) only [push_cast, seval, h1066, h1067, h1068, h1069, h1073] <;> rfl
  obtain rfl := Option.some.inj h
  simp (disch := first | assumption | (simp; done) | omega | (simp; omega)) only [push_cast, seval, h1066, h1067, h1068, h1069, h1073]
  refine e_ret (.inr rfl) ?_
  simp (disch := first | assumption | (simp; done) | omega | (simp; omega)) only [push_cast, seval, aret, aresults, aresult, h1066, h1067, h1068, h1069, h1073]
  refine ⟨_, rfl, ?_⟩
  first | (simp (disch := first | assumption | (simp; done) | omega | (simp; omega)) only [push_cast, seval, h1066, h1067, h1068, h1069, h1073] <;> rfl) | rfl

def f77g0 : List RO := [o_ 2 (.newR ((Arr.zero 16).l.map (aI .u8)))]
def f77g1 : List RO := [o_ 4 (.mv (t_ 0)), o_ 5 (.nilc (t_ 4)), o_ 6 (.faddr 0 (t_ 5)), o_ 7 (.load .none (t_ 6)), o_ 8 (.len .false (t_ 7)), o_ 9 (.bin .eql (t_ 8) (.const (.int .i64 0)))]
def f77g2 : List RO := [o_ 10 (.mv (t_ 0)), o_ 11 (.nilc (t_ 10)), o_ 12 (.faddr 1 (t_ 11)), n_ (.store 1 (t_ 12) (.const (.bool .true)))]
def f77g3 : List RO := [o_ 13 (.build ((Arr.zero 16).l.map (aI .u8)) []), n_ (.store 16 (t_ 2) (t_ 13))]
def f77g4 : List RO := [o_ 14 (.mv (t_ 0)), o_ 15 (.nilc (t_ 14)), o_ 16 (.faddr 0 (t_ 15)), o_ 17 (.load .none (t_ 16)), o_ 18 (.iaddr 16 (t_ 17) (.const (.int .i64 0))), o_ 19 (.load (.some 16) (t_ 18)), o_ 3 (.newR ((Arr.zero 16).l.map (aI .u8))), n_ (.store 16 (t_ 3) (t_ 19))]
def f77g5 : List RO := [o_ 20 (.mv (t_ 0)), o_ 21 (.mv (t_ 0)), o_ 22 (.nilc (t_ 21)), o_ 23 (.faddr 0 (t_ 22)), o_ 24 (.load .none (t_ 23)), o_ 25 (.sll 16 (t_ 24) (.some (.const (.int .i64 1))) .none .none), o_ 26 (.nilc (t_ 20)), o_ 27 (.faddr 0 (t_ 26)), n_ (.store 1 (t_ 27) (t_ 25))]
def f77g6 : List RO := [o_ 28 (.load (.some 16) (t_ 3)), n_ (.store 16 (t_ 2) (t_ 28))]
def f77c : RCode := (.seq (.reg .false f77g0) (.seq (.seq (.reg .false f77g1) (.cond (t_ 9) (.seq (.reg .false f77g2) (.seq (.reg .false f77g3) .ret)) .skip)) (.seq (.reg .false f77g4) (.seq (.reg .false f77g5) (.seq (.reg .false f77g6) .ret)))))
def f77r : List RRes := [(.cell (.some 16) 2)]
attribute [push_cast] f77g0 f77g1 f77g2 f77g3 f77g4 f77g5 f77g6
def F_merkle_path_first (N : Nat) (q0 : Merklepath) : Option ((Arr 16) × Merklepath) := if? (((q0.l.length : Int) == 0)) (some ((Arr.zero 16), (Merklepath.mk q0.l true))) (get? q0.l (0) fun x1 => gd? ((1 : Int).toNat ≤ q0.l.length) (some (x1, (Merklepath.mk ((q0.l.drop (1 : Int).toNat).take (q0.l.length - (1 : Int).toNat)) q0.short))))
theorem c_merkle_path_first (N : Nat) (q0 : Merklepath) (r : ((Arr 16) × Merklepath)) (h : F_merkle_path_first N q0 = some r) : ACall Tryd.prog 77 [.ptr (.B 0) 0] [some (.box ([.D (.L (q0.l.map (rA .u8))), .D (.B q0.short)]))] (.agg (r.1.l.map (aI .u8))) [some (.box ([.D (.L (r.2.l.map (rA .u8))), .D (.B r.2.short)]))] [] := by
  refine ACall.of_bodyW [] (fn := Tryd.f77) (rc := f77c) (rs := f77r) Tryd.func77 rfl rfl (by kernel_rfl) (by kernel_rfl) (by kernel_rfl) (by rw [Tryd.ntmps77]; simp) ?_
  unfold F_merkle_path_first at h
  unfold f77c f77r
  rw [entry_eq _ _]
  rcases F_if h with ⟨h1076, h⟩ | ⟨h1076, h⟩
  · obtain rfl := Option.some.inj h
    simp (disch := first | assumption | (simp; done) | omega | (simp; omega)) only [push_cast, seval, h1076]
    refine AEndW.of2 [] (.inr rfl) (by decide) ?_ ?_ ?_
    · simp (disch := first | assumption | (simp; done) | omega | (simp; omega)) only [push_cast, seval, aret, aresults, aresult, h1076]
      refine ⟨_, rfl, ?_⟩
      first | (simp (disch := first | assumption | (simp; done) | omega | (simp; omega)) only [push_cast, seval, h1076] <;> rfl) | rfl
    · simp (disch := first | assumption | (simp; done) | omega | (simp; omega)) only [push_cast, seval, h1076] <;> rfl
    · simp (disch := first | assumption | (simp; done) | omega | (simp; omega)) only [push_cast, seval, h1076] <;> rfl
  obtain ⟨x1, h1077, h1078, h⟩ := F_get h
  have h1080 := get_lt h1077 h1078
  have h1079 := map_get (rA .u8) h1078
  try simp (disch := first | assumption | (simp; done) | omega | (simp; omega)) only [push_cast, seval] at h1079
  obtain ⟨h1081, h⟩ := F_gd h
  try simp (disch := first | assumption | (simp; done) | omega | (simp; omega)) only [push_cast, seval] at h1081
  obtain rfl := Option.some.inj h
  simp (disch := first | assumption | (simp; done) | omega | (simp; omega)) only [push_cast, seval, h1076, h1077, h1079, h1080, h1081]
  refine AEndW.of2 [] (.inr rfl) (by decide) ?_ ?_ ?_
  · simp (disch := first | assumption | (simp; done) | omega | (simp; omega)) only [push_cast, seval, aret, aresults, aresult, h1076, h1077, h1079, h1080, h1081]
    refine ⟨_, rfl, ?_⟩
    first | (simp (disch := first | assumption | (simp; done) | omega | (simp; omega)) only [push_cast, seval, h1076, h1077, h1079, h1080, h1081] <;> rfl) | rfl
  · simp (disch := first | assumption | (simp; done) | omega | (simp; omega)) only [push_cast, seval, h1076, h1077, h1079, h1080, h1081] <;> rfl
  · simp (disch := first | assumption | (simp; done) | omega | (simp; omega)) only [push_cast, seval, h1076, h1077, h1079, h1080, h1081] <;> rfl

def f76g0 : List RO := [o_ 9 (.newR ((Arr.zero 16).l.map (aI .u8)))]
def f76g1 : List RO := [o_ 15 (.mv (t_ 2)), o_ 16 (.len .false (t_ 15)), o_ 17 (.bin .eql (t_ 16) (.const (.int .i64 0))), o_ 14 (.mv (t_ 17))]
def f76g2 : List RO := [o_ 18 (.load .none (t_ 3)), o_ 19 (.callE (.func 77) [(t_ 18)]), n_ (.store 16 (t_ 9) (t_ 19))]
def f76g3 : List RO := [o_ 21 (.mv (t_ 1)), o_ 22 (.bin .eql (t_ 21) (.const (.int .i64 1))), o_ 20 (.mv (t_ 22))]
def f76g4 : List RO := [o_ 23 (.load .none (t_ 4)), o_ 24 (.callE (.func 77) [(t_ 23)]), n_ (.store 16 (t_ 9) (t_ 24))]
def f76g5 : List RO := [o_ 25 (.mv (t_ 1)), o_ 26 (.call (.func 61) [(t_ 25)]), o_ 10 (.mv (t_ 26))]
def f76g6 : List RO := [o_ 28 (.mv (t_ 2)), o_ 29 (.mv (t_ 0)), o_ 30 (.mv (t_ 10)), o_ 31 (.bin .add (t_ 29) (t_ 30)), o_ 32 (.call (.func 72) [(t_ 28), (t_ 31)]), o_ 27 (.mv (t_ 32)), o_ 33 (.ext (t_ 27) 0), o_ 34 (.ext (t_ 27) 1), o_ 11 (.mv (t_ 33)), o_ 12 (.mv (t_ 34))]
def f76g7 : List RO := [o_ 35 (.load .none (t_ 5)), o_ 36 (.mv (t_ 0)), o_ 37 (.mv (t_ 10)), o_ 38 (.mv (t_ 11)), o_ 39 (.callE (t_ 35) [(t_ 36), (t_ 37), (t_ 38)]), o_ 13 (.newR ((Arr.zero 16).l.map (aI .u8))), n_ (.store 16 (t_ 13) (t_ 39))]
def f76g8 : List RO := [o_ 40 (.loadS (.some 16) (t_ 13)), o_ 41 (.loadS .none (t_ 5)), o_ 42 (.mv (t_ 0)), o_ 43 (.mv (t_ 10)), o_ 44 (.bin .add (t_ 42) (t_ 43)), o_ 45 (.mv (t_ 1)), o_ 46 (.mv (t_ 10)), o_ 47 (.bin .sub (t_ 45) (t_ 46)), o_ 48 (.mv (t_ 12)), o_ 49 (.callE (t_ 41) [(t_ 44), (t_ 47), (t_ 48)]), o_ 50 (.call (.func 22) [(t_ 40), (t_ 49)]), n_ (.store 16 (t_ 9) (t_ 50))]
def f76c : RCode := (.seq (.reg .false f76g0) (.seq (.block 0 (.seq (.reg .false f76g1) (.cond (t_ 14) (.seq (.reg .false f76g2) .ret) (.seq (.reg .false f76g3) (.cond (t_ 20) (.seq (.reg .false f76g4) .ret) .skip))))) (.seq (.reg .false f76g5) (.seq (.reg .false f76g6) (.seq (.reg .false f76g7) (.seq (.regS f76g8) .ret))))))
def f76r : List RRes := [(.cell (.some 16) 9)]
attribute [push_cast] f76g0 f76g1 f76g2 f76g3 f76g4 f76g5 f76g6 f76g7 f76g8
def F_merkle_CheckMany_1_r (N : Nat) : Nat → Int → Int → (List Int) → Merklepath → Merklepath → Option ((Arr 16) × Merklepath × Merklepath)
  | 0, _, _, _, _, _ => none
  | dd + 1, p0, p1, p2, q1, q3 => if? (((p2.length : Int) == 0)) (bd? (F_merkle_path_first N q1) fun v1 => some (v1.1, v1.2, q3)) (if? ((p1 == 1)) (bd? (F_merkle_path_first N q3) fun v2 => some (v2.1, q1, v2.2)) (bd? (F_merkle_split N p1) fun v3 => ck .i64 (p0 + v3) (bd? (F_merkle_cut N p2 (p0 + v3)) fun v4 => bd? (F_merkle_CheckMany_1_r N dd p0 v3 v4.1 q1 q3) fun v5 => ck .i64 (p1 - v3) (bd? (F_merkle_CheckMany_1_r N dd (p0 + v3) (p1 - v3) v4.2 v5.2.1 v5.2.2) fun v6 => bd? (F_merkle_Node N v5.1 v6.1) fun v7 => some (v7, v6.2.1, v6.2.2)))))
def F_merkle_CheckMany_1 (N : Nat) (p0 : Int) (p1 : Int) (p2 : (List Int)) (q1 : Merklepath) (q3 : Merklepath) : Option ((Arr 16) × Merklepath × Merklepath) := F_merkle_CheckMany_1_r N N p0 p1 p2 q1 q3
theorem c_merkle_CheckMany_1_r (N dd : Nat) : ∀ (p0 : Int) (p1 : Int) (p2 : (List Int)) (q1 : Merklepath) (q3 : Merklepath) (r : ((Arr 16) × Merklepath × Merklepath)), F_merkle_CheckMany_1_r N dd p0 p1 p2 q1 q3 = some r → ACall Tryd.prog 76 [.D (.I .i64 p0), .D (.I .i64 p1), .D (.L (p2.map (rI .i64))), .ptr (.B 0) 0, .ptr (.B 2) 0, .ptr (.B 4) 0] [some (.box ([.ptr (.B 1) 0])), some (.box ([.D (.L (q1.l.map (rA .u8))), .D (.B q1.short)])), some (.box ([.ptr (.B 3) 0])), some (.box ([.D (.L (q3.l.map (rA .u8))), .D (.B q3.short)])), some (.box ([.clo 76 [.ptr (.B 0) 0, .ptr (.B 2) 0, .ptr (.B 4) 0]]))] (.agg (r.1.l.map (aI .u8))) [some (.box ([.ptr (.B 1) 0])), some (.box ([.D (.L (r.2.1.l.map (rA .u8))), .D (.B r.2.1.short)])), some (.box ([.ptr (.B 3) 0])), some (.box ([.D (.L (r.2.2.l.map (rA .u8))), .D (.B r.2.2.short)])), some (.box ([.clo 76 [.ptr (.B 0) 0, .ptr (.B 2) 0, .ptr (.B 4) 0]]))] [] := by
  induction dd with
  | zero => intro p0 p1 p2 q1 q3 r h; exact absurd h (by simp [F_merkle_CheckMany_1_r])
  | succ dd ih =>
  intro p0 p1 p2 q1 q3 r h
  refine ACall.of_bodyW [19, 24, 39, 40, 41, 49] (fn := Tryd.f76) (rc := f76c) (rs := f76r) Tryd.func76 rfl rfl (by kernel_rfl) (by kernel_rfl) (by kernel_rfl) (by rw [Tryd.ntmps76]; simp) ?_
  rw [F_merkle_CheckMany_1_r] at h
  unfold f76c f76r
  rw [entry_eq _ _]
  rcases F_if h with ⟨h1082, h⟩ | ⟨h1082, h⟩
  · obtain ⟨v1, h1083, h⟩ := F_bd h
    simp (disch := first | assumption | (simp; done) | omega | (simp; omega)) only [push_cast, seval, h1082]
    refine callE_of [.B 1] (by rfl) (c_merkle_path_first N _ _ h1083) (by decide) rfl (by simp (disch := first | assumption | (simp; done) | omega | (simp; omega)) only [push_cast, seval] <;> rfl) (by simp (maxSteps := 999999) (disch := first | assumption | (simp; done) | omega | (simp; omega)) only [push_cast, seval] <;> rfl) ?_ ?_ ?_
    · simp (disch := first | assumption | (simp; done) | omega | (simp; omega)) only [push_cast, seval, h1082] <;> rfl
    · simp (disch := first | assumption | (simp; done) | omega | (simp; omega)) only [push_cast, seval, h1082] <;> rfl
    obtain rfl := Option.some.inj h
    simp (disch := first | assumption | (simp; done) | omega | (simp; omega)) only [push_cast, seval, h1082]
    refine AEndW.of2 [] (.inr rfl) (by decide) ?_ ?_ ?_
    · simp (disch := first | assumption | (simp; done) | omega | (simp; omega)) only [push_cast, seval, aret, aresults, aresult, h1082]
      refine ⟨_, rfl, ?_⟩
      first | (simp (disch := first | assumption | (simp; done) | omega | (simp; omega)) only [push_cast, seval, h1082] <;> rfl) | rfl
    · simp (disch := first | assumption | (simp; done) | omega | (simp; omega)) only [push_cast, seval, h1082] <;> rfl
    · simp (disch := first | assumption | (simp; done) | omega | (simp; omega)) only [push_cast, seval, h1082] <;> rfl
  rcases F_if h with ⟨h1084, h⟩ | ⟨h1084, h⟩
  · obtain ⟨v2, h1085, h⟩ := F_bd h
    simp (disch := first | assumption | (simp; done) | omega | (simp; omega)) only [push_cast, seval, h1082, h1084]
    refine callE_of [.B 3] (by rfl) (c_merkle_path_first N _ _ h1085) (by decide) rfl (by simp (disch := first | assumption | (simp; done) | omega | (simp; omega)) only [push_cast, seval] <;> rfl) (by simp (maxSteps := 999999) (disch := first | assumption | (simp; done) | omega | (simp; omega)) only [push_cast, seval] <;> rfl) ?_ ?_ ?_
    · simp (disch := first | assumption | (simp; done) | omega | (simp; omega)) only [push_cast, seval, h1082, h1084] <;> rfl
    · simp (disch := first | assumption | (simp; done) | omega | (simp; omega)) only [push_cast, seval, h1082, h1084] <;> rfl
    obtain rfl := Option.some.inj h
    simp (disch := first | assumption | (simp; done) | omega | (simp; omega)) only [push_cast, seval, h1082, h1084]
    refine AEndW.of2 [] (.inr rfl) (by decide) ?_ ?_ ?_
    · simp (disch := first | assumption | (simp; done) | omega | (simp; omega)) only [push_cast, seval, aret, aresults, aresult, h1082, h1084]
      refine ⟨_, rfl, ?_⟩
      first | (simp (disch := first | assumption | (simp; done) | omega | (simp; omega)) only [push_cast, seval, h1082, h1084] <;> rfl) | rfl
    · simp (disch := first | assumption | (simp; done) | omega | (simp; omega)) only [push_cast, seval, h1082, h1084] <;> rfl
    · simp (disch := first | assumption | (simp; done) | omega | (simp; omega)) only [push_cast, seval, h1082, h1084] <;> rfl
  obtain ⟨v3, h1086, h⟩ := F_bd h
  simp (disch := first | assumption | (simp; done) | omega | (simp; omega)) only [push_cast, seval, h1082, h1084]
  refine call_flat (by rfl) (c_merkle_split N _ _ h1086) ?_ rfl ?_
  · simp (disch := first | assumption | (simp; done) | omega | (simp; omega)) only [push_cast, seval, h1082, h1084] <;> rfl
  obtain ⟨h1087, h⟩ := F_ck h
  try simp (disch := first | assumption | (simp; done) | omega | (simp; omega)) only [push_cast, seval] at h1087
  obtain ⟨v4, h1088, h⟩ := F_bd h
  simp (disch := first | assumption | (simp; done) | omega | (simp; omega)) only [push_cast, seval, h1082, h1084, h1087]
  refine call_new (by rfl) (c_merkle_cut N _ _ _ h1088) ?_ rfl ?_
  · simp (disch := first | assumption | (simp; done) | omega | (simp; omega)) only [push_cast, seval, h1082, h1084, h1087] <;> rfl
  obtain ⟨v5, h1089, h⟩ := F_bd h
  simp (disch := first | assumption | (simp; done) | omega | (simp; omega)) only [push_cast, seval, h1082, h1084, h1087]
  refine callE_of [.B 0, .B 1, .B 2, .B 3, .B 4] (by rfl) (ih _ _ _ _ _ _ h1089) (by decide) rfl (by simp (disch := first | assumption | (simp; done) | omega | (simp; omega)) only [push_cast, seval] <;> rfl) (by simp (maxSteps := 999999) (disch := first | assumption | (simp; done) | omega | (simp; omega)) only [push_cast, seval] <;> rfl) ?_ ?_ ?_
  · simp (disch := first | assumption | (simp; done) | omega | (simp; omega)) only [push_cast, seval, h1082, h1084, h1087] <;> rfl
  · simp (disch := first | assumption | (simp; done) | omega | (simp; omega)) only [push_cast, seval, h1082, h1084, h1087] <;> rfl
  simp (disch := first | assumption | (simp; done) | omega | (simp; omega)) only [push_cast, seval, h1082, h1084, h1087]
  refine regS_of true [.O 1, .B 4] (by rfl) ?_
  obtain ⟨h1090, h⟩ := F_ck h
  try simp (disch := first | assumption | (simp; done) | omega | (simp; omega)) only [push_cast, seval] at h1090
  obtain ⟨v6, h1091, h⟩ := F_bd h
  simp (disch := first | assumption | (simp; done) | omega | (simp; omega)) only [push_cast, seval, h1082, h1084, h1087, h1090]
  refine callE_of [.B 0, .B 1, .B 2, .B 3, .B 4] (by rfl) (ih _ _ _ _ _ _ h1091) (by decide) rfl (by simp (disch := first | assumption | (simp; done) | omega | (simp; omega)) only [push_cast, seval] <;> rfl) (by simp (maxSteps := 999999) (disch := first | assumption | (simp; done) | omega | (simp; omega)) only [push_cast, seval] <;> rfl) ?_ ?_ ?_
  · simp (disch := first | assumption | (simp; done) | omega | (simp; omega)) only [push_cast, seval, h1082, h1084, h1087, h1090] <;> rfl
  · simp (disch := first | assumption | (simp; done) | omega | (simp; omega)) only [push_cast, seval, h1082, h1084, h1087, h1090] <;> rfl
  obtain ⟨v7, h1092, h⟩ := F_bd h
  simp (disch := first | assumption | (simp; done) | omega | (simp; omega)) only [push_cast, seval, h1082, h1084, h1087, h1090]
  refine call_flat (by rfl) (c_merkle_Node N _ _ _ h1092) ?_ (by simp [AV.flat, AV.flatL, flatL_aI, flatL_app, DV.flat]) ?_
  · simp (disch := first | assumption | (simp; done) | omega | (simp; omega)) only [push_cast, seval, h1082, h1084, h1087, h1090] <;> rfl
  obtain rfl := Option.some.inj h
  simp (disch := first | assumption | (simp; done) | omega | (simp; omega)) only [push_cast, seval, h1082, h1084, h1087, h1090]
  refine AEndW.of2 [] (.inr rfl) (by decide) ?_ ?_ ?_
  · simp (disch := first | assumption | (simp; done) | omega | (simp; omega)) only [push_cast, seval, aret, aresults, aresult, h1082, h1084, h1087, h1090]
    refine ⟨_, rfl, ?_⟩
    first | (simp (disch := first | assumption | (simp; done) | omega | (simp; omega)) only [push_cast, seval, h1082, h1084, h1087, h1090] <;> rfl) | rfl
  · simp (disch := first | assumption | (simp; done) | omega | (simp; omega)) only [push_cast, seval, h1082, h1084, h1087, h1090] <;> rfl
  · simp (disch := first | assumption | (simp; done) | omega | (simp; omega)) only [push_cast, seval, h1082, h1084, h1087, h1090] <;> rfl
theorem c_merkle_CheckMany_1 (N : Nat) (p0 : Int) (p1 : Int) (p2 : (List Int)) (q1 : Merklepath) (q3 : Merklepath) (r : ((Arr 16) × Merklepath × Merklepath)) (h : F_merkle_CheckMany_1 N p0 p1 p2 q1 q3 = some r) : ACall Tryd.prog 76 [.D (.I .i64 p0), .D (.I .i64 p1), .D (.L (p2.map (rI .i64))), .ptr (.B 0) 0, .ptr (.B 2) 0, .ptr (.B 4) 0] [some (.box ([.ptr (.B 1) 0])), some (.box ([.D (.L (q1.l.map (rA .u8))), .D (.B q1.short)])), some (.box ([.ptr (.B 3) 0])), some (.box ([.D (.L (q3.l.map (rA .u8))), .D (.B q3.short)])), some (.box ([.clo 76 [.ptr (.B 0) 0, .ptr (.B 2) 0, .ptr (.B 4) 0]]))] (.agg (r.1.l.map (aI .u8))) [some (.box ([.ptr (.B 1) 0])), some (.box ([.D (.L (r.2.1.l.map (rA .u8))), .D (.B r.2.1.short)])), some (.box ([.ptr (.B 3) 0])), some (.box ([.D (.L (r.2.2.l.map (rA .u8))), .D (.B r.2.2.short)])), some (.box ([.clo 76 [.ptr (.B 0) 0, .ptr (.B 2) 0, .ptr (.B 4) 0]]))] [] := c_merkle_CheckMany_1_r N N p0 p1 p2 q1 q3 r h

def f26g0 : List RO := [o_ 9 (.boxR (t_ 4)), o_ 10 (.new [(.D (.B .false))])]
def f26g1 : List RO := [o_ 14 (.mv (t_ 0)), o_ 15 (.bin .lss (t_ 14) (.const (.int .i64 0))), o_ 16 (.mv (t_ 15)), ⟨(.some 17), (.mv (t_ 0)), (.some (16, .false))⟩, ⟨(.some 18), (.bin .gtr (t_ 17) (.const (.int .i64 1099511627776))), (.some (16, .false))⟩, o_ 19 (.pick (t_ 16) (.const (.bool .true)) (t_ 18)), o_ 20 (.mv (t_ 19)), ⟨(.some 21), (.mv (t_ 1)), (.some (20, .false))⟩, ⟨(.some 22), (.mv (t_ 0)), (.some (20, .false))⟩, ⟨(.some 23), (.call (.func 70) [(t_ 21), (t_ 22)]), (.some (20, .false))⟩, ⟨(.some 24), (.un .not (t_ 23)), (.some (20, .false))⟩, o_ 25 (.pick (t_ 20) (.const (.bool .true)) (t_ 24)), o_ 26 (.mv (t_ 25)), ⟨(.some 27), (.mv (t_ 2)), (.some (26, .false))⟩, ⟨(.some 28), (.len .false (t_ 27)), (.some (26, .false))⟩, ⟨(.some 29), (.mv (t_ 1)), (.some (26, .false))⟩, ⟨(.some 30), (.len .false (t_ 29)), (.some (26, .false))⟩, ⟨(.some 31), (.bin .neq (t_ 28) (t_ 30)), (.some (26, .false))⟩, o_ 32 (.pick (t_ 26) (.const (.bool .true)) (t_ 31))]
def f26g2 : List RO := [n_ (.store 1 (t_ 10) (.const (.bool .false)))]
def f26g3 : List RO := [o_ 33 (.mv (t_ 3)), o_ 34 (.build [(.fl []), (.D (.B .false))] [(0, (1, (t_ 33)))]), o_ 35 (.box (t_ 34)), o_ 36 (.mv (t_ 2)), o_ 37 (.build [(.fl []), (.D (.B .false))] [(0, (1, (t_ 36)))]), o_ 38 (.box (t_ 37)), o_ 11 (.new [(.D (.C (.pointer .none)))]), o_ 12 (.new [(.D (.C (.pointer .none)))]), n_ (.store 1 (t_ 11) (t_ 35)), n_ (.store 1 (t_ 12) (t_ 38))]
def f26g4 : List RO := [o_ 39 (.load .none (t_ 11))]
def f26g5 : List RO := [o_ 40 (.mv (t_ 0)), o_ 41 (.bin .eql (t_ 40) (.const (.int .i64 0)))]
def f26g6 : List RO := [o_ 42 (.load (.some 16) (t_ 9)), o_ 43 (.call (.func 66) []), o_ 44 (.eqa .false .u8 16 (t_ 42) (t_ 43)), n_ (.store 1 (t_ 10) (t_ 44))]
def f26g7 : List RO := [o_ 13 (.new [(.D (.C .nilFunc))])]
def f26g8 : List RO := [o_ 45 (.mkf 76 [(t_ 11), (t_ 12), (t_ 13)]), n_ (.store 1 (t_ 13) (t_ 45))]
def f26g9 : List RO := [o_ 46 (.loadS .none (t_ 13)), o_ 47 (.mv (t_ 0)), o_ 48 (.mv (t_ 1)), o_ 49 (.callE (t_ 46) [(.const (.int .i64 0)), (t_ 47), (t_ 48)]), o_ 50 (.loadS (.some 16) (t_ 9)), o_ 51 (.eqa .false .u8 16 (t_ 49) (t_ 50)), n_ (.store 1 (t_ 10) (t_ 51))]
def f26p0 : RCode := (.reg .false f26g0)
def f26p1 : RCode := (.seq (.reg .false f26g1) (.cond (t_ 32) (.seq (.reg .false f26g2) .ret) .skip))
def f26p2 : RCode := (.reg .false f26g3)
def f26c : RCode := (.seq (.seq (.reg .false f26g5) (.cond (t_ 41) (.seq (.reg .true f26g6) .ret) .skip)) (.seq (.reg .false f26g7) (.seq (.reg .false f26g8) (.seq (.regS f26g9) .ret))))
def f26r : List RRes := [(.cell .none 10)]
attribute [push_cast] f26g0 f26g1 f26g2 f26g3 f26g4 f26g5 f26g6 f26g7 f26g8 f26g9
def F_merkle_CheckMany (N : Nat) (p0 : Int) (p1 : (List Int)) (p2 : (List (Arr 16))) (p3 : (List (Arr 16))) (p4 : (Arr 16)) : Option Bool := if? (decide (p0 < 0)) (some (false)) (if? (decide (p0 > 1099511627776)) (some (false)) (bd? (F_merkle_isAscending N p1 p0) fun v1 => if? (v1) (if? (((p2.length : Int) != (p1.length : Int))) (some (false)) (if? ((p0 == 0)) (bd? (F_merkle_empty N ) fun v2 => bd? (F_merkle_path_settle_put N (Merklepath.mk p3 false) (p4.l == v2.l)) fun v3 => some (v3)) (bd? (F_merkle_CheckMany_1 N 0 p0 p1 (Merklepath.mk p3 false) (Merklepath.mk p2 false)) fun v4 => bd? (F_merkle_path_settle_put N v4.2.1 (v4.1.l == p4.l)) fun v5 => some (v5)))) (some (false))))
theorem c_merkle_CheckMany (N : Nat) (p0 : Int) (p1 : (List Int)) (p2 : (List (Arr 16))) (p3 : (List (Arr 16))) (p4 : (Arr 16)) (r : Bool) (h : F_merkle_CheckMany N p0 p1 p2 p3 p4 = some r) : ACall Tryd.prog 26 [.D (.I .i64 p0), .D (.L (p1.map (rI .i64))), .D (.L (p2.map (rA .u8))), .D (.L (p3.map (rA .u8))), .agg (p4.l.map (aI .u8))] [] (.D (.B r)) [] [] := by
  refine ACall.of_bodyK [46, 49, 50] (fn := Tryd.f26) (rcs := [f26p0, f26p1, f26p2]) (ros := f26g4) (rc := f26c) (g := 75) (xs := [.tmp 39, .tmp 10]) (rs := f26r) (N := 52) Tryd.func26 rfl rfl (by kernel_rfl) (by kernel_rfl) (by kernel_rfl) Tryd.ntmps26 (by rw [Tryd.ntmps26]; simp) ?_
  unfold F_merkle_CheckMany at h
  unfold f26p0 f26p1 f26p2 f26c f26r
  rw [entry_eq _ _]
  rcases F_if h with ⟨h1093, h⟩ | ⟨h1093, h⟩
  · obtain rfl := Option.some.inj h
    simp (disch := first | assumption | (simp; done) | omega | (simp; omega)) only [push_cast, seval, h1093]
    refine e_ret (.inr rfl) ?_
    simp (disch := first | assumption | (simp; done) | omega | (simp; omega)) only [push_cast, seval, aret, aresults, aresult, h1093]
    refine ⟨_, rfl, ?_⟩
    first | (simp (disch := first | assumption | (simp; done) | omega | (simp; omega)) only [push_cast, seval, h1093] <;> rfl) | rfl
  rcases F_if h with ⟨h1094, h⟩ | ⟨h1094, h⟩
  · obtain rfl := Option.some.inj h
    simp (disch := first | assumption | (simp; done) | omega | (simp; omega)) only [push_cast, seval, h1093, h1094]
    refine e_ret (.inr rfl) ?_
    simp (disch := first | assumption | (simp; done) | omega | (simp; omega)) only [push_cast, seval, aret, aresults, aresult, h1093, h1094]
    refine ⟨_, rfl, ?_⟩
    first | (simp (disch := first | assumption | (simp; done) | omega | (simp; omega)) only [push_cast, seval, h1093, h1094] <;> rfl) | rfl
  obtain ⟨v1, h1095, h⟩ := F_bd h
  simp (disch := first | assumption | (simp; done) | omega | (simp; omega)) only [push_cast, seval, h1093, h1094]
  refine call_flat (by rfl) (c_merkle_isAscending N _ _ _ h1095) ?_ rfl ?_
  · simp (disch := first | assumption | (simp; done) | omega | (simp; omega)) only [push_cast, seval, h1093, h1094] <;> rfl
  rcases F_if h with ⟨h1096, h⟩ | ⟨h1096, h⟩
  rotate_left
  · obtain rfl := Option.some.inj h
    simp (disch := first | assumption | (simp; done) | omega | (simp; omega)) only [push_cast, seval, h1093, h1094, h1096]
    refine e_ret (.inr rfl) ?_
    simp (disch := first | assumption | (simp; done) | omega | (simp; omega)) only [push_cast, seval, aret, aresults, aresult, h1093, h1094, h1096]
    refine ⟨_, rfl, ?_⟩
    first | (simp (disch := first | assumption | (simp; done) | omega | (simp; omega)) only [push_cast, seval, h1093, h1094, h1096] <;> rfl) | rfl
  rcases F_if h with ⟨h1097, h⟩ | ⟨h1097, h⟩
  · obtain rfl := Option.some.inj h
    simp (disch := first | assumption | (simp; done) | omega | (simp; omega)) only [push_cast, seval, h1093, h1094, h1096, h1097]
    refine e_ret (.inr rfl) ?_
    simp (disch := first | assumption | (simp; done) | omega | (simp; omega)) only [push_cast, seval, aret, aresults, aresult, h1093, h1094, h1096, h1097]
    refine ⟨_, rfl, ?_⟩
    first | (simp (disch := first | assumption | (simp; done) | omega | (simp; omega)) only [push_cast, seval, h1093, h1094, h1096, h1097] <;> rfl) | rfl
  rcases F_if h with ⟨h1098, h⟩ | ⟨h1098, h⟩
  · obtain ⟨v2, h1099, h⟩ := F_bd h
    simp (disch := first | assumption | (simp; done) | omega | (simp; omega)) only [push_cast, seval, h1093, h1094, h1096, h1097, h1098]
    refine call_flat (by rfl) (c_merkle_empty N _ h1099) ?_ (by simp [AV.flat, AV.flatL, flatL_aI, flatL_app, DV.flat]) ?_
    · simp (disch := first | assumption | (simp; done) | omega | (simp; omega)) only [push_cast, seval, h1093, h1094, h1096, h1097, h1098] <;> rfl
    obtain ⟨v3, h1100, h⟩ := F_bd h
    simp (disch := first | assumption | (simp; done) | omega | (simp; omega)) only [push_cast, seval, h1093, h1094, h1096, h1097, h1098]
    refine DEnd.of [.O 2, .O 1] (.inr rfl) (d_merkle_path_settle_put N _ _ _ h1100) (by decide) rfl ?_ ?_ ?_ ?_
    · simp (disch := first | assumption | (simp; done) | omega | (simp; omega)) only [push_cast, seval, h1093, h1094, h1096, h1097, h1098] <;> rfl
    · simp (disch := first | assumption | (simp; done) | omega | (simp; omega)) only [push_cast, seval, h1093, h1094, h1096, h1097, h1098] <;> rfl
    · simp (disch := first | assumption | (simp; done) | omega | (simp; omega)) only [push_cast, seval, h1093, h1094, h1096, h1097, h1098] <;> rfl
    obtain rfl := Option.some.inj h
    simp (disch := first | assumption | (simp; done) | omega | (simp; omega)) only [push_cast, seval, h1093, h1094, h1096, h1097, h1098]
    refine e_ret (.inr rfl) ?_
    simp (disch := first | assumption | (simp; done) | omega | (simp; omega)) only [push_cast, seval, aret, aresults, aresult, h1093, h1094, h1096, h1097, h1098]
    refine ⟨_, rfl, ?_⟩
    first | (simp (disch := first | assumption | (simp; done) | omega | (simp; omega)) only [push_cast, seval, h1093, h1094, h1096, h1097, h1098] <;> rfl) | rfl
  simp (disch := first | assumption | (simp; done) | omega | (simp; omega)) only [push_cast, seval, h1093, h1094, h1096, h1097, h1098]
  refine regS_of true [.O 6, .O 0] (by rfl) ?_
  obtain ⟨v4, h1101, h⟩ := F_bd h
  simp (disch := first | assumption | (simp; done) | omega | (simp; omega)) only [push_cast, seval, h1093, h1094, h1096, h1097, h1098]
  refine callE_of [.O 4, .O 2, .O 5, .O 3, .O 6] (by rfl) (c_merkle_CheckMany_1 N _ _ _ _ _ _ h1101) (by decide) rfl (by simp (disch := first | assumption | (simp; done) | omega | (simp; omega)) only [push_cast, seval] <;> rfl) (by simp (maxSteps := 999999) (disch := first | assumption | (simp; done) | omega | (simp; omega)) only [push_cast, seval] <;> rfl) ?_ ?_ ?_
  · simp (disch := first | assumption | (simp; done) | omega | (simp; omega)) only [push_cast, seval, h1093, h1094, h1096, h1097, h1098] <;> rfl
  · simp (disch := first | assumption | (simp; done) | omega | (simp; omega)) only [push_cast, seval, h1093, h1094, h1096, h1097, h1098] <;> rfl
  obtain ⟨v5, h1102, h⟩ := F_bd h
  simp (disch := first | assumption | (simp; done) | omega | (simp; omega)) only [push_cast, seval, h1093, h1094, h1096, h1097, h1098]
  refine DEnd.of [.O 2, .O 1] (.inr rfl) (d_merkle_path_settle_put N _ _ _ h1102) (by decide) rfl ?_ ?_ ?_ ?_
  · simp (disch := first | assumption | (simp; done) | omega | (simp; omega)) only [push_cast, seval, h1093, h1094, h1096, h1097, h1098] <;> rfl
  · simp (disch := first | assumption | (simp; done) | omega | (simp; omega)) only [push_cast, seval, h1093, h1094, h1096, h1097, h1098] <;> rfl
  · simp (disch := first | assumption | (simp; done) | omega | (simp; omega)) only [push_cast, seval, h1093, h1094, h1096, h1097, h1098] <;> rfl
  obtain rfl := Option.some.inj h
  simp (disch := first | assumption | (simp; done) | omega | (simp; omega)) only [push_cast, seval, h1093, h1094, h1096, h1097, h1098]
  refine e_ret (.inr rfl) ?_
  simp (disch := first | assumption | (simp; done) | omega | (simp; omega)) only [push_cast, seval, aret, aresults, aresult, h1093, h1094, h1096, h1097, h1098]
  refine ⟨_, rfl, ?_⟩
  first | (simp (disch := first | assumption | (simp; done) | omega | (simp; omega)) only [push_cast, seval, h1093, h1094, h1096, h1097, h1098] <;> rfl) | rfl

def f12g0 : List RO := [o_ 0 (.mv (.const (.bool .false)))]
def f12g1 : List RO := [o_ 24 (.call (.func 17) [(.const (.string ⟨#[97]⟩))]), o_ 1 (.newR ((Arr.zero 16).l.map (aI .u8))), n_ (.store 16 (t_ 1) (t_ 24))]
def f12g2 : List RO := [o_ 25 (.call (.func 17) [(.const (.string ⟨#[98]⟩))]), o_ 2 (.newR ((Arr.zero 16).l.map (aI .u8))), n_ (.store 16 (t_ 2) (t_ 25))]
def f12g3 : List RO := [o_ 26 (.call (.func 17) [(.const (.string ⟨#[99]⟩))]), o_ 3 (.newR ((Arr.zero 16).l.map (aI .u8))), n_ (.store 16 (t_ 3) (t_ 26))]
def f12g4 : List RO := [o_ 27 (.load (.some 16) (t_ 1)), o_ 28 (.load (.some 16) (t_ 2)), o_ 29 (.load (.some 16) (t_ 3)), o_ 30 (.bslice 16 [(t_ 27), (t_ 28), (t_ 29)]), o_ 4 (.mv (t_ 30))]
def f12g5 : List RO := [o_ 31 (.load (.some 16) (t_ 1)), o_ 32 (.load (.some 16) (t_ 2)), o_ 33 (.call (.func 22) [(t_ 31), (t_ 32)]), o_ 5 (.newR ((Arr.zero 16).l.map (aI .u8))), n_ (.store 16 (t_ 5) (t_ 33))]
def f12g6 : List RO := [o_ 34 (.load (.some 16) (t_ 5)), o_ 35 (.load (.some 16) (t_ 3)), o_ 36 (.call (.func 22) [(t_ 34), (t_ 35)]), o_ 6 (.newR ((Arr.zero 16).l.map (aI .u8))), n_ (.store 16 (t_ 6) (t_ 36))]
def f12g7 : List RO := [o_ 38 (.mv (t_ 4)), o_ 39 (.call (.func 13) [(t_ 38), (.const (.int .i64 0))]), o_ 37 (.mv (t_ 39)), o_ 40 (.ext (t_ 37) 0), o_ 41 (.ext (t_ 37) 1), o_ 7 (.mv (t_ 40)), o_ 8 (.mv (t_ 41))]
def f12g8 : List RO := [o_ 43 (.mv (t_ 4)), o_ 44 (.call (.func 13) [(t_ 43), (.const (.int .i64 2))]), o_ 42 (.mv (t_ 44)), o_ 45 (.ext (t_ 42) 0), o_ 46 (.ext (t_ 42) 1), o_ 9 (.mv (t_ 45)), o_ 10 (.mv (t_ 46))]
def f12g9 : List RO := [o_ 48 (.mv (t_ 4)), o_ 49 (.call (.func 14) [(t_ 48), (.const (.int .i64 1))]), o_ 47 (.mv (t_ 49)), o_ 50 (.ext (t_ 47) 0), o_ 51 (.ext (t_ 47) 1), o_ 11 (.mv (t_ 50)), o_ 12 (.mv (t_ 51))]
def f12g10 : List RO := [o_ 53 (.mv (t_ 4)), o_ 54 (.call (.func 14) [(t_ 53), (.const (.int .i64 2))]), o_ 52 (.mv (t_ 54)), o_ 55 (.ext (t_ 52) 0), o_ 56 (.ext (t_ 52) 1), o_ 13 (.mv (t_ 55)), o_ 14 (.mv (t_ 56))]
def f12g11 : List RO := [o_ 58 (.mv (t_ 4)), o_ 59 (.bslice 1 [(.const (.int .i64 0)), (.const (.int .i64 2))]), o_ 60 (.call (.func 24) [(t_ 58), (t_ 59)]), o_ 57 (.mv (t_ 60)), o_ 61 (.ext (t_ 57) 0), o_ 62 (.ext (t_ 57) 1), o_ 15 (.mv (t_ 61)), o_ 16 (.mv (t_ 62))]
def f12g12 : List RO := [o_ 17 (.new [(.D (.I .i64 0)), (.fl [])])]
def f12g13 : List RO := [o_ 18 (.mv (.const (.int .i64 0)))]
def f12g14 : List RO := [o_ 63 (.mv (t_ 18)), o_ 64 (.bin .lss (t_ 63) (.const (.int .i64 3)))]
def f12g15 : List RO := [o_ 68 (.load (.some 2) (t_ 17)), o_ 69 (.mv (t_ 4)), o_ 70 (.mv (t_ 18)), o_ 71 (.iaddr 16 (t_ 69) (t_ 70)), o_ 72 (.load (.some 16) (t_ 71)), o_ 73 (.call (.func 31) [(t_ 68), (t_ 72)]), o_ 67 (.mv (t_ 73)), o_ 74 (.ext (t_ 67) 0), o_ 75 (.ext (t_ 67) 1), o_ 19 (.new [(.D (.I .i64 0)), (.fl [])]), n_ (.store 2 (t_ 19) (t_ 74)), o_ 20 (.mv (t_ 75))]
def f12g16 : List RO := [o_ 76 (.mv (t_ 20)), o_ 77 (.bin .neq (t_ 76) (.const (.int .i64 0)))]
def f12g17 : List RO := [o_ 0 (.mv (.const (.bool .false)))]
def f12g18 : List RO := [o_ 78 (.load (.some 2) (t_ 19)), n_ (.store 2 (t_ 17) (t_ 78))]
def f12g19 : List RO := [o_ 65 (.mv (t_ 18)), o_ 66 (.bin .add (t_ 65) (.const (.int .i64 1))), o_ 18 (.mv (t_ 66))]
def f12b20 : RCode := (.seq (.seq (.reg .false f12g14) (.cond (t_ 64) .skip (.exit 0))) (.seq (.block 1 (.seq (.reg .true f12g15) (.seq (.seq (.reg .false f12g16) (.cond (t_ 77) (.seq (.reg .false f12g17) .ret) .skip)) (.reg .false f12g18)))) (.reg .false f12g19)))
def f12g21 : List RO := [o_ 79 (.mv (t_ 8)), o_ 80 (.bin .eql (t_ 79) (.const (.int .i64 0))), o_ 81 (.mv (t_ 80)), ⟨(.some 82), (.mv (t_ 10)), (.some (81, .true))⟩, ⟨(.some 83), (.bin .eql (t_ 82) (.const (.int .i64 0))), (.some (81, .true))⟩, o_ 84 (.pick (t_ 81) (t_ 83) (.const (.bool .false))), o_ 85 (.mv (t_ 84)), ⟨(.some 86), (.mv (t_ 12)), (.some (85, .true))⟩, ⟨(.some 87), (.bin .eql (t_ 86) (.const (.int .i64 0))), (.some (85, .true))⟩, o_ 88 (.pick (t_ 85) (t_ 87) (.const (.bool .false))), o_ 89 (.mv (t_ 88)), ⟨(.some 90), (.mv (t_ 14)), (.some (89, .true))⟩, ⟨(.some 91), (.bin .eql (t_ 90) (.const (.int .i64 0))), (.some (89, .true))⟩, o_ 92 (.pick (t_ 89) (t_ 91) (.const (.bool .false))), o_ 93 (.mv (t_ 92)), ⟨(.some 94), (.mv (t_ 16)), (.some (93, .true))⟩, ⟨(.some 95), (.bin .eql (t_ 94) (.const (.int .i64 0))), (.some (93, .true))⟩, o_ 96 (.pick (t_ 93) (t_ 95) (.const (.bool .false))), o_ 97 (.mv (t_ 96)), ⟨(.some 98), (.mv (t_ 4)), (.some (97, .true))⟩, ⟨(.some 99), (.call (.func 18) [(t_ 98)]), (.some (97, .true))⟩, ⟨(.some 100), (.load (.some 16) (t_ 6)), (.some (97, .true))⟩, ⟨(.some 101), (.eqa .false .u8 16 (t_ 99) (t_ 100)), (.some (97, .true))⟩, o_ 102 (.pick (t_ 97) (t_ 101) (.const (.bool .false))), o_ 103 (.mv (t_ 102)), ⟨(.some 104), (.load (.some 16) (t_ 1)), (.some (103, .true))⟩, ⟨(.some 105), (.call (.func 21) [(.const (.string ⟨#[97]⟩))]), (.some (103, .true))⟩, ⟨(.some 106), (.eqa .false .u8 16 (t_ 104) (t_ 105)), (.some (103, .true))⟩, o_ 107 (.pick (t_ 103) (t_ 106) (.const (.bool .false))), o_ 108 (.mv (t_ 107)), ⟨(.some 109), (.load (.some 16) (t_ 5)), (.some (108, .true))⟩, ⟨(.some 110), (.load (.some 16) (t_ 1)), (.some (108, .true))⟩, ⟨(.some 111), (.load (.some 16) (t_ 2)), (.some (108, .true))⟩, ⟨(.some 112), (.call (.func 23) [(t_ 110), (t_ 111)]), (.some (108, .true))⟩, ⟨(.some 113), (.eqa .false .u8 16 (t_ 109) (t_ 112)), (.some (108, .true))⟩, o_ 114 (.pick (t_ 108) (t_ 113) (.const (.bool .false))), o_ 21 (.mv (t_ 114))]
def f12g22 : List RO := [o_ 115 (.mv (t_ 7)), o_ 116 (.load (.some 16) (t_ 2)), o_ 117 (.load (.some 16) (t_ 3)), o_ 118 (.bslice 16 [(t_ 116), (t_ 117)]), o_ 119 (.call (.func 20) [(t_ 115), (t_ 118)]), o_ 120 (.mv (t_ 119)), ⟨(.some 121), (.mv (t_ 9)), (.some (120, .true))⟩, ⟨(.some 122), (.load (.some 16) (t_ 5)), (.some (120, .true))⟩, ⟨(.some 123), (.bslice 16 [(t_ 122)]), (.some (120, .true))⟩, ⟨(.some 124), (.call (.func 20) [(t_ 121), (t_ 123)]), (.some (120, .true))⟩, o_ 125 (.pick (t_ 120) (t_ 124) (.const (.bool .false))), o_ 126 (.mv (t_ 125)), ⟨(.some 127), (.mv (t_ 11)), (.some (126, .true))⟩, ⟨(.some 128), (.load (.some 16) (t_ 2)), (.some (126, .true))⟩, ⟨(.some 129), (.load (.some 16) (t_ 3)), (.some (126, .true))⟩, ⟨(.some 130), (.bslice 16 [(t_ 128), (t_ 129)]), (.some (126, .true))⟩, ⟨(.some 131), (.call (.func 20) [(t_ 127), (t_ 130)]), (.some (126, .true))⟩, o_ 132 (.pick (t_ 126) (t_ 131) (.const (.bool .false))), o_ 133 (.mv (t_ 132)), ⟨(.some 134), (.mv (t_ 13)), (.some (133, .true))⟩, ⟨(.some 135), (.load (.some 16) (t_ 3)), (.some (133, .true))⟩, ⟨(.some 136), (.bslice 16 [(t_ 135)]), (.some (133, .true))⟩, ⟨(.some 137), (.call (.func 20) [(t_ 134), (t_ 136)]), (.some (133, .true))⟩, o_ 138 (.pick (t_ 133) (t_ 137) (.const (.bool .false))), o_ 139 (.mv (t_ 138)), ⟨(.some 140), (.mv (t_ 15)), (.some (139, .true))⟩, ⟨(.some 141), (.load (.some 16) (t_ 2)), (.some (139, .true))⟩, ⟨(.some 142), (.bslice 16 [(t_ 141)]), (.some (139, .true))⟩, ⟨(.some 143), (.call (.func 20) [(t_ 140), (t_ 142)]), (.some (139, .true))⟩, o_ 144 (.pick (t_ 139) (t_ 143) (.const (.bool .false))), o_ 22 (.mv (t_ 144))]
def f12g23 : List RO := [o_ 145 (.load (.some 16) (t_ 1)), o_ 146 (.mv (t_ 7)), o_ 147 (.load (.some 16) (t_ 6)), o_ 148 (.call (.func 28) [(t_ 145), (.const (.int .i64 0)), (.const (.int .i64 3)), (t_ 146), (t_ 147)]), o_ 149 (.mv (t_ 148)), ⟨(.some 150), (.load (.some 16) (t_ 1)), (.some (149, .true))⟩, ⟨(.some 151), (.load (.some 16) (t_ 6)), (.some (149, .true))⟩, ⟨(.some 152), (.mv (t_ 11)), (.some (149, .true))⟩, ⟨(.some 153), (.call (.func 29) [(.const (.int .i64 1)), (.const (.int .i64 3)), (t_ 150), (t_ 151), (t_ 152)]), (.some (149, .true))⟩, o_ 154 (.pick (t_ 149) (t_ 153) (.const (.bool .false))), o_ 155 (.mv (t_ 154)), ⟨(.some 156), (.bslice 1 [(.const (.int .i64 0)), (.const (.int .i64 2))]), (.some (155, .true))⟩, ⟨(.some 157), (.load (.some 16) (t_ 1)), (.some (155, .true))⟩, ⟨(.some 158), (.load (.some 16) (t_ 3)), (.some (155, .true))⟩, ⟨(.some 159), (.bslice 16 [(t_ 157), (t_ 158)]), (.some (155, .true))⟩, ⟨(.some 160), (.mv (t_ 15)), (.some (155, .true))⟩, ⟨(.some 161), (.load (.some 16) (t_ 6)), (.some (155, .true))⟩, ⟨(.some 162), (.call (.func 26) [(.const (.int .i64 3)), (t_ 156), (t_ 159), (t_ 160), (t_ 161)]), (.some (155, .true))⟩, o_ 163 (.pick (t_ 155) (t_ 162) (.const (.bool .false))), o_ 164 (.mv (t_ 163)), ⟨(.some 165), (.load (.some 16) (t_ 1)), (.some (164, .true))⟩, ⟨(.some 166), (.mv (t_ 9)), (.some (164, .true))⟩, ⟨(.some 167), (.load (.some 16) (t_ 6)), (.some (164, .true))⟩, ⟨(.some 168), (.call (.func 28) [(t_ 165), (.const (.int .i64 0)), (.const (.int .i64 3)), (t_ 166), (t_ 167)]), (.some (164, .true))⟩, ⟨(.some 169), (.un .not (t_ 168)), (.some (164, .true))⟩, o_ 170 (.pick (t_ 164) (t_ 169) (.const (.bool .false))), o_ 23 (.mv (t_ 170))]
def f12g24 : List RO := [o_ 171 (.mv (t_ 21)), o_ 172 (.mv (t_ 171)), ⟨(.some 173), (.mv (t_ 22)), (.some (172, .true))⟩, o_ 174 (.pick (t_ 172) (t_ 173) (.const (.bool .false))), o_ 175 (.mv (t_ 174)), ⟨(.some 176), (.mv (t_ 23)), (.some (175, .true))⟩, o_ 177 (.pick (t_ 175) (t_ 176) (.const (.bool .false))), o_ 178 (.mv (t_ 177)), ⟨(.some 179), (.faddr 0 (t_ 17)), (.some (178, .true))⟩, ⟨(.some 180), (.load .none (t_ 179)), (.some (178, .true))⟩, ⟨(.some 181), (.bin .eql (t_ 180) (.const (.int .i64 3))), (.some (178, .true))⟩, o_ 182 (.pick (t_ 178) (t_ 181) (.const (.bool .false))), o_ 183 (.mv (t_ 182)), ⟨(.some 184), (.faddr 1 (t_ 17)), (.some (183, .true))⟩, ⟨(.some 185), (.load .none (t_ 184)), (.some (183, .true))⟩, ⟨(.some 186), (.load (.some 16) (t_ 5)), (.some (183, .true))⟩, ⟨(.some 187), (.load (.some 16) (t_ 3)), (.some (183, .true))⟩, ⟨(.some 188), (.bslice 16 [(t_ 186), (t_ 187)]), (.some (183, .true))⟩, ⟨(.some 189), (.call (.func 20) [(t_ 185), (t_ 188)]), (.some (183, .true))⟩, o_ 190 (.pick (t_ 183) (t_ 189) (.const (.bool .false))), o_ 0 (.mv (t_ 190))]
def f12c : RCode := (.seq (.reg .false f12g0) (.seq (.reg .false f12g1) (.seq (.reg .false f12g2) (.seq (.reg .false f12g3) (.seq (.reg .false f12g4) (.seq (.reg .false f12g5) (.seq (.reg .false f12g6) (.seq (.reg .false f12g7) (.seq (.reg .false f12g8) (.seq (.reg .false f12g9) (.seq (.reg .false f12g10) (.seq (.reg .false f12g11) (.seq (.reg .false f12g12) (.seq (.seq (.reg .false f12g13) (.block 0 (.loop f12b20))) (.seq (.reg .true f12g21) (.seq (.reg .false f12g22) (.seq (.reg .false f12g23) (.seq (.reg .false f12g24) .ret))))))))))))))))))
def f12r : List RRes := [(.tmp 0)]
attribute [push_cast] f12g0 f12g1 f12g2 f12g3 f12g4 f12g5 f12g6 f12g7 f12g8 f12g9 f12g10 f12g11 f12g12 f12g13 f12g14 f12g15 f12g16 f12g17 f12g18 f12g19 f12g21 f12g22 f12g23 f12g24
def L_law03_sanity_0 (N : Nat) (v1 : (Arr 16)) (v2 : (Arr 16)) (v3 : (Arr 16)) (v4 : (Arr 16)) (v5 : (Arr 16)) (v6 : ((List (Arr 16)) × Int)) (v7 : ((List (Arr 16)) × Int)) (v8 : ((List (Arr 16)) × Int)) (v9 : ((List (Arr 16)) × Int)) (v10 : ((List (Arr 16)) × Int)) : Nat → Int → Int → (List (Arr 16)) → Option Bool
  | 0, _, _, _ => none
  | m1+1, a11, a12, a13 => if? (decide (a11 < 3)) (get? [v1, v2, v3] (a11) fun x14 => bd? (F_merkle_Append N (Peaks.mk a12 a13) x14) fun v15 => if? ((v15.2 != 0)) (some (false)) (ck .i64 (a11 + 1) (L_law03_sanity_0 N v1 v2 v3 v4 v5 v6 v7 v8 v9 v10 m1 (a11 + 1) v15.1.Size v15.1.Tops))) (gd? (((v6.2 == 0)) = true) (gd? (((v7.2 == 0)) = true) (gd? (((v8.2 == 0)) = true) (gd? (((v9.2 == 0)) = true) (gd? (((v10.2 == 0)) = true) (bd? (F_merkle_Root N [v1, v2, v3]) fun v16 => gd? (((v16.l == v5.l)) = true) (bd? (F_ref03_Leaf N ([97] : Str)) fun v17 => gd? (((v1.l == v17.l)) = true) (bd? (F_ref03_Node N v1 v2) fun v18 => bd? (F_ref03_Same N v6.1 [v2, v3]) fun v19 => gd? ((v19) = true) (bd? (F_ref03_Same N v7.1 [v4]) fun v20 => gd? ((v20) = true) (bd? (F_ref03_Same N v8.1 [v2, v3]) fun v21 => gd? ((v21) = true) (bd? (F_ref03_Same N v9.1 [v3]) fun v22 => gd? ((v22) = true) (bd? (F_ref03_Same N v10.1 [v2]) fun v23 => bd? (F_merkle_CheckInclusion N v1 0 3 v6.1 v5) fun v24 => gd? ((v24) = true) (bd? (F_merkle_CheckConsistency N 1 3 v1 v5 v8.1) fun v25 => gd? ((v25) = true) (bd? (F_merkle_CheckMany N 3 [0, 2] [v1, v3] v10.1 v5) fun v26 => gd? ((v26) = true) (bd? (F_merkle_CheckInclusion N v1 0 3 v7.1 v5) fun v27 => gd? (((v4.l == v18.l)) = true) (gd? ((v23) = true) (gd? ((v27) = false) (gd? (((a12 == 3)) = true) (bd? (F_ref03_Same N a13 [v4, v3]) fun v28 => some (v28))))))))))))))))))))
def I_law03_sanity_0 (N : Nat) (v1 : (Arr 16)) (v2 : (Arr 16)) (v3 : (Arr 16)) (v4 : (Arr 16)) (v5 : (Arr 16)) (v6 : ((List (Arr 16)) × Int)) (v7 : ((List (Arr 16)) × Int)) (v8 : ((List (Arr 16)) × Int)) (v9 : ((List (Arr 16)) × Int)) (v10 : ((List (Arr 16)) × Int)) (r : Bool) (n : Nat) (s : AState) : Prop := ∃ (a11 : Int) (a12 : Int) (a13 : (List (Arr 16))), L_law03_sanity_0 N v1 v2 v3 v4 v5 v6 v7 v8 v9 v10 n a11 a12 a13 = some r ∧ s = ⟨envL [(1, .eptr (.O 0) 1 0 0), (2, .eptr (.O 1) 1 0 0), (3, .eptr (.O 2) 1 0 0), (4, .sl (.O 3) 16 0 ([v1, v2, v3].length)), (5, .eptr (.O 4) 1 0 0), (6, .eptr (.O 5) 1 0 0), (7, .sl (.O 6) 16 0 v6.1.length), (8, .D (.I .i64 v6.2)), (9, .sl (.O 7) 16 0 v7.1.length), (10, .D (.I .i64 v7.2)), (11, .sl (.O 8) 16 0 v8.1.length), (12, .D (.I .i64 v8.2)), (13, .sl (.O 9) 16 0 v9.1.length), (14, .D (.I .i64 v9.2)), (15, .sl (.O 10) 16 0 v10.1.length), (16, .D (.I .i64 v10.2)), (17, .ptr (.O 11) 0), (18, .D (.I .i64 a11))], ownL [], ownL [some (.row true 1 (v1.l.map (rI .u8))), some (.row true 1 (v2.l.map (rI .u8))), some (.row true 1 (v3.l.map (rI .u8))), some (.row false 16 ([v1, v2, v3].map (rA .u8))), some (.row true 1 (v4.l.map (rI .u8))), some (.row true 1 (v5.l.map (rI .u8))), some (.row true 16 (v6.1.map (rA .u8))), some (.row true 16 (v7.1.map (rA .u8))), some (.row true 16 (v8.1.map (rA .u8))), some (.row true 16 (v9.1.map (rA .u8))), some (.row true 16 (v10.1.map (rA .u8))), some (.box ([.D (.I .i64 a12), .D (.L (a13.map (rA .u8)))]))], 12⟩
def F_law03_sanity (N : Nat) : Option Bool := bd? (F_merkle_Leaf N ([97] : Str)) fun v1 => bd? (F_merkle_Leaf N ([98] : Str)) fun v2 => bd? (F_merkle_Leaf N ([99] : Str)) fun v3 => bd? (F_merkle_Node N v1 v2) fun v4 => bd? (F_merkle_Node N v4 v3) fun v5 => bd? (F_merkle_Inclusion N [v1, v2, v3] 0) fun v6 => bd? (F_merkle_Inclusion N [v1, v2, v3] 2) fun v7 => bd? (F_merkle_Consistency N [v1, v2, v3] 1) fun v8 => bd? (F_merkle_Consistency N [v1, v2, v3] 2) fun v9 => bd? (F_merkle_Many N [v1, v2, v3] [0, 2]) fun v10 => L_law03_sanity_0 N v1 v2 v3 v4 v5 v6 v7 v8 v9 v10 N 0 0 []
theorem c_law03_sanity (N : Nat) (r : Bool) (h : F_law03_sanity N = some r) : ACall Tryd.prog 12 [] [] (.D (.B r)) [] [] := by
  refine ACall.of_bodyW [] (fn := Tryd.f12) (rc := f12c) (rs := f12r) Tryd.func12 rfl rfl (by kernel_rfl) (by kernel_rfl) (by kernel_rfl) (by rw [Tryd.ntmps12]; simp) ?_
  unfold F_law03_sanity at h
  unfold f12c f12r
  rw [entry_eq _ _]
  obtain ⟨v1, h1103, h⟩ := F_bd h
  simp (disch := first | assumption | (simp; done) | omega | (simp; omega)) only [push_cast, seval]
  refine call_flat (by rfl) (c_merkle_Leaf N _ _ h1103) ?_ (by simp [AV.flat, AV.flatL, flatL_aI, flatL_app, DV.flat]) ?_
  · simp (disch := first | assumption | (simp; done) | omega | (simp; omega)) only [push_cast, seval] <;> rfl
  obtain ⟨v2, h1104, h⟩ := F_bd h
  simp (disch := first | assumption | (simp; done) | omega | (simp; omega)) only [push_cast, seval]
  refine call_flat (by rfl) (c_merkle_Leaf N _ _ h1104) ?_ (by simp [AV.flat, AV.flatL, flatL_aI, flatL_app, DV.flat]) ?_
  · simp (disch := first | assumption | (simp; done) | omega | (simp; omega)) only [push_cast, seval] <;> rfl
  obtain ⟨v3, h1105, h⟩ := F_bd h
  simp (disch := first | assumption | (simp; done) | omega | (simp; omega)) only [push_cast, seval]
  refine call_flat (by rfl) (c_merkle_Leaf N _ _ h1105) ?_ (by simp [AV.flat, AV.flatL, flatL_aI, flatL_app, DV.flat]) ?_
  · simp (disch := first | assumption | (simp; done) | omega | (simp; omega)) only [push_cast, seval] <;> rfl
  obtain ⟨v4, h1106, h⟩ := F_bd h
  simp (disch := first | assumption | (simp; done) | omega | (simp; omega)) only [push_cast, seval]
  refine call_flat (by rfl) (c_merkle_Node N _ _ _ h1106) ?_ (by simp [AV.flat, AV.flatL, flatL_aI, flatL_app, DV.flat]) ?_
  · simp (disch := first | assumption | (simp; done) | omega | (simp; omega)) only [push_cast, seval] <;> rfl
  obtain ⟨v5, h1107, h⟩ := F_bd h
  simp (disch := first | assumption | (simp; done) | omega | (simp; omega)) only [push_cast, seval]
  refine call_flat (by rfl) (c_merkle_Node N _ _ _ h1107) ?_ (by simp [AV.flat, AV.flatL, flatL_aI, flatL_app, DV.flat]) ?_
  · simp (disch := first | assumption | (simp; done) | omega | (simp; omega)) only [push_cast, seval] <;> rfl
  obtain ⟨v6, h1108, h⟩ := F_bd h
  simp (disch := first | assumption | (simp; done) | omega | (simp; omega)) only [push_cast, seval]
  refine call_new (by rfl) (c_merkle_Inclusion N _ _ _ h1108) ?_ rfl ?_
  · simp (disch := first | assumption | (simp; done) | omega | (simp; omega)) only [push_cast, seval] <;> rfl
  obtain ⟨v7, h1109, h⟩ := F_bd h
  simp (disch := first | assumption | (simp; done) | omega | (simp; omega)) only [push_cast, seval]
  refine call_new (by rfl) (c_merkle_Inclusion N _ _ _ h1109) ?_ rfl ?_
  · simp (disch := first | assumption | (simp; done) | omega | (simp; omega)) only [push_cast, seval] <;> rfl
  obtain ⟨v8, h1110, h⟩ := F_bd h
  simp (disch := first | assumption | (simp; done) | omega | (simp; omega)) only [push_cast, seval]
  refine call_new (by rfl) (c_merkle_Consistency N _ _ _ h1110) ?_ rfl ?_
  · simp (disch := first | assumption | (simp; done) | omega | (simp; omega)) only [push_cast, seval] <;> rfl
  obtain ⟨v9, h1111, h⟩ := F_bd h
  simp (disch := first | assumption | (simp; done) | omega | (simp; omega)) only [push_cast, seval]
  refine call_new (by rfl) (c_merkle_Consistency N _ _ _ h1111) ?_ rfl ?_
  · simp (disch := first | assumption | (simp; done) | omega | (simp; omega)) only [push_cast, seval] <;> rfl
  obtain ⟨v10, h1112, h⟩ := F_bd h
  simp (disch := first | assumption | (simp; done) | omega | (simp; omega)) only [push_cast, seval]
  refine call_new (by rfl) (c_merkle_Many N _ _ _ h1112) ?_ rfl ?_
  · simp (disch := first | assumption | (simp; done) | omega | (simp; omega)) only [push_cast, seval] <;> rfl
  simp (disch := first | assumption | (simp; done) | omega | (simp; omega)) only [push_cast, seval]
  refine loop_of (I_law03_sanity_0 N v1 v2 v3 v4 v5 v6 v7 v8 v9 v10 _) N [1, 2, 3, 4, 5, 6, 7, 8, 9, 10, 11, 12, 13, 14, 15, 16, 17, 18] [0, 1, 2, 3, 4, 5, 6, 7, 8, 9, 11, 12] (by decide) ⟨0, 0, [], h, ?_⟩ ?_
  · rw [wk_mk]
    simp (disch := first | assumption | (simp; done) | omega | (simp; omega)) only [push_cast, seval] <;> rfl
  rintro n s ⟨a11, a12, a13, h, rfl⟩
  rcases n with _ | m1
  · exact absurd h (by simp [L_law03_sanity_0])
  rw [L_law03_sanity_0] at h
  unfold f12b20
  rcases F_if h with ⟨h1113, h⟩ | ⟨h1113, h⟩
  · obtain ⟨x14, h1114, h1115, h⟩ := F_get h
    have h1117 := get_lt h1114 h1115
    have h1116 := map_get (rA .u8) h1115
    try simp (disch := first | assumption | (simp; done) | omega | (simp; omega)) only [push_cast, seval] at h1116
    try simp (disch := first | assumption | (simp; done) | omega | (simp; omega)) only [push_cast, seval] at h1114
    try simp (disch := first | assumption | (simp; done) | omega | (simp; omega)) only [push_cast, seval] at h1117
    obtain ⟨v15, h1118, h⟩ := F_bd h
    simp (disch := first | assumption | (simp; done) | omega | (simp; omega)) only [push_cast, seval, h1113, h1114, h1116, h1117]
    refine call_new (by rfl) (c_merkle_Append N _ _ _ h1118) ?_ rfl ?_
    · simp (disch := first | assumption | (simp; done) | omega | (simp; omega)) only [push_cast, seval, h1113, h1114, h1116, h1117] <;> rfl
    rcases F_if h with ⟨h1119, h⟩ | ⟨h1119, h⟩
    · obtain rfl := Option.some.inj h
      simp (disch := first | assumption | (simp; done) | omega | (simp; omega)) only [push_cast, seval, h1113, h1114, h1116, h1117, h1119]
      refine e_ret (.inr rfl) ?_
      simp (disch := first | assumption | (simp; done) | omega | (simp; omega)) only [push_cast, seval, aret, aresults, aresult, h1113, h1114, h1116, h1117, h1119]
      refine ⟨_, rfl, ?_⟩
      first | (simp (disch := first | assumption | (simp; done) | omega | (simp; omega)) only [push_cast, seval, h1113, h1114, h1116, h1117, h1119] <;> rfl) | rfl
    obtain ⟨h1120, h⟩ := F_ck h
    try simp (disch := first | assumption | (simp; done) | omega | (simp; omega)) only [push_cast, seval] at h1120
    simp (disch := first | assumption | (simp; done) | omega | (simp; omega)) only [push_cast, seval, h1113, h1114, h1116, h1117, h1119, h1120]
    refine lpK_of m1 [1, 2, 3, 4, 5, 6, 7, 8, 9, 10, 11, 12, 13, 14, 15, 16, 17, 18] [0, 1, 2, 3, 4, 5, 6, 7, 8, 9, 10, 11] (by omega) (by decide) ⟨(a11 + 1), v15.1.Size, v15.1.Tops, (by first | exact h | simpa only [*] using h), ?_⟩
    rw [wk_mk]
    simp (disch := first | assumption | (simp; done) | omega | (simp; omega)) only [push_cast, seval, h1113, h1114, h1116, h1117, h1119, h1120] <;> rfl
  obtain ⟨h1121, h⟩ := F_gd h
  obtain ⟨h1122, h⟩ := F_gd h
  obtain ⟨h1123, h⟩ := F_gd h
  obtain ⟨h1124, h⟩ := F_gd h
  obtain ⟨h1125, h⟩ := F_gd h
  obtain ⟨v16, h1126, h⟩ := F_bd h
  simp (disch := first | assumption | (simp; done) | omega | (simp; omega)) only [push_cast, seval, h1113, h1121, h1122, h1123, h1124, h1125]
  refine call_flat (by rfl) (c_merkle_Root N _ _ h1126) ?_ (by simp [AV.flat, AV.flatL, flatL_aI, flatL_app, DV.flat]) ?_
  · simp (disch := first | assumption | (simp; done) | omega | (simp; omega)) only [push_cast, seval, h1113, h1121, h1122, h1123, h1124, h1125] <;> rfl
  obtain ⟨h1127, h⟩ := F_gd h
  obtain ⟨v17, h1128, h⟩ := F_bd h
  simp (disch := first | assumption | (simp; done) | omega | (simp; omega)) only [push_cast, seval, h1113, h1121, h1122, h1123, h1124, h1125, h1127]
  refine call_flat (by rfl) (c_ref03_Leaf N _ _ h1128) ?_ (by simp [AV.flat, AV.flatL, flatL_aI, flatL_app, DV.flat]) ?_
  · simp (disch := first | assumption | (simp; done) | omega | (simp; omega)) only [push_cast, seval, h1113, h1121, h1122, h1123, h1124, h1125, h1127] <;> rfl
  obtain ⟨h1129, h⟩ := F_gd h
  obtain ⟨v18, h1130, h⟩ := F_bd h
  simp (disch := first | assumption | (simp; done) | omega | (simp; omega)) only [push_cast, seval, h1113, h1121, h1122, h1123, h1124, h1125, h1127, h1129]
  refine call_flat (by rfl) (c_ref03_Node N _ _ _ h1130) ?_ (by simp [AV.flat, AV.flatL, flatL_aI, flatL_app, DV.flat]) ?_
  · simp (disch := first | assumption | (simp; done) | omega | (simp; omega)) only [push_cast, seval, h1113, h1121, h1122, h1123, h1124, h1125, h1127, h1129] <;> rfl
  obtain ⟨v19, h1131, h⟩ := F_bd h
  simp (disch := first | assumption | (simp; done) | omega | (simp; omega)) only [push_cast, seval, h1113, h1121, h1122, h1123, h1124, h1125, h1127, h1129]
  refine call_flat (by rfl) (c_ref03_Same N _ _ _ h1131) ?_ rfl ?_
  · simp (disch := first | assumption | (simp; done) | omega | (simp; omega)) only [push_cast, seval, h1113, h1121, h1122, h1123, h1124, h1125, h1127, h1129] <;> rfl
  obtain ⟨h1132, h⟩ := F_gd h
  obtain ⟨v20, h1133, h⟩ := F_bd h
  simp (disch := first | assumption | (simp; done) | omega | (simp; omega)) only [push_cast, seval, h1113, h1121, h1122, h1123, h1124, h1125, h1127, h1129, h1132]
  refine call_flat (by rfl) (c_ref03_Same N _ _ _ h1133) ?_ rfl ?_
  · simp (disch := first | assumption | (simp; done) | omega | (simp; omega)) only [push_cast, seval, h1113, h1121, h1122, h1123, h1124, h1125, h1127, h1129, h1132] <;> rfl
  obtain ⟨h1134, h⟩ := F_gd h
  obtain ⟨v21, h1135, h⟩ := F_bd h
  simp (disch := first | assumption | (simp; done) | omega | (simp; omega)) only [push_cast, seval, h1113, h1121, h1122, h1123, h1124, h1125, h1127, h1129, h1132, h1134]
  refine call_flat (by rfl) (c_ref03_Same N _ _ _ h1135) ?_ rfl ?_
  · simp (disch := first | assumption | (simp; done) | omega | (simp; omega)) only [push_cast, seval, h1113, h1121, h1122, h1123, h1124, h1125, h1127, h1129, h1132, h1134] <;> rfl
  obtain ⟨h1136, h⟩ := F_gd h
  obtain ⟨v22, h1137, h⟩ := F_bd h
  simp (disch := first | assumption | (simp; done) | omega | (simp; omega)) only [push_cast, seval, h1113, h1121, h1122, h1123, h1124, h1125, h1127, h1129, h1132, h1134, h1136]
  refine call_flat (by rfl) (c_ref03_Same N _ _ _ h1137) ?_ rfl ?_
  · simp (disch := first | assumption | (simp; done) | omega | (simp; omega)) only [push_cast, seval, h1113, h1121, h1122, h1123, h1124, h1125, h1127, h1129, h1132, h1134, h1136] <;> rfl
  obtain ⟨h1138, h⟩ := F_gd h
  obtain ⟨v23, h1139, h⟩ := F_bd h
  simp (disch := first | assumption | (simp; done) | omega | (simp; omega)) only [push_cast, seval, h1113, h1121, h1122, h1123, h1124, h1125, h1127, h1129, h1132, h1134, h1136, h1138]
  refine call_flat (by rfl) (c_ref03_Same N _ _ _ h1139) ?_ rfl ?_
  · simp (disch := first | assumption | (simp; done) | omega | (simp; omega)) only [push_cast, seval, h1113, h1121, h1122, h1123, h1124, h1125, h1127, h1129, h1132, h1134, h1136, h1138] <;> rfl
  obtain ⟨v24, h1140, h⟩ := F_bd h
  simp (disch := first | assumption | (simp; done) | omega | (simp; omega)) only [push_cast, seval, h1113, h1121, h1122, h1123, h1124, h1125, h1127, h1129, h1132, h1134, h1136, h1138]
  refine call_flat (by rfl) (c_merkle_CheckInclusion N _ _ _ _ _ _ h1140) ?_ rfl ?_
  · simp (disch := first | assumption | (simp; done) | omega | (simp; omega)) only [push_cast, seval, h1113, h1121, h1122, h1123, h1124, h1125, h1127, h1129, h1132, h1134, h1136, h1138] <;> rfl
  obtain ⟨h1141, h⟩ := F_gd h
  obtain ⟨v25, h1142, h⟩ := F_bd h
  simp (disch := first | assumption | (simp; done) | omega | (simp; omega)) only [push_cast, seval, h1113, h1121, h1122, h1123, h1124, h1125, h1127, h1129, h1132, h1134, h1136, h1138, h1141]
  refine call_flat (by rfl) (c_merkle_CheckConsistency N _ _ _ _ _ _ h1142) ?_ rfl ?_
  · simp (disch := first | assumption | (simp; done) | omega | (simp; omega)) only [push_cast, seval, h1113, h1121, h1122, h1123, h1124, h1125, h1127, h1129, h1132, h1134, h1136, h1138, h1141] <;> rfl
  obtain ⟨h1143, h⟩ := F_gd h
  obtain ⟨v26, h1144, h⟩ := F_bd h
  simp (disch := first | assumption | (simp; done) | omega | (simp; omega)) only [push_cast, seval, h1113, h1121, h1122, h1123, h1124, h1125, h1127, h1129, h1132, h1134, h1136, h1138, h1141, h1143]
  refine call_flat (by rfl) (c_merkle_CheckMany N _ _ _ _ _ _ h1144) ?_ rfl ?_
  · simp (disch := first | assumption | (simp; done) | omega | (simp; omega)) only [push_cast, seval, h1113, h1121, h1122, h1123, h1124, h1125, h1127, h1129, h1132, h1134, h1136, h1138, h1141, h1143] <;> rfl
  obtain ⟨h1145, h⟩ := F_gd h
  obtain ⟨v27, h1146, h⟩ := F_bd h
  simp (disch := first | assumption | (simp; done) | omega | (simp; omega)) only [push_cast, seval, h1113, h1121, h1122, h1123, h1124, h1125, h1127, h1129, h1132, h1134, h1136, h1138, h1141, h1143, h1145]
  refine call_flat (by rfl) (c_merkle_CheckInclusion N _ _ _ _ _ _ h1146) ?_ rfl ?_
  · simp (disch := first | assumption | (simp; done) | omega | (simp; omega)) only [push_cast, seval, h1113, h1121, h1122, h1123, h1124, h1125, h1127, h1129, h1132, h1134, h1136, h1138, h1141, h1143, h1145] <;> rfl
  obtain ⟨h1147, h⟩ := F_gd h
  obtain ⟨h1148, h⟩ := F_gd h
  obtain ⟨h1149, h⟩ := F_gd h
  obtain ⟨h1150, h⟩ := F_gd h
  obtain ⟨v28, h1151, h⟩ := F_bd h
  simp (disch := first | assumption | (simp; done) | omega | (simp; omega)) only [push_cast, seval, h1113, h1121, h1122, h1123, h1124, h1125, h1127, h1129, h1132, h1134, h1136, h1138, h1141, h1143, h1145, h1147, h1148, h1149, h1150]
  refine call_flat (by rfl) (c_ref03_Same N _ _ _ h1151) ?_ rfl ?_
  · simp (disch := first | assumption | (simp; done) | omega | (simp; omega)) only [push_cast, seval, h1113, h1121, h1122, h1123, h1124, h1125, h1127, h1129, h1132, h1134, h1136, h1138, h1141, h1143, h1145, h1147, h1148, h1149, h1150] <;> rfl
  obtain rfl := Option.some.inj h
  simp (disch := first | assumption | (simp; done) | omega | (simp; omega)) only [push_cast, seval, h1113, h1121, h1122, h1123, h1124, h1125, h1127, h1129, h1132, h1134, h1136, h1138, h1141, h1143, h1145, h1147, h1148, h1149, h1150]
  refine e_ret (.inr rfl) ?_
  simp (disch := first | assumption | (simp; done) | omega | (simp; omega)) only [push_cast, seval, aret, aresults, aresult, h1113, h1121, h1122, h1123, h1124, h1125, h1127, h1129, h1132, h1134, h1136, h1138, h1141, h1143, h1145, h1147, h1148, h1149, h1150]
  refine ⟨_, rfl, ?_⟩
  first | (simp (disch := first | assumption | (simp; done) | omega | (simp; omega)) only [push_cast, seval, h1113, h1121, h1122, h1123, h1124, h1125, h1127, h1129, h1132, h1134, h1136, h1138, h1141, h1143, h1145, h1147, h1148, h1149, h1150] <;> rfl) | rfl

def f30g0 : List RO := [o_ 4 (.boxR (t_ 0)), o_ 8 (.mv (.const (.slice .none 0 0)))]
def f30g1 : List RO := [o_ 9 (.mv (.const (.slice .none 0 0)))]
def f30g2 : List RO := [o_ 16 (.mv (t_ 2)), o_ 17 (.bin .gtr (t_ 16) (.const (.int .i64 1)))]
def f30g3 : List RO := [o_ 10 (.mv (.const (.int .i64 1)))]
def f30g4 : List RO := [o_ 18 (.mv (t_ 10)), o_ 19 (.bin .mul (.const (.int .i64 2)) (t_ 18)), o_ 20 (.mv (t_ 2)), o_ 21 (.bin .lss (t_ 19) (t_ 20))]
def f30g5 : List RO := [o_ 22 (.mv (t_ 10)), o_ 23 (.bin .mul (.const (.int .i64 2)) (t_ 22)), o_ 10 (.mv (t_ 23))]
def f30b6 : RCode := (.seq (.seq (.reg .false f30g4) (.cond (t_ 21) .skip (.exit 2))) (.block 3 (.reg .false f30g5)))
def f30g7 : List RO := [o_ 24 (.mv (t_ 1)), o_ 25 (.mv (t_ 10)), o_ 26 (.bin .geq (t_ 24) (t_ 25)), o_ 11 (.mv (t_ 26))]
def f30g8 : List RO := [o_ 27 (.mv (t_ 11)), o_ 28 (.bslice 1 [(t_ 27)]), o_ 29 (.mv (t_ 9)), o_ 30 (.appE 1 1 (t_ 28) (t_ 29)), o_ 9 (.mv (t_ 30))]
def f30g9 : List RO := [o_ 31 (.mv (t_ 11))]
def f30g10 : List RO := [o_ 32 (.mv (t_ 1)), o_ 33 (.mv (t_ 10)), o_ 34 (.bin .sub (t_ 32) (t_ 33)), o_ 1 (.mv (t_ 34))]
def f30g11 : List RO := [o_ 35 (.mv (t_ 2)), o_ 36 (.mv (t_ 10)), o_ 37 (.bin .sub (t_ 35) (t_ 36)), o_ 2 (.mv (t_ 37))]
def f30g12 : List RO := [o_ 38 (.mv (t_ 10)), o_ 2 (.mv (t_ 38))]
def f30b13 : RCode := (.seq (.seq (.reg .false f30g2) (.cond (t_ 17) .skip (.exit 0))) (.block 1 (.seq (.reg .false f30g3) (.seq (.block 2 (.loop f30b6)) (.seq (.reg .false f30g7) (.seq (.reg .false f30g8) (.seq (.reg .false f30g9) (.cond (t_ 31) (.seq (.reg .false f30g10) (.reg .false f30g11)) (.reg .false f30g12)))))))))
def f30g14 : List RO := [o_ 12 (.mv (.const (.slice .none 0 0)))]
def f30g15 : List RO := [o_ 39 (.load (.some 16) (t_ 4)), o_ 13 (.newR ((Arr.zero 16).l.map (aI .u8))), n_ (.store 16 (t_ 13) (t_ 39))]
def f30g16 : List RO := [o_ 14 (.mv (.const (.int .i64 0)))]
def f30g17 : List RO := [o_ 40 (.mv (t_ 14)), o_ 41 (.mv (t_ 9)), o_ 42 (.len .false (t_ 41)), o_ 43 (.bin .lss (t_ 40) (t_ 42)), o_ 44 (.mv (t_ 43)), ⟨(.some 45), (.mv (t_ 14)), (.some (44, .true))⟩, ⟨(.some 46), (.mv (t_ 3)), (.some (44, .true))⟩, ⟨(.some 47), (.len .false (t_ 46)), (.some (44, .true))⟩, ⟨(.some 48), (.bin .lss (t_ 45) (t_ 47)), (.some (44, .true))⟩, o_ 49 (.pick (t_ 44) (t_ 48) (.const (.bool .false)))]
def f30g18 : List RO := [o_ 52 (.load (.some 16) (t_ 13)), o_ 53 (.mv (t_ 3)), o_ 54 (.mv (t_ 14)), o_ 55 (.iaddr 16 (t_ 53) (t_ 54)), o_ 56 (.load (.some 16) (t_ 55)), o_ 57 (.build [(.D (.I .u8 0)), (.D (.I .u8 0)), (.D (.I .u8 0)), (.D (.I .u8 0)), (.D (.I .u8 0)), (.D (.I .u8 0)), (.D (.I .u8 0)), (.D (.I .u8 0)), (.D (.I .u8 0)), (.D (.I .u8 0)), (.D (.I .u8 0)), (.D (.I .u8 0)), (.D (.I .u8 0)), (.D (.I .u8 0)), (.D (.I .u8 0)), (.D (.I .u8 0)), (.D (.I .u8 0)), (.D (.I .u8 0)), (.D (.I .u8 0)), (.D (.I .u8 0)), (.D (.I .u8 0)), (.D (.I .u8 0)), (.D (.I .u8 0)), (.D (.I .u8 0)), (.D (.I .u8 0)), (.D (.I .u8 0)), (.D (.I .u8 0)), (.D (.I .u8 0)), (.D (.I .u8 0)), (.D (.I .u8 0)), (.D (.I .u8 0)), (.D (.I .u8 0))] [(0, (16, (t_ 52))), (16, (16, (t_ 56)))]), o_ 15 (.new (((Arr.zero 16).l.map (aI .u8)) ++ ((Arr.zero 16).l.map (aI .u8)))), n_ (.store 32 (t_ 15) (t_ 57))]
def f30g19 : List RO := [o_ 58 (.mv (t_ 9)), o_ 59 (.mv (t_ 14)), o_ 60 (.iaddr 1 (t_ 58) (t_ 59)), o_ 61 (.load .none (t_ 60))]
def f30g20 : List RO := [o_ 62 (.mv (t_ 3)), o_ 63 (.mv (t_ 14)), o_ 64 (.iaddr 16 (t_ 62) (t_ 63)), o_ 65 (.load (.some 16) (t_ 64)), o_ 66 (.load (.some 16) (t_ 13)), o_ 67 (.build [(.D (.I .u8 0)), (.D (.I .u8 0)), (.D (.I .u8 0)), (.D (.I .u8 0)), (.D (.I .u8 0)), (.D (.I .u8 0)), (.D (.I .u8 0)), (.D (.I .u8 0)), (.D (.I .u8 0)), (.D (.I .u8 0)), (.D (.I .u8 0)), (.D (.I .u8 0)), (.D (.I .u8 0)), (.D (.I .u8 0)), (.D (.I .u8 0)), (.D (.I .u8 0)), (.D (.I .u8 0)), (.D (.I .u8 0)), (.D (.I .u8 0)), (.D (.I .u8 0)), (.D (.I .u8 0)), (.D (.I .u8 0)), (.D (.I .u8 0)), (.D (.I .u8 0)), (.D (.I .u8 0)), (.D (.I .u8 0)), (.D (.I .u8 0)), (.D (.I .u8 0)), (.D (.I .u8 0)), (.D (.I .u8 0)), (.D (.I .u8 0)), (.D (.I .u8 0))] [(0, (16, (t_ 65))), (16, (16, (t_ 66)))]), n_ (.store 32 (t_ 15) (t_ 67))]
def f30g21 : List RO := [o_ 68 (.mv (t_ 12)), o_ 69 (.load (.some 32) (t_ 15)), o_ 70 (.bslice 32 [(t_ 69)]), o_ 71 (.appE 32 32 (t_ 68) (t_ 70)), o_ 12 (.mv (t_ 71))]
def f30g22 : List RO := [o_ 72 (.iaddrA 2 16 (t_ 15) (.const (.int .i64 0))), o_ 73 (.load (.some 16) (t_ 72)), o_ 74 (.iaddrA 2 16 (t_ 15) (.const (.int .i64 1))), o_ 75 (.load (.some 16) (t_ 74)), o_ 76 (.call (.func 22) [(t_ 73), (t_ 75)]), n_ (.store 16 (t_ 13) (t_ 76))]
def f30g23 : List RO := [o_ 50 (.mv (t_ 14)), o_ 51 (.bin .add (t_ 50) (.const (.int .i64 1))), o_ 14 (.mv (t_ 51))]
def f30b24 : RCode := (.seq (.seq (.reg .false f30g17) (.cond (t_ 49) .skip (.exit 4))) (.seq (.block 5 (.seq (.reg .true f30g18) (.seq (.seq (.reg .false f30g19) (.cond (t_ 61) (.reg .true f30g20) .skip)) (.seq (.reg .false f30g21) (.reg .false f30g22))))) (.reg .false f30g23)))
def f30g25 : List RO := [o_ 77 (.mv (t_ 12)), o_ 8 (.mv (t_ 77))]
def f30c : RCode := (.seq (.reg .false f30g0) (.seq (.reg .false f30g1) (.seq (.block 0 (.loop f30b13)) (.seq (.reg .false f30g14) (.seq (.reg .false f30g15) (.seq (.seq (.reg .false f30g16) (.block 4 (.loop f30b24))) (.seq (.reg .false f30g25) .ret)))))))
def f30r : List RRes := [(.tmp 8)]
attribute [push_cast] f30g0 f30g1 f30g2 f30g3 f30g4 f30g5 f30g7 f30g8 f30g9 f30g10 f30g11 f30g12 f30g14 f30g15 f30g16 f30g17 f30g18 f30g19 f30g20 f30g21 f30g22 f30g23 f30g25
def L_law03_steps_1 (N : Nat) (k0 : Int → Int → (Arr 16) → (List Bool) → Option (List A2Arr16)) (a1 : Int) (a2 : Int) (a3 : (Arr 16)) (a4 : (List Bool)) : Nat → Int → Option (List A2Arr16)
  | 0, _ => none
  | m2+1, a5 => ck .i64 (2 * a5) (if? (decide ((2 * a5) < a2)) (L_law03_steps_1 N k0 a1 a2 a3 a4 m2 (2 * a5)) (gd? (([decide (a1 ≥ a5)].length + a4.length) * 1 ≤ 140737488355328) (if? (decide (a1 ≥ a5)) (ck .i64 (a1 - a5) (ck .i64 (a2 - a5) (k0 (a1 - a5) (a2 - a5) a3 ([decide (a1 ≥ a5)] ++ a4)))) (k0 a1 a5 a3 ([decide (a1 ≥ a5)] ++ a4)))))
def I_law03_steps_1 (N : Nat) (k0 : Int → Int → (Arr 16) → (List Bool) → Option (List A2Arr16)) (p3 : (List (Arr 16))) (a1 : Int) (a2 : Int) (a3 : (Arr 16)) (a4 : (List Bool)) (r : (List A2Arr16)) (n : Nat) (s : AState) : Prop := ∃ (a5 : Int), L_law03_steps_1 N k0 a1 a2 a3 a4 n a5 = some r ∧ s = ⟨envL [(1, .D (.I .i64 a1)), (2, .D (.I .i64 a2)), (3, .D (.L (p3.map (rA .u8)))), (4, .eptr (.O 0) 1 0 0), (9, .sl (.O 1) 1 0 a4.length), (10, .D (.I .i64 a5))], ownL [], ownL [some (.row true 1 (a3.l.map (rI .u8))), some (.row true 1 (a4.map rB))], 2⟩
def L_law03_steps_2 (N : Nat) (p3 : (List (Arr 16))) (a4 : (List Bool)) : Nat → Int → (Arr 16) → (List A2Arr16) → Option (List A2Arr16)
  | 0, _, _, _ => none
  | m3+1, a6, a7, a8 => if? (decide (a6 < (a4.length : Int))) (if? (decide (a6 < (p3.length : Int))) (get? p3 (a6) fun x9 => get? a4 (a6) fun x10 => if? (x10) (gd? ((a8.length + [(A2Arr16.mk x9 a7)].length) * 32 ≤ 140737488355328) (bd? (F_merkle_Node N x9 a7) fun v11 => ck .i64 (a6 + 1) (L_law03_steps_2 N p3 a4 m3 (a6 + 1) v11 (a8 ++ [(A2Arr16.mk x9 a7)])))) (gd? ((a8.length + [(A2Arr16.mk a7 x9)].length) * 32 ≤ 140737488355328) (bd? (F_merkle_Node N a7 x9) fun v12 => ck .i64 (a6 + 1) (L_law03_steps_2 N p3 a4 m3 (a6 + 1) v12 (a8 ++ [(A2Arr16.mk a7 x9)]))))) (some (a8))) (some (a8))
def I_law03_steps_2 (N : Nat) (p3 : (List (Arr 16))) (a4 : (List Bool)) (r : (List A2Arr16)) (n : Nat) (s : AState) : Prop := ∃ (a6 : Int) (a7 : (Arr 16)) (a8 : (List A2Arr16)), L_law03_steps_2 N p3 a4 n a6 a7 a8 = some r ∧ s = ⟨envL [(3, .D (.L (p3.map (rA .u8)))), (9, .sl (.O 0) 1 0 a4.length), (12, .sl (.O 2) 32 0 a8.length), (13, .eptr (.O 1) 1 0 0), (14, .D (.I .i64 a6))], ownL [], ownL [some (.row true 1 (a4.map rB)), some (.row true 1 (a7.l.map (rI .u8))), some (.row true 32 (a8.map A2Arr16.row))], 3⟩
def L_law03_steps_0 (N : Nat) (p3 : (List (Arr 16))) : Nat → Int → Int → (Arr 16) → (List Bool) → Option (List A2Arr16)
  | 0, _, _, _, _ => none
  | m1+1, a1, a2, a3, a4 => if? (decide (a2 > 1)) (L_law03_steps_1 N (L_law03_steps_0 N p3 m1) a1 a2 a3 a4 N 1) (L_law03_steps_2 N p3 a4 N 0 a3 [])
def I_law03_steps_0 (N : Nat) (p3 : (List (Arr 16))) (r : (List A2Arr16)) (n : Nat) (s : AState) : Prop := ∃ (a1 : Int) (a2 : Int) (a3 : (Arr 16)) (a4 : (List Bool)), L_law03_steps_0 N p3 n a1 a2 a3 a4 = some r ∧ s = ⟨envL [(1, .D (.I .i64 a1)), (2, .D (.I .i64 a2)), (3, .D (.L (p3.map (rA .u8)))), (4, .eptr (.O 0) 1 0 0), (9, .sl (.O 1) 1 0 a4.length)], ownL [], ownL [some (.row true 1 (a3.l.map (rI .u8))), some (.row true 1 (a4.map rB))], 2⟩
def F_law03_steps (N : Nat) (p0 : (Arr 16)) (p1 : Int) (p2 : Int) (p3 : (List (Arr 16))) : Option (List A2Arr16) := L_law03_steps_0 N p3 N p1 p2 p0 []
theorem c_law03_steps (N : Nat) (p0 : (Arr 16)) (p1 : Int) (p2 : Int) (p3 : (List (Arr 16))) (r : (List A2Arr16)) (h : F_law03_steps N p0 p1 p2 p3 = some r) : ACall Tryd.prog 30 [.agg (p0.l.map (aI .u8)), .D (.I .i64 p1), .D (.I .i64 p2), .D (.L (p3.map (rA .u8)))] [] (.sl (.O 0) 32 0 r.length) [] [.row true 32 (r.map A2Arr16.row)] := by
  refine ACall.of_bodyW [30, 71] (fn := Tryd.f30) (rc := f30c) (rs := f30r) Tryd.func30 rfl rfl (by kernel_rfl) (by kernel_rfl) (by kernel_rfl) (by rw [Tryd.ntmps30]; simp) ?_
  unfold F_law03_steps at h
  unfold f30c f30r
  rw [entry_eq _ _]
  simp (disch := first | assumption | (simp; done) | omega | (simp; omega)) only [push_cast, seval]
  refine loop_own0 9 1 rfl ?_
  simp (disch := first | assumption | (simp; done) | omega | (simp; omega)) only [push_cast, seval]
  refine loop_of (I_law03_steps_0 N p3 _) N [1, 2, 3, 4, 9] [0, 1] (by decide) ⟨p1, p2, p0, [], h, ?_⟩ ?_
  · rw [wk_mk]
    simp (disch := first | assumption | (simp; done) | omega | (simp; omega)) only [push_cast, seval] <;> rfl
  rintro n s ⟨a1, a2, a3, a4, h, rfl⟩
  rcases n with _ | m1
  · exact absurd h (by simp [L_law03_steps_0])
  rw [L_law03_steps_0] at h
  unfold f30b13
  rcases F_if h with ⟨h1152, h⟩ | ⟨h1152, h⟩
  · simp (disch := first | assumption | (simp; done) | omega | (simp; omega)) only [push_cast, seval, h1152]
    refine loop_of (I_law03_steps_1 N (L_law03_steps_0 N p3 m1) p3 a1 a2 a3 a4 _) N [1, 2, 3, 4, 9, 10] [0, 1] (by decide) ⟨1, h, ?_⟩ ?_
    · rw [wk_mk]
      simp (disch := first | assumption | (simp; done) | omega | (simp; omega)) only [push_cast, seval, h1152] <;> rfl
    rintro n s ⟨a5, h, rfl⟩
    rcases n with _ | m2
    · exact absurd h (by simp [L_law03_steps_1])
    rw [L_law03_steps_1] at h
    unfold f30b6
    obtain ⟨h1153, h⟩ := F_ck h
    try simp (disch := first | assumption | (simp; done) | omega | (simp; omega)) only [push_cast, seval] at h1153
    rcases F_if h with ⟨h1154, h⟩ | ⟨h1154, h⟩
    · try simp (disch := first | assumption | (simp; done) | omega | (simp; omega)) only [push_cast, seval] at h1154
      simp (disch := first | assumption | (simp; done) | omega | (simp; omega)) only [push_cast, seval, h1152, h1153, h1154]
      refine lpK_of m2 [1, 2, 3, 4, 9, 10] [0, 1] (by omega) (by decide) ⟨(2 * a5), (by first | exact h | simpa only [*] using h), ?_⟩
      rw [wk_mk]
      simp (disch := first | assumption | (simp; done) | omega | (simp; omega)) only [push_cast, seval, h1152, h1153, h1154] <;> rfl
    try simp (disch := first | assumption | (simp; done) | omega | (simp; omega)) only [push_cast, seval] at h1154
    obtain ⟨h1155, h⟩ := F_gd h
    try simp (disch := first | assumption | (simp; done) | omega | (simp; omega)) only [push_cast, seval] at h1155
    rcases F_if h with ⟨h1156, h⟩ | ⟨h1156, h⟩
    rotate_left
    · simp (disch := first | assumption | (simp; done) | omega | (simp; omega)) only [push_cast, seval, h1152, h1153, h1154, h1155, h1156]
      refine lpK_of m1 [1, 2, 3, 4, 9] [0, 3] (by omega) (by decide) ⟨a1, a5, a3, ([decide (a1 ≥ a5)] ++ a4), (by first | exact h | simpa only [*] using h), ?_⟩
      rw [wk_mk]
      simp (disch := first | assumption | (simp; done) | omega | (simp; omega)) only [push_cast, seval, h1152, h1153, h1154, h1155, h1156] <;> rfl
    obtain ⟨h1157, h⟩ := F_ck h
    try simp (disch := first | assumption | (simp; done) | omega | (simp; omega)) only [push_cast, seval] at h1157
    obtain ⟨h1158, h⟩ := F_ck h
    try simp (disch := first | assumption | (simp; done) | omega | (simp; omega)) only [push_cast, seval] at h1158
    simp (disch := first | assumption | (simp; done) | omega | (simp; omega)) only [push_cast, seval, h1152, h1153, h1154, h1155, h1156, h1157, h1158]
    refine lpK_of m1 [1, 2, 3, 4, 9] [0, 3] (by omega) (by decide) ⟨(a1 - a5), (a2 - a5), a3, ([decide (a1 ≥ a5)] ++ a4), (by first | exact h | simpa only [*] using h), ?_⟩
    rw [wk_mk]
    simp (disch := first | assumption | (simp; done) | omega | (simp; omega)) only [push_cast, seval, h1152, h1153, h1154, h1155, h1156, h1157, h1158] <;> rfl
  simp (disch := first | assumption | (simp; done) | omega | (simp; omega)) only [push_cast, seval, h1152]
  refine loop_own0 12 32 rfl ?_
  simp (disch := first | assumption | (simp; done) | omega | (simp; omega)) only [push_cast, seval, h1152]
  refine loop_of (I_law03_steps_2 N p3 a4 _) N [3, 9, 12, 13, 14] [1, 2, 3] (by decide) ⟨0, a3, [], h, ?_⟩ ?_
  · rw [wk_mk]
    simp (disch := first | assumption | (simp; done) | omega | (simp; omega)) only [push_cast, seval, h1152] <;> rfl
  rintro n s ⟨a6, a7, a8, h, rfl⟩
  rcases n with _ | m3
  · exact absurd h (by simp [L_law03_steps_2])
  rw [L_law03_steps_2] at h
  unfold f30b24
  rcases F_if h with ⟨h1159, h⟩ | ⟨h1159, h⟩
  rotate_left
  · obtain rfl := Option.some.inj h
    simp (disch := first | assumption | (simp; done) | omega | (simp; omega)) only [push_cast, seval, h1152, h1159]
    refine AEndW.of [2] (.inr rfl) (by decide) rfl ?_ rfl ?_
    · simp (disch := first | assumption | (simp; done) | omega | (simp; omega)) only [push_cast, seval, h1152, h1159] <;> rfl
    · simp (disch := first | assumption | (simp; done) | omega | (simp; omega)) only [push_cast, seval, h1152, h1159] <;> rfl
  rcases F_if h with ⟨h1160, h⟩ | ⟨h1160, h⟩
  rotate_left
  · obtain rfl := Option.some.inj h
    simp (disch := first | assumption | (simp; done) | omega | (simp; omega)) only [push_cast, seval, h1152, h1159, h1160]
    refine AEndW.of [2] (.inr rfl) (by decide) rfl ?_ rfl ?_
    · simp (disch := first | assumption | (simp; done) | omega | (simp; omega)) only [push_cast, seval, h1152, h1159, h1160] <;> rfl
    · simp (disch := first | assumption | (simp; done) | omega | (simp; omega)) only [push_cast, seval, h1152, h1159, h1160] <;> rfl
  obtain ⟨x9, h1161, h1162, h⟩ := F_get h
  have h1164 := get_lt h1161 h1162
  have h1163 := map_get (rA .u8) h1162
  try simp (disch := first | assumption | (simp; done) | omega | (simp; omega)) only [push_cast, seval] at h1163
  obtain ⟨x10, h1165, h1166, h⟩ := F_get h
  have h1168 := get_lt h1165 h1166
  have h1167 := map_get rB h1166
  try simp (disch := first | assumption | (simp; done) | omega | (simp; omega)) only [push_cast, seval] at h1167
  rcases F_if h with ⟨h1169, h⟩ | ⟨h1169, h⟩
  · obtain ⟨h1170, h⟩ := F_gd h
    try simp (disch := first | assumption | (simp; done) | omega | (simp; omega)) only [push_cast, seval] at h1170
    obtain ⟨v11, h1171, h⟩ := F_bd h
    simp (disch := first | assumption | (simp; done) | omega | (simp; omega)) only [push_cast, seval, h1152, h1159, h1160, h1161, h1163, h1164, h1165, h1167, h1168, h1169, h1170]
    refine call_flat (by rfl) (c_merkle_Node N _ _ _ h1171) ?_ (by simp [AV.flat, AV.flatL, flatL_aI, flatL_app, DV.flat]) ?_
    · simp (disch := first | assumption | (simp; done) | omega | (simp; omega)) only [push_cast, seval, h1152, h1159, h1160, h1161, h1163, h1164, h1165, h1167, h1168, h1169, h1170] <;> rfl
    obtain ⟨h1172, h⟩ := F_ck h
    try simp (disch := first | assumption | (simp; done) | omega | (simp; omega)) only [push_cast, seval] at h1172
    simp (disch := first | assumption | (simp; done) | omega | (simp; omega)) only [push_cast, seval, h1152, h1159, h1160, h1161, h1163, h1164, h1165, h1167, h1168, h1169, h1170, h1172]
    refine lpK_of m3 [3, 9, 12, 13, 14] [0, 1, 5] (by omega) (by decide) ⟨(a6 + 1), v11, (a8 ++ [(A2Arr16.mk x9 a7)]), (by first | exact h | simpa only [*] using h), ?_⟩
    rw [wk_mk]
    simp (disch := first | assumption | (simp; done) | omega | (simp; omega)) only [push_cast, seval, h1152, h1159, h1160, h1161, h1163, h1164, h1165, h1167, h1168, h1169, h1170, h1172] <;> rfl
  obtain ⟨h1173, h⟩ := F_gd h
  try simp (disch := first | assumption | (simp; done) | omega | (simp; omega)) only [push_cast, seval] at h1173
  obtain ⟨v12, h1174, h⟩ := F_bd h
  simp (disch := first | assumption | (simp; done) | omega | (simp; omega)) only [push_cast, seval, h1152, h1159, h1160, h1161, h1163, h1164, h1165, h1167, h1168, h1169, h1173]
  refine call_flat (by rfl) (c_merkle_Node N _ _ _ h1174) ?_ (by simp [AV.flat, AV.flatL, flatL_aI, flatL_app, DV.flat]) ?_
  · simp (disch := first | assumption | (simp; done) | omega | (simp; omega)) only [push_cast, seval, h1152, h1159, h1160, h1161, h1163, h1164, h1165, h1167, h1168, h1169, h1173] <;> rfl
  obtain ⟨h1175, h⟩ := F_ck h
  try simp (disch := first | assumption | (simp; done) | omega | (simp; omega)) only [push_cast, seval] at h1175
  simp (disch := first | assumption | (simp; done) | omega | (simp; omega)) only [push_cast, seval, h1152, h1159, h1160, h1161, h1163, h1164, h1165, h1167, h1168, h1169, h1173, h1175]
  refine lpK_of m3 [3, 9, 12, 13, 14] [0, 1, 5] (by omega) (by decide) ⟨(a6 + 1), v12, (a8 ++ [(A2Arr16.mk a7 x9)]), (by first | exact h | simpa only [*] using h), ?_⟩
  rw [wk_mk]
  simp (disch := first | assumption | (simp; done) | omega | (simp; omega)) only [push_cast, seval, h1152, h1159, h1160, h1161, h1163, h1164, h1165, h1167, h1168, h1169, h1173, h1175] <;> rfl

def f6g0 : List RO := [o_ 7 (.boxR (t_ 0)), o_ 8 (.boxR (t_ 1)), o_ 13 (.boxR (t_ 6)), o_ 14 (.mv (.const (.bool .false)))]
def f6g1 : List RO := [o_ 18 (.mv (t_ 4)), o_ 19 (.len .false (t_ 18)), o_ 20 (.bin .gtr (t_ 19) (.const (.int .i64 60))), o_ 21 (.mv (t_ 20)), ⟨(.some 22), (.mv (t_ 5)), (.some (21, .false))⟩, ⟨(.some 23), (.len .false (t_ 22)), (.some (21, .false))⟩, ⟨(.some 24), (.bin .gtr (t_ 23) (.const (.int .i64 60))), (.some (21, .false))⟩, o_ 25 (.pick (t_ 21) (.const (.bool .true)) (t_ 24)), o_ 26 (.mv (t_ 25)), ⟨(.some 27), (.load (.some 16) (t_ 7)), (.some (26, .false))⟩, ⟨(.some 28), (.load (.some 16) (t_ 8)), (.some (26, .false))⟩, ⟨(.some 29), (.eqa .false .u8 16 (t_ 27) (t_ 28)), (.some (26, .false))⟩, o_ 30 (.pick (t_ 26) (.const (.bool .true)) (t_ 29))]
def f6g2 : List RO := [o_ 31 (.call (.func 12) []), o_ 14 (.mv (t_ 31))]
def f6g3 : List RO := [o_ 32 (.load (.some 16) (t_ 7)), o_ 33 (.mv (t_ 2)), o_ 34 (.mv (t_ 3)), o_ 35 (.mv (t_ 4)), o_ 36 (.load (.some 16) (t_ 13)), o_ 37 (.call (.func 28) [(t_ 32), (t_ 33), (t_ 34), (t_ 35), (t_ 36)]), o_ 38 (.un .not (t_ 37)), o_ 39 (.mv (t_ 38)), ⟨(.some 40), (.load (.some 16) (t_ 8)), (.some (39, .false))⟩, ⟨(.some 41), (.mv (t_ 2)), (.some (39, .false))⟩, ⟨(.some 42), (.mv (t_ 3)), (.some (39, .false))⟩, ⟨(.some 43), (.mv (t_ 5)), (.some (39, .false))⟩, ⟨(.some 44), (.load (.some 16) (t_ 13)), (.some (39, .false))⟩, ⟨(.some 45), (.call (.func 28) [(t_ 40), (t_ 41), (t_ 42), (t_ 43), (t_ 44)]), (.some (39, .false))⟩, ⟨(.some 46), (.un .not (t_ 45)), (.some (39, .false))⟩, o_ 47 (.pick (t_ 39) (.const (.bool .true)) (t_ 46))]
def f6g4 : List RO := [o_ 48 (.call (.func 12) []), o_ 14 (.mv (t_ 48))]
def f6g5 : List RO := [o_ 49 (.load (.some 16) (t_ 7)), o_ 50 (.mv (t_ 2)), o_ 51 (.mv (t_ 3)), o_ 52 (.mv (t_ 4)), o_ 53 (.call (.func 30) [(t_ 49), (t_ 50), (t_ 51), (t_ 52)]), o_ 15 (.mv (t_ 53))]
def f6g6 : List RO := [o_ 54 (.load (.some 16) (t_ 8)), o_ 55 (.mv (t_ 2)), o_ 56 (.mv (t_ 3)), o_ 57 (.mv (t_ 5)), o_ 58 (.call (.func 30) [(t_ 54), (t_ 55), (t_ 56), (t_ 57)]), o_ 16 (.mv (t_ 58))]
def f6g7 : List RO := [o_ 17 (.mv (.const (.int .i64 0)))]
def f6g8 : List RO := [o_ 59 (.mv (t_ 17)), o_ 60 (.mv (t_ 15)), o_ 61 (.len .false (t_ 60)), o_ 62 (.bin .lss (t_ 59) (t_ 61)), o_ 63 (.mv (t_ 62)), ⟨(.some 64), (.mv (t_ 17)), (.some (63, .true))⟩, ⟨(.some 65), (.mv (t_ 16)), (.some (63, .true))⟩, ⟨(.some 66), (.len .false (t_ 65)), (.some (63, .true))⟩, ⟨(.some 67), (.bin .lss (t_ 64) (t_ 66)), (.some (63, .true))⟩, o_ 68 (.pick (t_ 63) (t_ 67) (.const (.bool .false)))]
def f6g9 : List RO := [o_ 71 (.mv (t_ 15)), o_ 72 (.mv (t_ 17)), o_ 73 (.iaddr 32 (t_ 71) (t_ 72)), o_ 74 (.load (.some 32) (t_ 73)), o_ 75 (.mv (t_ 16)), o_ 76 (.mv (t_ 17)), o_ 77 (.iaddr 32 (t_ 75) (t_ 76)), o_ 78 (.load (.some 32) (t_ 77)), o_ 79 (.eqg .true [(.a .u8 16), (.a .u8 16)] (t_ 74) (t_ 78)), o_ 80 (.mv (t_ 79)), ⟨(.some 81), (.mv (t_ 15)), (.some (80, .true))⟩, ⟨(.some 82), (.mv (t_ 17)), (.some (80, .true))⟩, ⟨(.some 83), (.iaddr 32 (t_ 81) (t_ 82)), (.some (80, .true))⟩, ⟨(.some 84), (.iaddrA 2 16 (t_ 83) (.const (.int .i64 0))), (.some (80, .true))⟩, ⟨(.some 85), (.load (.some 16) (t_ 84)), (.some (80, .true))⟩, ⟨(.some 86), (.mv (t_ 15)), (.some (80, .true))⟩, ⟨(.some 87), (.mv (t_ 17)), (.some (80, .true))⟩, ⟨(.some 88), (.iaddr 32 (t_ 86) (t_ 87)), (.some (80, .true))⟩, ⟨(.some 89), (.iaddrA 2 16 (t_ 88) (.const (.int .i64 1))), (.some (80, .true))⟩, ⟨(.some 90), (.load (.some 16) (t_ 89)), (.some (80, .true))⟩, ⟨(.some 91), (.call (.func 22) [(t_ 85), (t_ 90)]), (.some (80, .true))⟩, ⟨(.some 92), (.mv (t_ 16)), (.some (80, .true))⟩, ⟨(.some 93), (.mv (t_ 17)), (.some (80, .true))⟩, ⟨(.some 94), (.iaddr 32 (t_ 92) (t_ 93)), (.some (80, .true))⟩, ⟨(.some 95), (.iaddrA 2 16 (t_ 94) (.const (.int .i64 0))), (.some (80, .true))⟩, ⟨(.some 96), (.load (.some 16) (t_ 95)), (.some (80, .true))⟩, ⟨(.some 97), (.mv (t_ 16)), (.some (80, .true))⟩, ⟨(.some 98), (.mv (t_ 17)), (.some (80, .true))⟩, ⟨(.some 99), (.iaddr 32 (t_ 97) (t_ 98)), (.some (80, .true))⟩, ⟨(.some 100), (.iaddrA 2 16 (t_ 99) (.const (.int .i64 1))), (.some (80, .true))⟩, ⟨(.some 101), (.load (.some 16) (t_ 100)), (.some (80, .true))⟩, ⟨(.some 102), (.call (.func 22) [(t_ 96), (t_ 101)]), (.some (80, .true))⟩, ⟨(.some 103), (.eqa .false .u8 16 (t_ 91) (t_ 102)), (.some (80, .true))⟩, o_ 104 (.pick (t_ 80) (t_ 103) (.const (.bool .false)))]
def f6g10 : List RO := [o_ 105 (.call (.func 12) []), o_ 14 (.mv (t_ 105))]
def f6g11 : List RO := [o_ 69 (.mv (t_ 17)), o_ 70 (.bin .add (t_ 69) (.const (.int .i64 1))), o_ 17 (.mv (t_ 70))]
def f6b12 : RCode := (.seq (.seq (.reg .false f6g8) (.cond (t_ 68) .skip (.exit 0))) (.seq (.block 1 (.seq (.reg .true f6g9) (.cond (t_ 104) (.seq (.reg .false f6g10) .ret) .skip))) (.reg .false f6g11)))
def f6g13 : List RO := [o_ 14 (.mv (.const (.bool .false)))]
def f6c : RCode := (.seq (.reg .false f6g0) (.seq (.seq (.reg .false f6g1) (.cond (t_ 30) (.seq (.reg .false f6g2) .ret) .skip)) (.seq (.seq (.reg .false f6g3) (.cond (t_ 47) (.seq (.reg .false f6g4) .ret) .skip)) (.seq (.reg .false f6g5) (.seq (.reg .false f6g6) (.seq (.seq (.reg .false f6g7) (.block 0 (.loop f6b12))) (.seq (.reg .false f6g13) .ret)))))))
def f6r : List RRes := [(.tmp 14)]
attribute [push_cast] f6g0 f6g1 f6g2 f6g3 f6g4 f6g5 f6g6 f6g7 f6g8 f6g9 f6g10 f6g11 f6g13
def L_law03_MerkleProofsBind_0 (N : Nat) (v6 : (List A2Arr16)) (v7 : (List A2Arr16)) : Nat → Int → Option Bool
  | 0, _ => none
  | m1+1, a8 => if? (decide (a8 < (v6.length : Int))) (if? (decide (a8 < (v7.length : Int))) (get? v6 (a8) fun x9 => get? v7 (a8) fun x10 => if? (((x9.f0.l == x10.f0.l) && (x9.f1.l == x10.f1.l))) (ck .i64 (a8 + 1) (L_law03_MerkleProofsBind_0 N v6 v7 m1 (a8 + 1))) (bd? (F_merkle_Node N x9.f0 x9.f1) fun v11 => bd? (F_merkle_Node N x10.f0 x10.f1) fun v12 => if? ((v11.l == v12.l)) (bd? (F_law03_sanity N ) fun v13 => some (v13)) (ck .i64 (a8 + 1) (L_law03_MerkleProofsBind_0 N v6 v7 m1 (a8 + 1))))) (some (false))) (some (false))
def I_law03_MerkleProofsBind_0 (N : Nat) (v6 : (List A2Arr16)) (v7 : (List A2Arr16)) (r : Bool) (n : Nat) (s : AState) : Prop := ∃ (a8 : Int), L_law03_MerkleProofsBind_0 N v6 v7 n a8 = some r ∧ s = ⟨envL [(15, .sl (.O 0) 32 0 v6.length), (16, .sl (.O 1) 32 0 v7.length), (17, .D (.I .i64 a8))], ownL [], ownL [some (.row true 32 (v6.map A2Arr16.row)), some (.row true 32 (v7.map A2Arr16.row))], 2⟩
def F_law03_MerkleProofsBind (N : Nat) (p0 : (Arr 16)) (p1 : (Arr 16)) (p2 : Int) (p3 : Int) (p4 : (List (Arr 16))) (p5 : (List (Arr 16))) (p6 : (Arr 16)) : Option Bool := if? (decide ((p4.length : Int) > 60)) (bd? (F_law03_sanity N ) fun v1 => some (v1)) (if? (decide ((p5.length : Int) > 60)) (bd? (F_law03_sanity N ) fun v2 => some (v2)) (if? ((p0.l == p1.l)) (bd? (F_law03_sanity N ) fun v3 => some (v3)) (bd? (F_merkle_CheckInclusion N p0 p2 p3 p4 p6) fun v4 => if? (v4) (bd? (F_merkle_CheckInclusion N p1 p2 p3 p5 p6) fun v5 => if? (v5) (bd? (F_law03_steps N p0 p2 p3 p4) fun v6 => bd? (F_law03_steps N p1 p2 p3 p5) fun v7 => L_law03_MerkleProofsBind_0 N v6 v7 N 0) (bd? (F_law03_sanity N ) fun v14 => some (v14))) (bd? (F_law03_sanity N ) fun v15 => some (v15)))))
theorem c_law03_MerkleProofsBind (N : Nat) (p0 : (Arr 16)) (p1 : (Arr 16)) (p2 : Int) (p3 : Int) (p4 : (List (Arr 16))) (p5 : (List (Arr 16))) (p6 : (Arr 16)) (r : Bool) (h : F_law03_MerkleProofsBind N p0 p1 p2 p3 p4 p5 p6 = some r) : ACall Tryd.prog 6 [.agg (p0.l.map (aI .u8)), .agg (p1.l.map (aI .u8)), .D (.I .i64 p2), .D (.I .i64 p3), .D (.L (p4.map (rA .u8))), .D (.L (p5.map (rA .u8))), .agg (p6.l.map (aI .u8))] [] (.D (.B r)) [] [] := by
  refine ACall.of_bodyW [] (fn := Tryd.f6) (rc := f6c) (rs := f6r) Tryd.func6 rfl rfl (by kernel_rfl) (by kernel_rfl) (by kernel_rfl) (by rw [Tryd.ntmps6]; simp) ?_
  unfold F_law03_MerkleProofsBind at h
  unfold f6c f6r
  rw [entry_eq _ _]
  rcases F_if h with ⟨h1176, h⟩ | ⟨h1176, h⟩
  · obtain ⟨v1, h1177, h⟩ := F_bd h
    simp (disch := first | assumption | (simp; done) | omega | (simp; omega)) only [push_cast, seval, h1176]
    refine call_flat (by rfl) (c_law03_sanity N _ h1177) ?_ rfl ?_
    · simp (disch := first | assumption | (simp; done) | omega | (simp; omega)) only [push_cast, seval, h1176] <;> rfl
    obtain rfl := Option.some.inj h
    simp (disch := first | assumption | (simp; done) | omega | (simp; omega)) only [push_cast, seval, h1176]
    refine e_ret (.inr rfl) ?_
    simp (disch := first | assumption | (simp; done) | omega | (simp; omega)) only [push_cast, seval, aret, aresults, aresult, h1176]
    refine ⟨_, rfl, ?_⟩
    first | (simp (disch := first | assumption | (simp; done) | omega | (simp; omega)) only [push_cast, seval, h1176] <;> rfl) | rfl
  rcases F_if h with ⟨h1178, h⟩ | ⟨h1178, h⟩
  · obtain ⟨v2, h1179, h⟩ := F_bd h
    simp (disch := first | assumption | (simp; done) | omega | (simp; omega)) only [push_cast, seval, h1176, h1178]
    refine call_flat (by rfl) (c_law03_sanity N _ h1179) ?_ rfl ?_
    · simp (disch := first | assumption | (simp; done) | omega | (simp; omega)) only [push_cast, seval, h1176, h1178] <;> rfl
    obtain rfl := Option.some.inj h
    simp (disch := first | assumption | (simp; done) | omega | (simp; omega)) only [push_cast, seval, h1176, h1178]
    refine e_ret (.inr rfl) ?_
    simp (disch := first | assumption | (simp; done) | omega | (simp; omega)) only [push_cast, seval, aret, aresults, aresult, h1176, h1178]
    refine ⟨_, rfl, ?_⟩
    first | (simp (disch := first | assumption | (simp; done) | omega | (simp; omega)) only [push_cast, seval, h1176, h1178] <;> rfl) | rfl
  rcases F_if h with ⟨h1180, h⟩ | ⟨h1180, h⟩
  · obtain ⟨v3, h1181, h⟩ := F_bd h
    simp (disch := first | assumption | (simp; done) | omega | (simp; omega)) only [push_cast, seval, h1176, h1178, h1180]
    refine call_flat (by rfl) (c_law03_sanity N _ h1181) ?_ rfl ?_
    · simp (disch := first | assumption | (simp; done) | omega | (simp; omega)) only [push_cast, seval, h1176, h1178, h1180] <;> rfl
    obtain rfl := Option.some.inj h
    simp (disch := first | assumption | (simp; done) | omega | (simp; omega)) only [push_cast, seval, h1176, h1178, h1180]
    refine e_ret (.inr rfl) ?_
    simp (disch := first | assumption | (simp; done) | omega | (simp; omega)) only [push_cast, seval, aret, aresults, aresult, h1176, h1178, h1180]
    refine ⟨_, rfl, ?_⟩
    first | (simp (disch := first | assumption | (simp; done) | omega | (simp; omega)) only [push_cast, seval, h1176, h1178, h1180] <;> rfl) | rfl
  obtain ⟨v4, h1182, h⟩ := F_bd h
  simp (disch := first | assumption | (simp; done) | omega | (simp; omega)) only [push_cast, seval, h1176, h1178, h1180]
  refine call_flat (by rfl) (c_merkle_CheckInclusion N _ _ _ _ _ _ h1182) ?_ rfl ?_
  · simp (disch := first | assumption | (simp; done) | omega | (simp; omega)) only [push_cast, seval, h1176, h1178, h1180] <;> rfl
  rcases F_if h with ⟨h1183, h⟩ | ⟨h1183, h⟩
  rotate_left
  · obtain ⟨v15, h1206, h⟩ := F_bd h
    simp (disch := first | assumption | (simp; done) | omega | (simp; omega)) only [push_cast, seval, h1176, h1178, h1180, h1183]
    refine call_flat (by rfl) (c_law03_sanity N _ h1206) ?_ rfl ?_
    · simp (disch := first | assumption | (simp; done) | omega | (simp; omega)) only [push_cast, seval, h1176, h1178, h1180, h1183] <;> rfl
    obtain rfl := Option.some.inj h
    simp (disch := first | assumption | (simp; done) | omega | (simp; omega)) only [push_cast, seval, h1176, h1178, h1180, h1183]
    refine e_ret (.inr rfl) ?_
    simp (disch := first | assumption | (simp; done) | omega | (simp; omega)) only [push_cast, seval, aret, aresults, aresult, h1176, h1178, h1180, h1183]
    refine ⟨_, rfl, ?_⟩
    first | (simp (disch := first | assumption | (simp; done) | omega | (simp; omega)) only [push_cast, seval, h1176, h1178, h1180, h1183] <;> rfl) | rfl
  obtain ⟨v5, h1184, h⟩ := F_bd h
  simp (disch := first | assumption | (simp; done) | omega | (simp; omega)) only [push_cast, seval, h1176, h1178, h1180, h1183]
  refine call_flat (by rfl) (c_merkle_CheckInclusion N _ _ _ _ _ _ h1184) ?_ rfl ?_
  · simp (disch := first | assumption | (simp; done) | omega | (simp; omega)) only [push_cast, seval, h1176, h1178, h1180, h1183] <;> rfl
  rcases F_if h with ⟨h1185, h⟩ | ⟨h1185, h⟩
  rotate_left
  · obtain ⟨v14, h1205, h⟩ := F_bd h
    simp (disch := first | assumption | (simp; done) | omega | (simp; omega)) only [push_cast, seval, h1176, h1178, h1180, h1183, h1185]
    refine call_flat (by rfl) (c_law03_sanity N _ h1205) ?_ rfl ?_
    · simp (disch := first | assumption | (simp; done) | omega | (simp; omega)) only [push_cast, seval, h1176, h1178, h1180, h1183, h1185] <;> rfl
    obtain rfl := Option.some.inj h
    simp (disch := first | assumption | (simp; done) | omega | (simp; omega)) only [push_cast, seval, h1176, h1178, h1180, h1183, h1185]
    refine e_ret (.inr rfl) ?_
    simp (disch := first | assumption | (simp; done) | omega | (simp; omega)) only [push_cast, seval, aret, aresults, aresult, h1176, h1178, h1180, h1183, h1185]
    refine ⟨_, rfl, ?_⟩
    first | (simp (disch := first | assumption | (simp; done) | omega | (simp; omega)) only [push_cast, seval, h1176, h1178, h1180, h1183, h1185] <;> rfl) | rfl
  obtain ⟨v6, h1186, h⟩ := F_bd h
  simp (disch := first | assumption | (simp; done) | omega | (simp; omega)) only [push_cast, seval, h1176, h1178, h1180, h1183, h1185]
  refine call_new (by rfl) (c_law03_steps N _ _ _ _ _ h1186) ?_ rfl ?_
  · simp (disch := first | assumption | (simp; done) | omega | (simp; omega)) only [push_cast, seval, h1176, h1178, h1180, h1183, h1185] <;> rfl
  obtain ⟨v7, h1187, h⟩ := F_bd h
  simp (disch := first | assumption | (simp; done) | omega | (simp; omega)) only [push_cast, seval, h1176, h1178, h1180, h1183, h1185]
  refine call_new (by rfl) (c_law03_steps N _ _ _ _ _ h1187) ?_ rfl ?_
  · simp (disch := first | assumption | (simp; done) | omega | (simp; omega)) only [push_cast, seval, h1176, h1178, h1180, h1183, h1185] <;> rfl
  simp (disch := first | assumption | (simp; done) | omega | (simp; omega)) only [push_cast, seval, h1176, h1178, h1180, h1183, h1185]
  refine loop_of (I_law03_MerkleProofsBind_0 N v6 v7 _) N [15, 16, 17] [3, 4] (by decide) ⟨0, h, ?_⟩ ?_
  · rw [wk_mk]
    simp (disch := first | assumption | (simp; done) | omega | (simp; omega)) only [push_cast, seval, h1176, h1178, h1180, h1183, h1185] <;> rfl
  rintro n s ⟨a8, h, rfl⟩
  rcases n with _ | m1
  · exact absurd h (by simp [L_law03_MerkleProofsBind_0])
  rw [L_law03_MerkleProofsBind_0] at h
  unfold f6b12
  rcases F_if h with ⟨h1188, h⟩ | ⟨h1188, h⟩
  rotate_left
  · obtain rfl := Option.some.inj h
    simp (disch := first | assumption | (simp; done) | omega | (simp; omega)) only [push_cast, seval, h1176, h1178, h1180, h1183, h1185, h1188]
    refine e_ret (.inr rfl) ?_
    simp (disch := first | assumption | (simp; done) | omega | (simp; omega)) only [push_cast, seval, aret, aresults, aresult, h1176, h1178, h1180, h1183, h1185, h1188]
    refine ⟨_, rfl, ?_⟩
    first | (simp (disch := first | assumption | (simp; done) | omega | (simp; omega)) only [push_cast, seval, h1176, h1178, h1180, h1183, h1185, h1188] <;> rfl) | rfl
  rcases F_if h with ⟨h1189, h⟩ | ⟨h1189, h⟩
  rotate_left
  · obtain rfl := Option.some.inj h
    simp (disch := first | assumption | (simp; done) | omega | (simp; omega)) only [push_cast, seval, h1176, h1178, h1180, h1183, h1185, h1188, h1189]
    refine e_ret (.inr rfl) ?_
    simp (disch := first | assumption | (simp; done) | omega | (simp; omega)) only [push_cast, seval, aret, aresults, aresult, h1176, h1178, h1180, h1183, h1185, h1188, h1189]
    refine ⟨_, rfl, ?_⟩
    first | (simp (disch := first | assumption | (simp; done) | omega | (simp; omega)) only [push_cast, seval, h1176, h1178, h1180, h1183, h1185, h1188, h1189] <;> rfl) | rfl
  obtain ⟨x9, h1190, h1191, h⟩ := F_get h
  have h1193 := get_lt h1190 h1191
  have h1192 := map_get A2Arr16.row h1191
  try simp (disch := first | assumption | (simp; done) | omega | (simp; omega)) only [push_cast, seval] at h1192
  obtain ⟨x10, h1194, h1195, h⟩ := F_get h
  have h1197 := get_lt h1194 h1195
  have h1196 := map_get A2Arr16.row h1195
  try simp (disch := first | assumption | (simp; done) | omega | (simp; omega)) only [push_cast, seval] at h1196
  rcases F_if h with ⟨h1198, h⟩ | ⟨h1198, h⟩
  · obtain ⟨h1199, h⟩ := F_ck h
    try simp (disch := first | assumption | (simp; done) | omega | (simp; omega)) only [push_cast, seval] at h1199
    simp (disch := first | assumption | (simp; done) | omega | (simp; omega)) only [push_cast, seval, h1176, h1178, h1180, h1183, h1185, h1188, h1189, h1190, h1192, h1193, h1194, h1196, h1197, h1198, h1199]
    refine lpK_of m1 [15, 16, 17] [0, 1] (by omega) (by decide) ⟨(a8 + 1), (by first | exact h | simpa only [*] using h), ?_⟩
    rw [wk_mk]
    simp (disch := first | assumption | (simp; done) | omega | (simp; omega)) only [push_cast, seval, h1176, h1178, h1180, h1183, h1185, h1188, h1189, h1190, h1192, h1193, h1194, h1196, h1197, h1198, h1199] <;> rfl
  obtain ⟨v11, h1200, h⟩ := F_bd h
  simp (disch := first | assumption | (simp; done) | omega | (simp; omega)) only [push_cast, seval, h1176, h1178, h1180, h1183, h1185, h1188, h1189, h1190, h1192, h1193, h1194, h1196, h1197, h1198]
  refine call_flat (by rfl) (c_merkle_Node N _ _ _ h1200) ?_ (by simp [AV.flat, AV.flatL, flatL_aI, flatL_app, DV.flat]) ?_
  · simp (disch := first | assumption | (simp; done) | omega | (simp; omega)) only [push_cast, seval, h1176, h1178, h1180, h1183, h1185, h1188, h1189, h1190, h1192, h1193, h1194, h1196, h1197, h1198] <;> rfl
  obtain ⟨v12, h1201, h⟩ := F_bd h
  simp (disch := first | assumption | (simp; done) | omega | (simp; omega)) only [push_cast, seval, h1176, h1178, h1180, h1183, h1185, h1188, h1189, h1190, h1192, h1193, h1194, h1196, h1197, h1198]
  refine call_flat (by rfl) (c_merkle_Node N _ _ _ h1201) ?_ (by simp [AV.flat, AV.flatL, flatL_aI, flatL_app, DV.flat]) ?_
  · simp (disch := first | assumption | (simp; done) | omega | (simp; omega)) only [push_cast, seval, h1176, h1178, h1180, h1183, h1185, h1188, h1189, h1190, h1192, h1193, h1194, h1196, h1197, h1198] <;> rfl
  rcases F_if h with ⟨h1202, h⟩ | ⟨h1202, h⟩
  rotate_left
  · obtain ⟨h1204, h⟩ := F_ck h
    try simp (disch := first | assumption | (simp; done) | omega | (simp; omega)) only [push_cast, seval] at h1204
    simp (disch := first | assumption | (simp; done) | omega | (simp; omega)) only [push_cast, seval, h1176, h1178, h1180, h1183, h1185, h1188, h1189, h1190, h1192, h1193, h1194, h1196, h1197, h1198, h1202, h1204]
    refine lpK_of m1 [15, 16, 17] [0, 1] (by omega) (by decide) ⟨(a8 + 1), (by first | exact h | simpa only [*] using h), ?_⟩
    rw [wk_mk]
    simp (disch := first | assumption | (simp; done) | omega | (simp; omega)) only [push_cast, seval, h1176, h1178, h1180, h1183, h1185, h1188, h1189, h1190, h1192, h1193, h1194, h1196, h1197, h1198, h1202, h1204] <;> rfl
  obtain ⟨v13, h1203, h⟩ := F_bd h
  simp (disch := first | assumption | (simp; done) | omega | (simp; omega)) only [push_cast, seval, h1176, h1178, h1180, h1183, h1185, h1188, h1189, h1190, h1192, h1193, h1194, h1196, h1197, h1198, h1202]
  refine call_flat (by rfl) (c_law03_sanity N _ h1203) ?_ rfl ?_
  · simp (disch := first | assumption | (simp; done) | omega | (simp; omega)) only [push_cast, seval, h1176, h1178, h1180, h1183, h1185, h1188, h1189, h1190, h1192, h1193, h1194, h1196, h1197, h1198, h1202] <;> rfl
  obtain rfl := Option.some.inj h
  simp (disch := first | assumption | (simp; done) | omega | (simp; omega)) only [push_cast, seval, h1176, h1178, h1180, h1183, h1185, h1188, h1189, h1190, h1192, h1193, h1194, h1196, h1197, h1198, h1202]
  refine e_ret (.inr rfl) ?_
  simp (disch := first | assumption | (simp; done) | omega | (simp; omega)) only [push_cast, seval, aret, aresults, aresult, h1176, h1178, h1180, h1183, h1185, h1188, h1189, h1190, h1192, h1193, h1194, h1196, h1197, h1198, h1202]
  refine ⟨_, rfl, ?_⟩
  first | (simp (disch := first | assumption | (simp; done) | omega | (simp; omega)) only [push_cast, seval, h1176, h1178, h1180, h1183, h1185, h1188, h1189, h1190, h1192, h1193, h1194, h1196, h1197, h1198, h1202] <;> rfl) | rfl
end Go.Proofs.Tryd
