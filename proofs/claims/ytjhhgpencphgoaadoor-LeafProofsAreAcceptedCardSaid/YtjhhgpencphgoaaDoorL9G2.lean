/- Printed by a program: what the functions compute, and that they do (part 2). -/
import Derived.Test.YtjhhgpencphgoaaDoorL9G1
set_option linter.unusedSimpArgs false
set_option linter.unusedVariables false
set_option maxRecDepth 8000
set_option maxHeartbeats 1000000
namespace Go.Proofs.Tryd
open Go.Eng Go.RowKit
def f158g0 : List RO := [o_ 2 (.newR ((Arr.zero 64).l.map (aI .u32)))]
def f158g1 : List RO := [o_ 3 (.newR ((Arr.zero 64).l.map (aI .u32)))]
def f158g2 : List RO := [o_ 11 (.mv (.const (.int .i64 0)))]
def f158g3 : List RO := [o_ 12 (.bin .lss (t_ 11) (.const (.int .i64 64)))]
def f158g4 : List RO := [o_ 13 (.mv (t_ 11)), o_ 4 (.mv (t_ 13))]
def f158g5 : List RO := [o_ 14 (.mv (t_ 4)), o_ 15 (.bin .lss (t_ 14) (.const (.int .i64 16)))]
def f158g6 : List RO := [o_ 16 (.mv (t_ 0)), o_ 17 (.mv (t_ 4)), o_ 18 (.bin .mul (.const (.int .i64 4)) (t_ 17)), o_ 19 (.mv (t_ 4)), o_ 20 (.bin .mul (.const (.int .i64 4)) (t_ 19)), o_ 21 (.bin .add (t_ 20) (.const (.int .i64 4))), o_ 22 (.sll 1 (t_ 16) (.some (t_ 18)) (.some (t_ 21)) .none), o_ 23 (.len .false (t_ 22)), o_ 24 (.mv (.const (.int .i64 0)))]
def f158g7 : List RO := [o_ 25 (.bin .lss (t_ 24) (t_ 23))]
def f158g8 : List RO := [o_ 26 (.iaddr 1 (t_ 22) (t_ 24)), o_ 27 (.load .none (t_ 26)), o_ 6 (.mv (t_ 27))]
def f158g9 : List RO := [o_ 28 (.mv (t_ 4)), o_ 29 (.mv (t_ 4)), o_ 30 (.iaddrA 64 1 (t_ 3) (t_ 29)), o_ 31 (.load .none (t_ 30)), o_ 32 (.bin .shl (t_ 31) (.const (.int .u64 8))), o_ 33 (.mv (t_ 6)), o_ 34 (.cvI .u32 (t_ 33)), o_ 35 (.bin .or (t_ 32) (t_ 34)), o_ 36 (.iaddrA 64 1 (t_ 3) (t_ 28)), n_ (.store 1 (t_ 36) (t_ 35))]
def f158g10 : List RO := [o_ 37 (.bin .add (t_ 24) (.const (.int .i64 1))), o_ 24 (.mv (t_ 37))]
def f158b11 : RCode := (.seq (.reg .false f158g7) (.seq (.cond (t_ 25) .skip (.exit 2)) (.seq (.block 3 (.seq (.reg .false f158g8) (.reg .false f158g9))) (.reg .false f158g10))))
def f158g12 : List RO := [o_ 38 (.mv (t_ 4)), o_ 39 (.bin .sub (t_ 38) (.const (.int .i64 15))), o_ 40 (.iaddrA 64 1 (t_ 3) (t_ 39)), o_ 41 (.load .none (t_ 40)), o_ 42 (.mv (t_ 4)), o_ 43 (.bin .sub (t_ 42) (.const (.int .i64 2))), o_ 44 (.iaddrA 64 1 (t_ 3) (t_ 43)), o_ 45 (.load .none (t_ 44)), o_ 7 (.mv (t_ 41)), o_ 8 (.mv (t_ 45))]
def f158g13 : List RO := [o_ 46 (.mv (t_ 7)), o_ 47 (.call (.func 165) [(t_ 46), (.const (.int .i64 (-7)))]), o_ 48 (.mv (t_ 7)), o_ 49 (.call (.func 165) [(t_ 48), (.const (.int .i64 (-18)))]), o_ 50 (.bin .xor (t_ 47) (t_ 49)), o_ 51 (.mv (t_ 7)), o_ 52 (.bin .shr (t_ 51) (.const (.int .u64 3))), o_ 53 (.bin .xor (t_ 50) (t_ 52)), o_ 9 (.mv (t_ 53))]
def f158g14 : List RO := [o_ 54 (.mv (t_ 8)), o_ 55 (.call (.func 165) [(t_ 54), (.const (.int .i64 (-17)))]), o_ 56 (.mv (t_ 8)), o_ 57 (.call (.func 165) [(t_ 56), (.const (.int .i64 (-19)))]), o_ 58 (.bin .xor (t_ 55) (t_ 57)), o_ 59 (.mv (t_ 8)), o_ 60 (.bin .shr (t_ 59) (.const (.int .u64 10))), o_ 61 (.bin .xor (t_ 58) (t_ 60)), o_ 10 (.mv (t_ 61))]
def f158g15 : List RO := [o_ 62 (.mv (t_ 4)), o_ 63 (.mv (t_ 4)), o_ 64 (.bin .sub (t_ 63) (.const (.int .i64 16))), o_ 65 (.iaddrA 64 1 (t_ 3) (t_ 64)), o_ 66 (.load .none (t_ 65)), o_ 67 (.mv (t_ 9)), o_ 68 (.bin .add (t_ 66) (t_ 67)), o_ 69 (.mv (t_ 4)), o_ 70 (.bin .sub (t_ 69) (.const (.int .i64 7))), o_ 71 (.iaddrA 64 1 (t_ 3) (t_ 70)), o_ 72 (.load .none (t_ 71)), o_ 73 (.bin .add (t_ 68) (t_ 72)), o_ 74 (.mv (t_ 10)), o_ 75 (.bin .add (t_ 73) (t_ 74)), o_ 76 (.iaddrA 64 1 (t_ 3) (t_ 62)), n_ (.store 1 (t_ 76) (t_ 75))]
def f158g16 : List RO := [o_ 77 (.bin .add (t_ 11) (.const (.int .i64 1))), o_ 11 (.mv (t_ 77))]
def f158b17 : RCode := (.seq (.reg .false f158g3) (.seq (.cond (t_ 12) .skip (.exit 0)) (.seq (.block 1 (.seq (.reg .false f158g4) (.seq (.seq (.reg .false f158g5) (.cond (t_ 15) (.seq (.seq (.reg .false f158g6) (.block 2 (.loop f158b11))) (.exit 1)) .skip)) (.seq (.reg .true f158g12) (.seq (.reg .false f158g13) (.seq (.reg .false f158g14) (.reg .true f158g15))))))) (.reg .false f158g16))))
def f158g18 : List RO := [o_ 78 (.load (.some 64) (t_ 3)), n_ (.store 64 (t_ 2) (t_ 78))]
def f158c : RCode := (.seq (.reg .false f158g0) (.seq (.reg .false f158g1) (.seq (.seq (.reg .false f158g2) (.block 0 (.loop f158b17))) (.seq (.reg .false f158g18) .ret))))
def f158r : List RRes := [(.cell (.some 64) 2)]
attribute [push_cast] f158g0 f158g1 f158g2 f158g3 f158g4 f158g5 f158g6 f158g7 f158g8 f158g9 f158g10 f158g12 f158g13 f158g14 f158g15 f158g16 f158g18
def L_hash_schedule_1 (N : Nat) (k0 : Int → (Arr 64) → (Arr 64) → Option (Arr 64)) (p0 : (List Int)) (a1 : Int) (a2 : (Arr 64)) : Nat → Int → (Arr 64) → Option (Arr 64)
  | 0, _, _ => none
  | m2+1, a4, a5 => if? (decide (a4 < (((p0.drop (4 * a1).toNat).take (((4 * a1) + 4).toNat - (4 * a1).toNat)).length : Int))) (get? ((p0.drop (4 * a1).toNat).take (((4 * a1) + 4).toNat - (4 * a1).toNat)) (a4) fun x6 => gd? (0 ≤ a1) (gd? (a1 < 64) (get? a5.l (a1) fun x7 => ck .i64 (a4 + 1) (L_hash_schedule_1 N k0 p0 a1 a2 m2 (a4 + 1) (a5.set a1.toNat (bits .or .u32 (IntKind.wrap .u32 (x7 * 2 ^ (8 : Int).toNat)) (IntKind.wrap .u32 (x6)))))))) (ck .i64 (a1 + 1) (k0 (a1 + 1) a2 a5))
def I_hash_schedule_1 (N : Nat) (k0 : Int → (Arr 64) → (Arr 64) → Option (Arr 64)) (p0 : (List Int)) (a1 : Int) (a2 : (Arr 64)) (r : (Arr 64)) (n : Nat) (s : AState) : Prop := ∃ (a4 : Int) (a5 : (Arr 64)), L_hash_schedule_1 N k0 p0 a1 a2 n a4 a5 = some r ∧ s = ⟨envL [(0, .D (.L (p0.map (rI .u8)))), (2, .eptr (.O 0) 1 0 0), (3, .eptr (.O 1) 1 0 0), (4, .D (.I .i64 a1)), (11, .D (.I .i64 a1)), (22, .D (.L (((p0.drop (4 * a1).toNat).take (((4 * a1) + 4).toNat - (4 * a1).toNat)).map (rI .u8)))), (23, .D (.I .i64 (((p0.drop (4 * a1).toNat).take (((4 * a1) + 4).toNat - (4 * a1).toNat)).length : Int))), (24, .D (.I .i64 a4))], ownL [], ownL [some (.row true 1 (a2.l.map (rI .u32))), some (.row true 1 (a5.l.map (rI .u32)))], 2⟩
def L_hash_schedule_0 (N : Nat) (p0 : (List Int)) : Nat → Int → (Arr 64) → (Arr 64) → Option (Arr 64)
  | 0, _, _, _ => none
  | m1+1, a1, a2, a3 => if? (decide (a1 < 64)) (if? (decide (a1 < 16)) (ck .i64 (4 * a1) (ck .i64 ((4 * a1) + 4) (gd? (0 ≤ (4 * a1)) (gd? (0 ≤ ((4 * a1) + 4)) (gd? ((4 * a1).toNat ≤ ((4 * a1) + 4).toNat) (gd? (((4 * a1) + 4).toNat ≤ p0.length) (L_hash_schedule_1 N (L_hash_schedule_0 N p0 m1) p0 a1 a2 N 0 a3))))))) (ck .i64 (a1 - 15) (gd? (0 ≤ (a1 - 15)) (gd? ((a1 - 15) < 64) (get? a3.l ((a1 - 15)) fun x8 => ck .i64 (a1 - 2) (gd? (0 ≤ (a1 - 2)) (gd? ((a1 - 2) < 64) (get? a3.l ((a1 - 2)) fun x9 => bd? (F_bits_RotateLeft32 N x8 (-7)) fun v10 => bd? (F_bits_RotateLeft32 N x8 (-18)) fun v11 => bd? (F_bits_RotateLeft32 N x9 (-17)) fun v12 => bd? (F_bits_RotateLeft32 N x9 (-19)) fun v13 => ck .i64 (a1 - 16) (gd? (0 ≤ (a1 - 16)) (gd? ((a1 - 16) < 64) (get? a3.l ((a1 - 16)) fun x14 => ck .i64 (a1 - 7) (gd? (0 ≤ (a1 - 7)) (gd? ((a1 - 7) < 64) (get? a3.l ((a1 - 7)) fun x15 => gd? (0 ≤ a1) (gd? (a1 < 64) (ck .i64 (a1 + 1) (L_hash_schedule_0 N p0 m1 (a1 + 1) a2 (a3.set a1.toNat (IntKind.wrap .u32 ((IntKind.wrap .u32 ((IntKind.wrap .u32 (x14 + (bits .xor .u32 (bits .xor .u32 v10 v11) (x8 / 2 ^ (3 : Int).toNat)))) + x15)) + (bits .xor .u32 (bits .xor .u32 v12 v13) (x9 / 2 ^ (10 : Int).toNat)))))))))))))))))))))) (some (a3))
def I_hash_schedule_0 (N : Nat) (p0 : (List Int)) (r : (Arr 64)) (n : Nat) (s : AState) : Prop := ∃ (a1 : Int) (a2 : (Arr 64)) (a3 : (Arr 64)), L_hash_schedule_0 N p0 n a1 a2 a3 = some r ∧ s = ⟨envL [(0, .D (.L (p0.map (rI .u8)))), (2, .eptr (.O 0) 1 0 0), (3, .eptr (.O 1) 1 0 0), (11, .D (.I .i64 a1))], ownL [], ownL [some (.row true 1 (a2.l.map (rI .u32))), some (.row true 1 (a3.l.map (rI .u32)))], 2⟩
def F_hash_schedule (N : Nat) (p0 : (List Int)) : Option (Arr 64) := L_hash_schedule_0 N p0 N 0 (Arr.zero 64) (Arr.zero 64)
theorem c_hash_schedule (N : Nat) (p0 : (List Int)) (r : (Arr 64)) (h : F_hash_schedule N p0 = some r) : ACall Tryd.prog 158 [.D (.L (p0.map (rI .u8)))] [] (.agg (r.l.map (aI .u32))) [] [] := by
 refine ACall.of_bodyW [] (fn := Tryd.f158) (rc := f158c) (rs := f158r) Tryd.func158 rfl rfl (by kernel_rfl) (by kernel_rfl) (by kernel_rfl) (by rw [Tryd.ntmps158]; simp) ?_
 unfold F_hash_schedule at h
 unfold f158c f158r
 rw [entry_eq _ _]
 simp only[push_cast,seval]
 refine loop_of (I_hash_schedule_0 N p0 _) N [0, 2, 3, 11] [0, 1] (by decide) ⟨0, (Arr.zero 64), (Arr.zero 64), h, ?_⟩ ?_
 ·rw [wk_mk]
  simp only[push_cast,seval] <;> rfl
 rintro n s ⟨a1, a2, a3, h, rfl⟩
 rcases n with _ | m1
 ·exact absurd h (by simp [L_hash_schedule_0])
 rw [L_hash_schedule_0] at h
 unfold f158b17
 rcases F_if h with ⟨h1, h⟩ | ⟨h1, h⟩
 rotate_left
 ·obtain rfl := Option.some.inj h
  simp only[push_cast,seval,h1]
  refine e_ret (.inr rfl) ?_
  simp only[push_cast,seval,aret,aresults,aresult,h1]
  refine ⟨_, rfl, ?_⟩
  first | (simp only[push_cast,seval,h1] <;> rfl) | rfl
 rcases F_if h with ⟨h2, h⟩ | ⟨h2, h⟩
 ·obtain ⟨h3, h⟩ := F_ck h
  try simp only[push_cast,seval] at h3
  obtain ⟨h4, h⟩ := F_ck h
  try simp only[push_cast,seval] at h4
  obtain ⟨h5, h⟩ := F_gd h
  try simp only[push_cast,seval] at h5
  obtain ⟨h6, h⟩ := F_gd h
  try simp only[push_cast,seval] at h6
  obtain ⟨h7, h⟩ := F_gd h
  try simp only[push_cast,seval] at h7
  obtain ⟨h8, h⟩ := F_gd h
  try simp only[push_cast,seval] at h8
  simp only[push_cast,seval,h1,h2,h3,h4,h5,h6,h7,h8]
  refine loop_of (I_hash_schedule_1 N (L_hash_schedule_0 N p0 m1) p0 a1 a2 _) N [0, 2, 3, 4, 11, 22, 23, 24] [0, 1] (by decide) ⟨0, a3, h, ?_⟩ ?_
  ·rw [wk_mk]
   simp only[push_cast,seval,h1,h2,h3,h4,h5,h6,h7,h8] <;> rfl
  rintro n s ⟨a4, a5, h, rfl⟩
  rcases n with _ | m2
  ·exact absurd h (by simp [L_hash_schedule_1])
  rw [L_hash_schedule_1] at h
  unfold f158b11
  rcases F_if h with ⟨h9, h⟩ | ⟨h9, h⟩
  rotate_left
  ·try simp only[push_cast,seval] at h9
   obtain ⟨h10, h⟩ := F_ck h
   try simp only[push_cast,seval] at h10
   simp only[push_cast,seval,h1,h2,h3,h4,h5,h6,h7,h8,h9,h10]
   refine lpK_of m1 [0, 2, 3, 11] [0, 1] (by omega) (by decide) ⟨(a1 + 1), a2, a5, (by first | exact h | simpa only [*] using h), ?_⟩
   rw [wk_mk]
   simp only[push_cast,seval,h1,h2,h3,h4,h5,h6,h7,h8,h9,h10] <;> rfl
  try simp only[push_cast,seval] at h9
  obtain ⟨x6, h11, h12, h⟩ := F_get h
  have h13 := get_lt h11 h12
  have h14 := map_get (rI .u8) h12
  try simp only[push_cast,seval] at h14 h11 h13
  obtain ⟨h15, h⟩ := F_gd h
  obtain ⟨h16, h⟩ := F_gd h
  obtain ⟨x7, h17, h18, h⟩ := F_get h
  have h19 := get_lt h17 h18
  have h20 := map_getG (rI .u32) h18
  try simp only[push_cast,seval] at h20
  have h21 := arr_get (rI .u32) a5 (i := a1.toNat) (by omega)
  try simp only[push_cast,seval] at h21
  obtain ⟨h22, h⟩ := F_ck h
  try simp only[push_cast,seval] at h22
  simp only[push_cast,seval,h1,h2,h3,h4,h5,h6,h7,h8,h9,h11,h14,h13,h15,h16,h17,h20,h19,h21,h22]
  refine lpK_of m2 [0, 2, 3, 4, 11, 22, 23, 24] [0, 1] (by omega) (by decide) ⟨(a4 + 1), (a5.set a1.toNat (bits .or .u32 (IntKind.wrap .u32 (x7 * 2 ^ (8 : Int).toNat)) (IntKind.wrap .u32 (x6)))), (by first | exact h | simpa only [*] using h), ?_⟩
  rw [wk_mk]
  simp only[push_cast,seval,h1,h2,h3,h4,h5,h6,h7,h8,h9,h11,h14,h13,h15,h16,h17,h20,h19,h21,h22] <;> rfl
 obtain ⟨h23, h⟩ := F_ck h
 try simp only[push_cast,seval] at h23
 obtain ⟨h24, h⟩ := F_gd h
 try simp only[push_cast,seval] at h24
 obtain ⟨h25, h⟩ := F_gd h
 try simp only[push_cast,seval] at h25
 obtain ⟨x8, h26, h27, h⟩ := F_get h
 have h28 := get_lt h26 h27
 have h29 := map_getG (rI .u32) h27
 try simp only[push_cast,seval] at h29 h26 h28
 obtain ⟨h30, h⟩ := F_ck h
 try simp only[push_cast,seval] at h30
 obtain ⟨h31, h⟩ := F_gd h
 try simp only[push_cast,seval] at h31
 obtain ⟨h32, h⟩ := F_gd h
 try simp only[push_cast,seval] at h32
 obtain ⟨x9, h33, h34, h⟩ := F_get h
 have h35 := get_lt h33 h34
 have h36 := map_getG (rI .u32) h34
 try simp only[push_cast,seval] at h36 h33 h35
 obtain ⟨v10, h37, h⟩ := F_bd h
 simp only[push_cast,seval,h1,h2,h23,h24,h25,h26,h29,h28,h30,h31,h32,h33,h36,h35]
 refine call_flat (by rfl) (c_bits_RotateLeft32 N _ _ _ h37) ?_ rfl ?_
 ·simp only[push_cast,seval,h1,h2,h23,h24,h25,h26,h29,h28,h30,h31,h32,h33,h36,h35] <;> rfl
 obtain ⟨v11, h38, h⟩ := F_bd h
 simp only[push_cast,seval,h1,h2,h23,h24,h25,h26,h29,h28,h30,h31,h32,h33,h36,h35]
 refine call_flat (by rfl) (c_bits_RotateLeft32 N _ _ _ h38) ?_ rfl ?_
 ·simp only[push_cast,seval,h1,h2,h23,h24,h25,h26,h29,h28,h30,h31,h32,h33,h36,h35] <;> rfl
 obtain ⟨v12, h39, h⟩ := F_bd h
 simp only[push_cast,seval,h1,h2,h23,h24,h25,h26,h29,h28,h30,h31,h32,h33,h36,h35]
 refine call_flat (by rfl) (c_bits_RotateLeft32 N _ _ _ h39) ?_ rfl ?_
 ·simp only[push_cast,seval,h1,h2,h23,h24,h25,h26,h29,h28,h30,h31,h32,h33,h36,h35] <;> rfl
 obtain ⟨v13, h40, h⟩ := F_bd h
 simp only[push_cast,seval,h1,h2,h23,h24,h25,h26,h29,h28,h30,h31,h32,h33,h36,h35]
 refine call_flat (by rfl) (c_bits_RotateLeft32 N _ _ _ h40) ?_ rfl ?_
 ·simp only[push_cast,seval,h1,h2,h23,h24,h25,h26,h29,h28,h30,h31,h32,h33,h36,h35] <;> rfl
 obtain ⟨h41, h⟩ := F_ck h
 try simp only[push_cast,seval] at h41
 obtain ⟨h42, h⟩ := F_gd h
 try simp only[push_cast,seval] at h42
 obtain ⟨h43, h⟩ := F_gd h
 try simp only[push_cast,seval] at h43
 obtain ⟨x14, h44, h45, h⟩ := F_get h
 have h46 := get_lt h44 h45
 have h47 := map_getG (rI .u32) h45
 try simp only[push_cast,seval] at h47 h44 h46
 obtain ⟨h48, h⟩ := F_ck h
 try simp only[push_cast,seval] at h48
 obtain ⟨h49, h⟩ := F_gd h
 try simp only[push_cast,seval] at h49
 obtain ⟨h50, h⟩ := F_gd h
 try simp only[push_cast,seval] at h50
 obtain ⟨x15, h51, h52, h⟩ := F_get h
 have h53 := get_lt h51 h52
 have h54 := map_getG (rI .u32) h52
 try simp only[push_cast,seval] at h54 h51 h53
 obtain ⟨h55, h⟩ := F_gd h
 obtain ⟨h56, h⟩ := F_gd h
 have h57 := arr_get (rI .u32) a3 (i := a1.toNat) (by omega)
 try simp only[push_cast,seval] at h57
 obtain ⟨h58, h⟩ := F_ck h
 try simp only[push_cast,seval] at h58
 simp only[push_cast,seval,h1,h2,h23,h24,h25,h26,h29,h28,h30,h31,h32,h33,h36,h35,h41,h42,h43,h44,h47,h46,h48,h49,h50,h51,h54,h53,h55,h56,h57,h58]
 refine lpK_of m1 [0, 2, 3, 11] [0, 1] (by omega) (by decide) ⟨(a1 + 1), a2, (a3.set a1.toNat (IntKind.wrap .u32 ((IntKind.wrap .u32 ((IntKind.wrap .u32 (x14 + (bits .xor .u32 (bits .xor .u32 v10 v11) (x8 / 2 ^ (3 : Int).toNat)))) + x15)) + (bits .xor .u32 (bits .xor .u32 v12 v13) (x9 / 2 ^ (10 : Int).toNat))))), (by first | exact h | simpa only [*] using h), ?_⟩
 rw [wk_mk]
 simp only[push_cast,seval,h1,h2,h23,h24,h25,h26,h29,h28,h30,h31,h32,h33,h36,h35,h41,h42,h43,h44,h47,h46,h48,h49,h50,h51,h54,h53,h55,h56,h57,h58] <;> rfl

def f159g0 : List RO := [o_ 8 (.mv (.const (.int .u32 0)))]
def f159g1 : List RO := [o_ 9 (.mv (t_ 0)), o_ 10 (.mv (t_ 1)), o_ 11 (.un .neg (t_ 10)), o_ 12 (.call (.func 165) [(t_ 9), (t_ 11)]), o_ 13 (.mv (t_ 0)), o_ 14 (.mv (t_ 2)), o_ 15 (.un .neg (t_ 14)), o_ 16 (.call (.func 165) [(t_ 13), (t_ 15)]), o_ 17 (.bin .xor (t_ 12) (t_ 16)), o_ 18 (.mv (t_ 0)), o_ 19 (.mv (t_ 3)), o_ 20 (.un .neg (t_ 19)), o_ 21 (.call (.func 165) [(t_ 18), (t_ 20)]), o_ 22 (.bin .xor (t_ 17) (t_ 21)), o_ 8 (.mv (t_ 22))]
def f159c : RCode := (.seq (.reg .false f159g0) (.seq (.reg .false f159g1) .ret))
def f159r : List RRes := [(.tmp 8)]
attribute [push_cast] f159g0 f159g1
def F_hash_mix (N : Nat) (p0 : Int) (p1 : Int) (p2 : Int) (p3 : Int) : Option Int := ck .i64 (-p1) (bd? (F_bits_RotateLeft32 N p0 (-p1)) fun v1 => ck .i64 (-p2) (bd? (F_bits_RotateLeft32 N p0 (-p2)) fun v2 => ck .i64 (-p3) (bd? (F_bits_RotateLeft32 N p0 (-p3)) fun v3 => some ((bits .xor .u32 (bits .xor .u32 v1 v2) v3)))))
theorem c_hash_mix (N : Nat) (p0 : Int) (p1 : Int) (p2 : Int) (p3 : Int) (r : Int) (h : F_hash_mix N p0 p1 p2 p3 = some r) : ACall Tryd.prog 159 [.D (.I .u32 p0), .D (.I .i64 p1), .D (.I .i64 p2), .D (.I .i64 p3)] [] (.D (.I .u32 r)) [] [] := by
 refine ACall.of_bodyW [] (fn := Tryd.f159) (rc := f159c) (rs := f159r) Tryd.func159 rfl rfl (by kernel_rfl) (by kernel_rfl) (by kernel_rfl) (by rw [Tryd.ntmps159]; simp) ?_
 unfold F_hash_mix at h
 unfold f159c f159r
 rw [entry_eq _ _]
 obtain ⟨h1, h⟩ := F_ck h
 try simp only[push_cast,seval] at h1
 obtain ⟨v1, h2, h⟩ := F_bd h
 simp only[push_cast,seval,h1]
 refine call_flat (by rfl) (c_bits_RotateLeft32 N _ _ _ h2) ?_ rfl ?_
 ·simp only[push_cast,seval,h1] <;> rfl
 obtain ⟨h3, h⟩ := F_ck h
 try simp only[push_cast,seval] at h3
 obtain ⟨v2, h4, h⟩ := F_bd h
 simp only[push_cast,seval,h1,h3]
 refine call_flat (by rfl) (c_bits_RotateLeft32 N _ _ _ h4) ?_ rfl ?_
 ·simp only[push_cast,seval,h1,h3] <;> rfl
 obtain ⟨h5, h⟩ := F_ck h
 try simp only[push_cast,seval] at h5
 obtain ⟨v3, h6, h⟩ := F_bd h
 simp only[push_cast,seval,h1,h3,h5]
 refine call_flat (by rfl) (c_bits_RotateLeft32 N _ _ _ h6) ?_ rfl ?_
 ·simp only[push_cast,seval,h1,h3,h5] <;> rfl
 obtain rfl := Option.some.inj h
 simp only[push_cast,seval,h1,h3,h5]
 refine e_ret (.inr rfl) ?_
 simp only[push_cast,seval,aret,aresults,aresult,h1,h3,h5]
 refine ⟨_, rfl, ?_⟩
 first | (simp only[push_cast,seval,h1,h3,h5] <;> rfl) | rfl

def f144g0 : List RO := [o_ 2 (.boxR (t_ 0)), o_ 4 (.newR ((Arr.zero 8).l.map (aI .u32)))]
def f144g1 : List RO := [o_ 13 (.mv (t_ 1)), o_ 14 (.call (.func 158) [(t_ 13)]), o_ 5 (.newR ((Arr.zero 64).l.map (aI .u32))), n_ (.store 64 (t_ 5) (t_ 14))]
def f144g2 : List RO := [o_ 15 (.slsA 8 (t_ 2) .none (.some (.const (.int .i64 4)))), o_ 16 (.arrP 4 (t_ 15)), o_ 17 (.loadS (.some 4) (t_ 16)), o_ 18 (.slsA 8 (t_ 2) (.some (.const (.int .i64 4))) .none), o_ 19 (.arrP 4 (t_ 18)), o_ 20 (.loadS (.some 4) (t_ 19)), o_ 6 (.newR ((Arr.zero 4).l.map (aI .u32))), o_ 7 (.newR ((Arr.zero 4).l.map (aI .u32))), n_ (.store 4 (t_ 6) (t_ 17)), n_ (.store 4 (t_ 7) (t_ 20))]
def f144g3 : List RO := [o_ 21 (.load (.some 64) (.global 3)), o_ 22 (.mv (.const (.int .i64 0)))]
def f144g4 : List RO := [o_ 23 (.bin .lss (t_ 22) (.const (.int .i64 64)))]
def f144g5 : List RO := [o_ 24 (.mv (t_ 22)), o_ 25 (.idxA 64 1 .none (t_ 21) (t_ 22)), o_ 8 (.mv (t_ 24)), o_ 9 (.mv (t_ 25))]
def f144g6 : List RO := [o_ 26 (.iaddrA 4 1 (t_ 7) (.const (.int .i64 3))), o_ 27 (.load .none (t_ 26)), o_ 28 (.iaddrA 4 1 (t_ 7) (.const (.int .i64 0))), o_ 29 (.load .none (t_ 28)), o_ 30 (.call (.func 159) [(t_ 29), (.const (.int .i64 6)), (.const (.int .i64 11)), (.const (.int .i64 25))]), o_ 31 (.bin .add (t_ 27) (t_ 30)), o_ 32 (.iaddrA 4 1 (t_ 7) (.const (.int .i64 0))), o_ 33 (.load .none (t_ 32)), o_ 34 (.iaddrA 4 1 (t_ 7) (.const (.int .i64 1))), o_ 35 (.load .none (t_ 34)), o_ 36 (.bin .and (t_ 33) (t_ 35)), o_ 37 (.iaddrA 4 1 (t_ 7) (.const (.int .i64 0))), o_ 38 (.load .none (t_ 37)), o_ 39 (.un .xor (t_ 38)), o_ 40 (.iaddrA 4 1 (t_ 7) (.const (.int .i64 2))), o_ 41 (.load .none (t_ 40)), o_ 42 (.bin .and (t_ 39) (t_ 41)), o_ 43 (.bin .xor (t_ 36) (t_ 42)), o_ 44 (.bin .add (t_ 31) (t_ 43)), o_ 45 (.mv (t_ 9)), o_ 46 (.bin .add (t_ 44) (t_ 45)), o_ 47 (.mv (t_ 8)), o_ 48 (.iaddrA 64 1 (t_ 5) (t_ 47)), o_ 49 (.load .none (t_ 48)), o_ 50 (.bin .add (t_ 46) (t_ 49)), o_ 10 (.mv (t_ 50))]
def f144g7 : List RO := [o_ 51 (.iaddrA 4 1 (t_ 6) (.const (.int .i64 0))), o_ 52 (.load .none (t_ 51)), o_ 53 (.call (.func 159) [(t_ 52), (.const (.int .i64 2)), (.const (.int .i64 13)), (.const (.int .i64 22))]), o_ 54 (.iaddrA 4 1 (t_ 6) (.const (.int .i64 0))), o_ 55 (.load .none (t_ 54)), o_ 56 (.iaddrA 4 1 (t_ 6) (.const (.int .i64 1))), o_ 57 (.load .none (t_ 56)), o_ 58 (.bin .and (t_ 55) (t_ 57)), o_ 59 (.iaddrA 4 1 (t_ 6) (.const (.int .i64 0))), o_ 60 (.load .none (t_ 59)), o_ 61 (.iaddrA 4 1 (t_ 6) (.const (.int .i64 2))), o_ 62 (.load .none (t_ 61)), o_ 63 (.bin .and (t_ 60) (t_ 62)), o_ 64 (.bin .xor (t_ 58) (t_ 63)), o_ 65 (.iaddrA 4 1 (t_ 6) (.const (.int .i64 1))), o_ 66 (.load .none (t_ 65)), o_ 67 (.iaddrA 4 1 (t_ 6) (.const (.int .i64 2))), o_ 68 (.load .none (t_ 67)), o_ 69 (.bin .and (t_ 66) (t_ 68)), o_ 70 (.bin .xor (t_ 64) (t_ 69)), o_ 71 (.bin .add (t_ 53) (t_ 70)), o_ 11 (.mv (t_ 71))]
def f144g8 : List RO := [o_ 72 (.iaddrA 4 1 (t_ 6) (.const (.int .i64 3))), o_ 73 (.load .none (t_ 72)), o_ 74 (.mv (t_ 10)), o_ 75 (.bin .add (t_ 73) (t_ 74)), o_ 76 (.iaddrA 4 1 (t_ 7) (.const (.int .i64 0))), o_ 77 (.load .none (t_ 76)), o_ 78 (.iaddrA 4 1 (t_ 7) (.const (.int .i64 1))), o_ 79 (.load .none (t_ 78)), o_ 80 (.iaddrA 4 1 (t_ 7) (.const (.int .i64 2))), o_ 81 (.load .none (t_ 80)), o_ 82 (.build [(.D (.I .u32 0)), (.D (.I .u32 0)), (.D (.I .u32 0)), (.D (.I .u32 0))] [(0, (1, (t_ 75))), (1, (1, (t_ 77))), (2, (1, (t_ 79))), (3, (1, (t_ 81)))]), n_ (.store 4 (t_ 7) (t_ 82))]
def f144g9 : List RO := [o_ 83 (.mv (t_ 10)), o_ 84 (.mv (t_ 11)), o_ 85 (.bin .add (t_ 83) (t_ 84)), o_ 86 (.iaddrA 4 1 (t_ 6) (.const (.int .i64 0))), o_ 87 (.load .none (t_ 86)), o_ 88 (.iaddrA 4 1 (t_ 6) (.const (.int .i64 1))), o_ 89 (.load .none (t_ 88)), o_ 90 (.iaddrA 4 1 (t_ 6) (.const (.int .i64 2))), o_ 91 (.load .none (t_ 90)), o_ 92 (.build [(.D (.I .u32 0)), (.D (.I .u32 0)), (.D (.I .u32 0)), (.D (.I .u32 0))] [(0, (1, (t_ 85))), (1, (1, (t_ 87))), (2, (1, (t_ 89))), (3, (1, (t_ 91)))]), n_ (.store 4 (t_ 6) (t_ 92))]
def f144g10 : List RO := [o_ 93 (.bin .add (t_ 22) (.const (.int .i64 1))), o_ 22 (.mv (t_ 93))]
def f144b11 : RCode := (.seq (.reg .false f144g4) (.seq (.cond (t_ 23) .skip (.exit 0)) (.seq (.block 1 (.seq (.reg .false f144g5) (.seq (.reg .true f144g6) (.seq (.reg .true f144g7) (.seq (.reg .false f144g8) (.reg .false f144g9)))))) (.reg .false f144g10))))
def f144g12 : List RO := [o_ 94 (.mv (.const (.int .i64 0)))]
def f144g13 : List RO := [o_ 95 (.bin .lss (t_ 94) (.const (.int .i64 4)))]
def f144g14 : List RO := [o_ 96 (.mv (t_ 94)), o_ 12 (.mv (t_ 96))]
def f144g15 : List RO := [o_ 97 (.mv (t_ 12)), o_ 98 (.iaddrA 8 1 (t_ 2) (t_ 97)), o_ 99 (.load .none (t_ 98)), o_ 100 (.mv (t_ 12)), o_ 101 (.iaddrA 4 1 (t_ 6) (t_ 100)), o_ 102 (.load .none (t_ 101)), o_ 103 (.bin .add (t_ 99) (t_ 102)), o_ 104 (.iaddrA 8 1 (t_ 2) (t_ 97)), n_ (.store 1 (t_ 104) (t_ 103))]
def f144g16 : List RO := [o_ 105 (.mv (t_ 12)), o_ 106 (.bin .add (t_ 105) (.const (.int .i64 4))), o_ 107 (.iaddrA 8 1 (t_ 2) (t_ 106)), o_ 108 (.load .none (t_ 107)), o_ 109 (.mv (t_ 12)), o_ 110 (.iaddrA 4 1 (t_ 7) (t_ 109)), o_ 111 (.load .none (t_ 110)), o_ 112 (.bin .add (t_ 108) (t_ 111)), o_ 113 (.iaddrA 8 1 (t_ 2) (t_ 106)), n_ (.store 1 (t_ 113) (t_ 112))]
def f144g17 : List RO := [o_ 114 (.bin .add (t_ 94) (.const (.int .i64 1))), o_ 94 (.mv (t_ 114))]
def f144b18 : RCode := (.seq (.reg .false f144g13) (.seq (.cond (t_ 95) .skip (.exit 2)) (.seq (.block 3 (.seq (.reg .false f144g14) (.seq (.reg .true f144g15) (.reg .true f144g16)))) (.reg .false f144g17))))
def f144g19 : List RO := [o_ 115 (.load (.some 8) (t_ 2)), n_ (.store 8 (t_ 4) (t_ 115))]
def f144c : RCode := (.seq (.reg .false f144g0) (.seq (.reg .false f144g1) (.seq (.regS f144g2) (.seq (.seq (.reg .false f144g3) (.block 0 (.loop f144b11))) (.seq (.seq (.reg .false f144g12) (.block 2 (.loop f144b18))) (.seq (.reg .false f144g19) .ret))))))
def f144r : List RRes := [(.cell (.some 8) 4)]
attribute [push_cast] f144g0 f144g1 f144g2 f144g3 f144g4 f144g5 f144g6 f144g7 f144g8 f144g9 f144g10 f144g12 f144g13 f144g14 f144g15 f144g16 f144g17 f144g19
def L_hash_compress_1 (N : Nat) (a3 : (Arr 4)) (a4 : (Arr 4)) : Nat → Int → (Arr 8) → Option (Arr 8)
  | 0, _, _ => none
  | m3+1, a17, a18 => if? (decide (a17 < 4)) (gd? (0 ≤ a17) (gd? (a17 < 8) (get? a18.l (a17) fun x19 => gd? (a17 < 4) (get? a3.l (a17) fun x20 => ck .i64 (a17 + 4) (gd? (0 ≤ (a17 + 4)) (gd? ((a17 + 4) < 8) (get? ((a18.set a17.toNat (IntKind.wrap .u32 (x19 + x20))).l) ((a17 + 4)) fun x21 => get? a4.l (a17) fun x22 => ck .i64 (a17 + 1) (L_hash_compress_1 N a3 a4 m3 (a17 + 1) ((a18.set a17.toNat (IntKind.wrap .u32 (x19 + x20))).set (a17 + 4).toNat (IntKind.wrap .u32 (x21 + x22))))))))))) (some (a18))
def I_hash_compress_1 (N : Nat) (a3 : (Arr 4)) (a4 : (Arr 4)) (r : (Arr 8)) (n : Nat) (s : AState) : Prop := ∃ (a17 : Int) (a18 : (Arr 8)), L_hash_compress_1 N a3 a4 n a17 a18 = some r ∧ s = ⟨envL [(2, .eptr (.O 0) 1 0 0), (4, .eptr (.O 1) 1 0 0), (6, .eptr (.O 2) 1 0 0), (7, .eptr (.O 3) 1 0 0), (94, .D (.I .i64 a17))], ownL [], ownL [some (.row true 1 (a18.l.map (rI .u32))), some (.row true 1 ((Arr.zero 8).l.map (rI .u32))), some (.row true 1 (a3.l.map (rI .u32))), some (.row true 1 (a4.l.map (rI .u32)))], 4⟩
def L_hash_compress_0 (N : Nat) (p0 : (Arr 8)) (v1 : (Arr 64)) : Nat → Int → (Arr 4) → (Arr 4) → Option (Arr 8)
  | 0, _, _, _ => none
  | m1+1, a2, a3, a4 => if? (decide (a2 < 64)) (gd? (0 ≤ a2) (gd? (a2 < 64) (get? gA3.l (a2) fun x5 => get? a4.l (3) fun x6 => get? a4.l (0) fun x7 => bd? (F_hash_mix N x7 6 11 25) fun v8 => get? a4.l (1) fun x9 => get? a4.l (2) fun x10 => get? v1.l (a2) fun x11 => get? a3.l (0) fun x12 => bd? (F_hash_mix N x12 2 13 22) fun v13 => get? a3.l (1) fun x14 => get? a3.l (2) fun x15 => get? a3.l (3) fun x16 => ck .i64 (a2 + 1) (L_hash_compress_0 N p0 v1 m1 (a2 + 1) (Arr.of [(IntKind.wrap .u32 ((IntKind.wrap .u32 ((IntKind.wrap .u32 ((IntKind.wrap .u32 ((IntKind.wrap .u32 (x6 + v8)) + (bits .xor .u32 (bits .and .u32 x7 x9) (bits .and .u32 (bits .xor .u32 4294967295 x7) x10)))) + x5)) + x11)) + (IntKind.wrap .u32 (v13 + (bits .xor .u32 (bits .xor .u32 (bits .and .u32 x12 x14) (bits .and .u32 x12 x15)) (bits .and .u32 x14 x15)))))), x12, x14, x15] rfl) (Arr.of [(IntKind.wrap .u32 (x16 + (IntKind.wrap .u32 ((IntKind.wrap .u32 ((IntKind.wrap .u32 ((IntKind.wrap .u32 (x6 + v8)) + (bits .xor .u32 (bits .and .u32 x7 x9) (bits .and .u32 (bits .xor .u32 4294967295 x7) x10)))) + x5)) + x11)))), x7, x9, x10] rfl))))) (L_hash_compress_1 N a3 a4 N 0 p0)
def I_hash_compress_0 (N : Nat) (p0 : (Arr 8)) (v1 : (Arr 64)) (r : (Arr 8)) (n : Nat) (s : AState) : Prop := ∃ (a2 : Int) (a3 : (Arr 4)) (a4 : (Arr 4)), L_hash_compress_0 N p0 v1 n a2 a3 a4 = some r ∧ s = ⟨envL [(2, .eptr (.O 0) 1 0 0), (4, .eptr (.O 1) 1 0 0), (5, .eptr (.O 2) 1 0 0), (6, .eptr (.O 3) 1 0 0), (7, .eptr (.O 4) 1 0 0), (21, .agg (gA3.l.map (aI .u32))), (22, .D (.I .i64 a2))], ownL [], ownL [some (.row true 1 (p0.l.map (rI .u32))), some (.row true 1 ((Arr.zero 8).l.map (rI .u32))), some (.row true 1 (v1.l.map (rI .u32))), some (.row true 1 (a3.l.map (rI .u32))), some (.row true 1 (a4.l.map (rI .u32)))], 5⟩
def F_hash_compress (N : Nat) (p0 : (Arr 8)) (p1 : (List Int)) : Option (Arr 8) := bd? (F_hash_schedule N p1) fun v1 => L_hash_compress_0 N p0 v1 N 0 (p0.part 0 4) (p0.part 4 4)
theorem c_hash_compress (N : Nat) (p0 : (Arr 8)) (p1 : (List Int)) (r : (Arr 8)) (h : F_hash_compress N p0 p1 = some r) : ACall Tryd.prog 144 [.agg (p0.l.map (aI .u32)), .D (.L (p1.map (rI .u8)))] [] (.agg (r.l.map (aI .u32))) [] [] := by
 refine ACall.of_bodyW [17, 20, 9999999] (fn := Tryd.f144) (rc := f144c) (rs := f144r) Tryd.func144 rfl rfl (by kernel_rfl) (by kernel_rfl) (by kernel_rfl) (by rw [Tryd.ntmps144]; simp) ?_
 unfold F_hash_compress at h
 unfold f144c f144r
 rw [entry_eq _ _]
 obtain ⟨v1, h1, h⟩ := F_bd h
 simp only[push_cast,seval]
 refine call_flat (by rfl) (c_hash_schedule N _ _ h1) ?_ (by simp [AV.flat, AV.flatL, flatL_aI, flatL_app, DV.flat]) ?_
 ·simp only[push_cast,seval] <;> rfl
 simp only[push_cast,seval]
 refine regS_of true [.O 0] (by rfl) ?_
 simp only[push_cast,seval]
 refine loop_of (I_hash_compress_0 N p0 v1 _) N [2, 4, 5, 6, 7, 21, 22] [0, 1, 2, 3, 4] (by decide) ⟨0, (p0.part 0 4), (p0.part 4 4), h, ?_⟩ ?_
 ·rw [wk_mk]
  simp only[push_cast,seval] <;> rfl
 rintro n s ⟨a2, a3, a4, h, rfl⟩
 rcases n with _ | m1
 ·exact absurd h (by simp [L_hash_compress_0])
 rw [L_hash_compress_0] at h
 unfold f144b11
 rcases F_if h with ⟨h2, h⟩ | ⟨h2, h⟩
 rotate_left
 ·simp only[push_cast,seval,h2]
  refine loop_of (I_hash_compress_1 N a3 a4 _) N [2, 4, 6, 7, 94] [0, 1, 3, 4] (by decide) ⟨0, p0, h, ?_⟩ ?_
  ·rw [wk_mk]
   simp only[push_cast,seval,h2] <;> rfl
  rintro n s ⟨a17, a18, h, rfl⟩
  rcases n with _ | m3
  ·exact absurd h (by simp [L_hash_compress_1])
  rw [L_hash_compress_1] at h
  unfold f144b18
  rcases F_if h with ⟨h3, h⟩ | ⟨h3, h⟩
  rotate_left
  ·obtain rfl := Option.some.inj h
   simp only[push_cast,seval,h2,h3]
   refine e_ret (.inr rfl) ?_
   simp only[push_cast,seval,aret,aresults,aresult,h2,h3]
   refine ⟨_, rfl, ?_⟩
   first | (simp only[push_cast,seval,h2,h3] <;> rfl) | rfl
  obtain ⟨h4, h⟩ := F_gd h
  obtain ⟨h5, h⟩ := F_gd h
  obtain ⟨x19, h6, h7, h⟩ := F_get h
  have h8 := get_lt h6 h7
  have h9 := map_getG (rI .u32) h7
  try simp only[push_cast,seval] at h9
  obtain ⟨h10, h⟩ := F_gd h
  obtain ⟨x20, h11, h12, h⟩ := F_get h
  have h13 := get_lt h11 h12
  have h14 := map_getG (rI .u32) h12
  try simp only[push_cast,seval] at h14
  have h15 := arr_get (rI .u32) a18 (i := a17.toNat) (by omega)
  try simp only[push_cast,seval] at h15
  obtain ⟨h16, h⟩ := F_ck h
  try simp only[push_cast,seval] at h16
  obtain ⟨h17, h⟩ := F_gd h
  try simp only[push_cast,seval] at h17
  obtain ⟨h18, h⟩ := F_gd h
  try simp only[push_cast,seval] at h18
  obtain ⟨x21, h19, h20, h⟩ := F_get h
  have h21 := get_lt h19 h20
  have h22 := map_getG (rI .u32) h20
  try simp only[push_cast,seval] at h22 h19 h21
  obtain ⟨x22, h23, h24, h⟩ := F_get h
  have h25 := get_lt h23 h24
  have h26 := map_getG (rI .u32) h24
  try simp only[push_cast,seval] at h26
  have h27 := arr_get (rI .u32) (a18.set a17.toNat (IntKind.wrap .u32 (x19 + x20))) (i := (a17 + 4).toNat) (by omega)
  try simp only[push_cast,seval] at h27
  obtain ⟨h28, h⟩ := F_ck h
  try simp only[push_cast,seval] at h28
  simp only[push_cast,seval,h2,h3,h4,h5,h6,h9,h8,h10,h11,h14,h13,h15,h16,h17,h18,h19,h22,h21,h23,h26,h25,h27,h28]
  refine lpK_of m3 [2, 4, 6, 7, 94] [0, 1, 2, 3] (by omega) (by decide) ⟨(a17 + 1), ((a18.set a17.toNat (IntKind.wrap .u32 (x19 + x20))).set (a17 + 4).toNat (IntKind.wrap .u32 (x21 + x22))), (by first | exact h | simpa only [*] using h), ?_⟩
  rw [wk_mk]
  simp only[push_cast,seval,h2,h3,h4,h5,h6,h9,h8,h10,h11,h14,h13,h15,h16,h17,h18,h19,h22,h21,h23,h26,h25,h27,h28] <;> rfl
 obtain ⟨h29, h⟩ := F_gd h
 obtain ⟨h30, h⟩ := F_gd h
 obtain ⟨x5, h31, h32, h⟩ := F_get h
 have h33 := get_lt h31 h32
 have h34 := map_getG (aI .u32) h32
 try simp only[push_cast,seval] at h34
 obtain ⟨x6, h35, h36, h⟩ := F_get h
 have h37 := get_lt h35 h36
 have h38 := map_getG (rI .u32) h36
 try simp only[push_cast,seval] at h38
 obtain ⟨x7, h39, h40, h⟩ := F_get h
 have h41 := get_lt h39 h40
 have h42 := map_getG (rI .u32) h40
 try simp only[push_cast,seval] at h42
 obtain ⟨v8, h43, h⟩ := F_bd h
 simp only[push_cast,seval,h2,h29,h30,h31,h34,h33,h35,h38,h37,h39,h42,h41]
 refine call_flat (by rfl) (c_hash_mix N _ _ _ _ _ h43) ?_ rfl ?_
 ·simp only[push_cast,seval,h2,h29,h30,h31,h34,h33,h35,h38,h37,h39,h42,h41] <;> rfl
 obtain ⟨x9, h44, h45, h⟩ := F_get h
 have h46 := get_lt h44 h45
 have h47 := map_getG (rI .u32) h45
 try simp only[push_cast,seval] at h47
 obtain ⟨x10, h48, h49, h⟩ := F_get h
 have h50 := get_lt h48 h49
 have h51 := map_getG (rI .u32) h49
 try simp only[push_cast,seval] at h51
 obtain ⟨x11, h52, h53, h⟩ := F_get h
 have h54 := get_lt h52 h53
 have h55 := map_getG (rI .u32) h53
 try simp only[push_cast,seval] at h55
 obtain ⟨x12, h56, h57, h⟩ := F_get h
 have h58 := get_lt h56 h57
 have h59 := map_getG (rI .u32) h57
 try simp only[push_cast,seval] at h59
 obtain ⟨v13, h60, h⟩ := F_bd h
 simp only[push_cast,seval,h2,h29,h30,h31,h34,h33,h35,h38,h37,h39,h42,h41,h44,h47,h46,h48,h51,h50,h52,h55,h54,h56,h59,h58]
 refine call_flat (by rfl) (c_hash_mix N _ _ _ _ _ h60) ?_ rfl ?_
 ·simp only[push_cast,seval,h2,h29,h30,h31,h34,h33,h35,h38,h37,h39,h42,h41,h44,h47,h46,h48,h51,h50,h52,h55,h54,h56,h59,h58] <;> rfl
 obtain ⟨x14, h61, h62, h⟩ := F_get h
 have h63 := get_lt h61 h62
 have h64 := map_getG (rI .u32) h62
 try simp only[push_cast,seval] at h64
 obtain ⟨x15, h65, h66, h⟩ := F_get h
 have h67 := get_lt h65 h66
 have h68 := map_getG (rI .u32) h66
 try simp only[push_cast,seval] at h68
 obtain ⟨x16, h69, h70, h⟩ := F_get h
 have h71 := get_lt h69 h70
 have h72 := map_getG (rI .u32) h70
 try simp only[push_cast,seval] at h72
 obtain ⟨h73, h⟩ := F_ck h
 try simp only[push_cast,seval] at h73
 simp only[push_cast,seval,h2,h29,h30,h31,h34,h33,h35,h38,h37,h39,h42,h41,h44,h47,h46,h48,h51,h50,h52,h55,h54,h56,h59,h58,h61,h64,h63,h65,h68,h67,h69,h72,h71,h73]
 refine lpK_of m1 [2, 4, 5, 6, 7, 21, 22] [0, 1, 2, 3, 4] (by omega) (by decide) ⟨(a2 + 1), (Arr.of [(IntKind.wrap .u32 ((IntKind.wrap .u32 ((IntKind.wrap .u32 ((IntKind.wrap .u32 ((IntKind.wrap .u32 (x6 + v8)) + (bits .xor .u32 (bits .and .u32 x7 x9) (bits .and .u32 (bits .xor .u32 4294967295 x7) x10)))) + x5)) + x11)) + (IntKind.wrap .u32 (v13 + (bits .xor .u32 (bits .xor .u32 (bits .and .u32 x12 x14) (bits .and .u32 x12 x15)) (bits .and .u32 x14 x15)))))), x12, x14, x15] rfl), (Arr.of [(IntKind.wrap .u32 (x16 + (IntKind.wrap .u32 ((IntKind.wrap .u32 ((IntKind.wrap .u32 ((IntKind.wrap .u32 (x6 + v8)) + (bits .xor .u32 (bits .and .u32 x7 x9) (bits .and .u32 (bits .xor .u32 4294967295 x7) x10)))) + x5)) + x11)))), x7, x9, x10] rfl), (by first | exact h | simpa only [*] using h), ?_⟩
 rw [wk_mk]
 simp only[push_cast,seval,h2,h29,h30,h31,h34,h33,h35,h38,h37,h39,h42,h41,h44,h47,h46,h48,h51,h50,h52,h55,h54,h56,h59,h58,h61,h64,h63,h65,h68,h67,h69,h72,h71,h73] <;> rfl

def f117g0 : List RO := [o_ 2 (.boxR (t_ 0)), o_ 4 (.newR (((Arr.zero 8).l.map (aI .u32)) ++ (((Arr.zero 64).l.map (aI .u8)) ++ [(.D (.I .u64 0))])))]
def f117g1 : List RO := [o_ 7 (.mv (t_ 1)), o_ 8 (.bin .neq (t_ 7) (.const (.string ⟨#[]⟩)))]
def f117g2 : List RO := [o_ 9 (.faddr 72 (t_ 2)), o_ 10 (.load .none (t_ 9)), o_ 11 (.bin .rem (t_ 10) (.const (.int .u64 64))), o_ 12 (.cvI .i64 (t_ 11)), o_ 5 (.mv (t_ 12))]
def f117g3 : List RO := [o_ 13 (.faddr 8 (t_ 2)), o_ 14 (.mv (t_ 5)), o_ 15 (.slsA 64 (t_ 13) (.some (t_ 14)) .none), o_ 16 (.mv (t_ 1)), o_ 17 (.cpy 1 (t_ 15) (t_ 16)), o_ 6 (.mv (t_ 17))]
def f117g4 : List RO := [o_ 18 (.mv (t_ 1)), o_ 19 (.mv (t_ 6)), o_ 20 (.sls (t_ 18) (.some (t_ 19)) .none), o_ 1 (.mv (t_ 20))]
def f117g5 : List RO := [o_ 21 (.faddr 72 (t_ 2)), o_ 22 (.load .none (t_ 21)), o_ 23 (.mv (t_ 6)), o_ 24 (.cvI .u64 (t_ 23)), o_ 25 (.bin .add (t_ 22) (t_ 24)), o_ 26 (.faddr 72 (t_ 2)), n_ (.store 1 (t_ 26) (t_ 25))]
def f117g6 : List RO := [o_ 27 (.mv (t_ 5)), o_ 28 (.mv (t_ 6)), o_ 29 (.bin .add (t_ 27) (t_ 28)), o_ 30 (.bin .eql (t_ 29) (.const (.int .i64 64)))]
def f117g7 : List RO := [o_ 31 (.faddr 0 (t_ 2)), o_ 32 (.load (.some 8) (t_ 31)), o_ 33 (.faddr 8 (t_ 2)), o_ 34 (.slsA 64 (t_ 33) .none .none), o_ 35 (.call (.func 144) [(t_ 32), (t_ 34)]), o_ 36 (.faddr 0 (t_ 2)), n_ (.store 8 (t_ 36) (t_ 35))]
def f117b8 : RCode := (.seq (.seq (.reg .false f117g1) (.cond (t_ 8) .skip (.exit 0))) (.block 1 (.seq (.reg .false f117g2) (.seq (.reg .false f117g3) (.seq (.reg .false f117g4) (.seq (.reg .false f117g5) (.seq (.reg .false f117g6) (.cond (t_ 30) (.regS f117g7) .skip))))))))
def f117g9 : List RO := [o_ 37 (.load (.some 73) (t_ 2)), n_ (.store 73 (t_ 4) (t_ 37))]
def f117c : RCode := (.seq (.reg .false f117g0) (.seq (.block 0 (.loop f117b8)) (.seq (.reg .false f117g9) .ret)))
def f117r : List RRes := [(.cell (.some 73) 4)]
attribute [push_cast] f117g0 f117g1 f117g2 f117g3 f117g4 f117g5 f117g6 f117g7 f117g9
def L_hash_Stream_Add_0 (N : Nat) : Nat → Str → (Arr 8) → (Arr 64) → Int → Option HashStream
  | 0, _, _, _, _ => none
  | m1+1, a1, a2, a3, a4 => if? ((a1 == ([] : Str))) (some ((HashStream.mk a2 a3 a4))) (ck .i64 ((Int.tmod a4 64)) (gd? (0 ≤ ((Int.tmod a4 64))) (gd? (((Int.tmod a4 64)).toNat ≤ 64) (gd? (0 ≤ (((min a1.length (64 - ((Int.tmod a4 64)).toNat)) : Nat) : Int)) (gd? ((((min a1.length (64 - ((Int.tmod a4 64)).toNat)) : Nat) : Int).toNat ≤ a1.length) (ck .i64 (((Int.tmod a4 64)) + (((min a1.length (64 - ((Int.tmod a4 64)).toNat)) : Nat) : Int)) (if? (((((Int.tmod a4 64)) + (((min a1.length (64 - ((Int.tmod a4 64)).toNat)) : Nat) : Int)) == 64)) (bd? (F_hash_compress N a2 ((a3.put (((Int.tmod a4 64)).toNat) ((intsS a1).take (min a1.length (64 - ((Int.tmod a4 64)).toNat)))).l)) fun v5 => L_hash_Stream_Add_0 N m1 ((a1.drop (((min a1.length (64 - ((Int.tmod a4 64)).toNat)) : Nat) : Int).toNat).take (a1.length - (((min a1.length (64 - ((Int.tmod a4 64)).toNat)) : Nat) : Int).toNat)) v5 (a3.put (((Int.tmod a4 64)).toNat) ((intsS a1).take (min a1.length (64 - ((Int.tmod a4 64)).toNat)))) (IntKind.wrap .u64 (a4 + (IntKind.wrap .u64 ((((min a1.length (64 - ((Int.tmod a4 64)).toNat)) : Nat) : Int)))))) (L_hash_Stream_Add_0 N m1 ((a1.drop (((min a1.length (64 - ((Int.tmod a4 64)).toNat)) : Nat) : Int).toNat).take (a1.length - (((min a1.length (64 - ((Int.tmod a4 64)).toNat)) : Nat) : Int).toNat)) a2 (a3.put (((Int.tmod a4 64)).toNat) ((intsS a1).take (min a1.length (64 - ((Int.tmod a4 64)).toNat)))) (IntKind.wrap .u64 (a4 + (IntKind.wrap .u64 ((((min a1.length (64 - ((Int.tmod a4 64)).toNat)) : Nat) : Int)))))))))))))
def I_hash_Stream_Add_0 (N : Nat) (r : HashStream) (n : Nat) (s : AState) : Prop := ∃ (a1 : Str) (a2 : (Arr 8)) (a3 : (Arr 64)) (a4 : Int), L_hash_Stream_Add_0 N n a1 a2 a3 a4 = some r ∧ s = ⟨envL [(1, .D (.S a1)), (2, .eptr (.O 0) 1 0 0), (4, .eptr (.O 1) 1 0 0)], ownL [], ownL [some (.row true 1 ((a2.l.map (rI .u32)) ++ ((a3.l.map (rI .u8)) ++ ([[.I .u64 a4]])))), some (.row true 1 (((Arr.zero 8).l.map (rI .u32)) ++ (((Arr.zero 64).l.map (rI .u8)) ++ ([[.I .u64 0]]))))], 2⟩
def F_hash_Stream_Add (N : Nat) (p0 : HashStream) (p1 : Str) : Option HashStream := L_hash_Stream_Add_0 N N p1 p0.state p0.block p0.n
theorem c_hash_Stream_Add (N : Nat) (p0 : HashStream) (p1 : Str) (r : HashStream) (h : F_hash_Stream_Add N p0 p1 = some r) : ACall Tryd.prog 117 [.agg ((p0.state.l.map (aI .u32)) ++ ((p0.block.l.map (aI .u8)) ++ ([.D (.I .u64 p0.n)]))), .D (.S p1)] [] (.agg ((r.state.l.map (aI .u32)) ++ ((r.block.l.map (aI .u8)) ++ ([.D (.I .u64 r.n)])))) [] [] := by
 refine ACall.of_bodyW [] (fn := Tryd.f117) (rc := f117c) (rs := f117r) Tryd.func117 rfl rfl (by kernel_rfl) (by kernel_rfl) (by kernel_rfl) (by rw [Tryd.ntmps117]; simp) ?_
 unfold F_hash_Stream_Add at h
 unfold f117c f117r
 rw [entry_eq _ _]
 simp only[push_cast,seval]
 refine loop_of (I_hash_Stream_Add_0 N _) N [1, 2, 4] [0, 1] (by decide) ⟨p1, p0.state, p0.block, p0.n, h, ?_⟩ ?_
 ·rw [wk_mk]
  simp only[push_cast,seval] <;> rfl
 rintro n s ⟨a1, a2, a3, a4, h, rfl⟩
 rcases n with _ | m1
 ·exact absurd h (by simp [L_hash_Stream_Add_0])
 rw [L_hash_Stream_Add_0] at h
 unfold f117b8
 rcases F_if h with ⟨h1, h⟩ | ⟨h1, h⟩
 ·try simp only[push_cast,seval] at h1
  obtain rfl := Option.some.inj h
  simp only[push_cast,seval,h1]
  refine e_ret (.inr rfl) ?_
  simp only[push_cast,seval,aret,aresults,aresult,h1]
  refine ⟨_, rfl, ?_⟩
  first | (simp only[push_cast,seval,h1] <;> rfl) | rfl
 try simp only[push_cast,seval] at h1
 obtain ⟨h2, h⟩ := F_ck h
 try simp only[push_cast,seval] at h2
 obtain ⟨h3, h⟩ := F_gd h
 try simp only[push_cast,seval] at h3
 obtain ⟨h4, h⟩ := F_gd h
 try simp only[push_cast,seval] at h4
 have h5 := (by omega : 8 + ((Int.tmod a4 64)).toNat + (64 - ((Int.tmod a4 64)).toNat) ≤ 73)
 try simp only[push_cast,seval] at h5
 obtain ⟨h6, h⟩ := F_gd h
 try simp only[push_cast,seval] at h6
 obtain ⟨h7, h⟩ := F_gd h
 try simp only[push_cast,seval] at h7
 obtain ⟨h8, h⟩ := F_ck h
 try simp only[push_cast,seval] at h8
 rcases F_if h with ⟨h9, h⟩ | ⟨h9, h⟩
 rotate_left
 ·try simp (disch:=first|assumption|(simp;done)|omega|(simp;omega)) only[push_cast,seval] at h9
  simp (disch:=first|assumption|(simp;done)|omega|(simp;omega)) only[push_cast,seval,h1,h2,h3,h4,h5,h6,h7,h8,h9]
  refine lpK_of m1 [1, 2, 4] [0, 1] (by omega) (by decide) ⟨((a1.drop (((min a1.length (64 - ((Int.tmod a4 64)).toNat)) : Nat) : Int).toNat).take (a1.length - (((min a1.length (64 - ((Int.tmod a4 64)).toNat)) : Nat) : Int).toNat)), a2, (a3.put (((Int.tmod a4 64)).toNat) ((intsS a1).take (min a1.length (64 - ((Int.tmod a4 64)).toNat)))), (IntKind.wrap .u64 (a4 + (IntKind.wrap .u64 ((((min a1.length (64 - ((Int.tmod a4 64)).toNat)) : Nat) : Int))))), (by first | exact h | simpa only [*] using h), ?_⟩
  rw [wk_mk]
  simp (disch:=first|assumption|(simp;done)|omega|(simp;omega)) only[push_cast,seval,h1,h2,h3,h4,h5,h6,h7,h8,h9] <;> rfl
 try simp (disch:=first|assumption|(simp;done)|omega|(simp;omega)) only[push_cast,seval] at h9
 simp (disch:=first|assumption|(simp;done)|omega|(simp;omega)) only[push_cast,seval,h1,h2,h3,h4,h5,h6,h7,h8,h9]
 refine regS_of false [.O 0] (by rfl) ?_
 obtain ⟨v5, h10, h⟩ := F_bd h
 simp (disch:=first|assumption|(simp;done)|omega|(simp;omega)) only[push_cast,seval,h1,h2,h3,h4,h5,h6,h7,h8,h9]
 refine call_flat (by rfl) (c_hash_compress N _ _ _ h10) ?_ (by simp [AV.flat, AV.flatL, flatL_aI, flatL_app, DV.flat]) ?_
 ·simp only[push_cast,seval,h1,h2,h3,h4,h5,h6,h7,h8,h9] <;> rfl
 simp only[push_cast,seval,h1,h2,h3,h4,h5,h6,h7,h8,h9]
 refine lpK_of m1 [1, 2, 4] [0, 1] (by omega) (by decide) ⟨((a1.drop (((min a1.length (64 - ((Int.tmod a4 64)).toNat)) : Nat) : Int).toNat).take (a1.length - (((min a1.length (64 - ((Int.tmod a4 64)).toNat)) : Nat) : Int).toNat)), v5, (a3.put (((Int.tmod a4 64)).toNat) ((intsS a1).take (min a1.length (64 - ((Int.tmod a4 64)).toNat)))), (IntKind.wrap .u64 (a4 + (IntKind.wrap .u64 ((((min a1.length (64 - ((Int.tmod a4 64)).toNat)) : Nat) : Int))))), (by first | exact h | simpa only [*] using h), ?_⟩
 rw [wk_mk]
 simp only[push_cast,seval,h1,h2,h3,h4,h5,h6,h7,h8,h9] <;> rfl

def f118g0 : List RO := [o_ 2 (.mv (.const (.slice .none 0 0)))]
def f118g1 : List RO := [o_ 3 (.mv (t_ 0)), o_ 4 (.len .true (t_ 3)), o_ 5 (.call (.func 107) [(t_ 4)]), o_ 6 (.mv (t_ 0)), o_ 7 (.appE 1 1 (t_ 5) (t_ 6)), o_ 2 (.mv (t_ 7))]
def f118c : RCode := (.seq (.reg .false f118g0) (.seq (.reg .false f118g1) .ret))
def f118r : List RRes := [(.tmp 2)]
attribute [push_cast] f118g0 f118g1
def F_wire_Bytes (N : Nat) (p0 : Str) : Option (List Int) := bd? (F_wire_Int N (p0.length : Int)) fun v1 => gd? ((v1.length + (intsS p0).length) * 1 ≤ 140737488355328) (some ((v1 ++ (intsS p0))))
theorem c_wire_Bytes (N : Nat) (p0 : Str) (r : (List Int)) (h : F_wire_Bytes N p0 = some r) : ACall Tryd.prog 118 [.D (.S p0)] [] (.sl (.O 0) 1 0 r.length) [] [.row true 1 (r.map (rI .u8))] := by
 refine ACall.of_bodyW [7] (fn := Tryd.f118) (rc := f118c) (rs := f118r) Tryd.func118 rfl rfl (by kernel_rfl) (by kernel_rfl) (by kernel_rfl) (by rw [Tryd.ntmps118]; simp) ?_
 unfold F_wire_Bytes at h
 unfold f118c f118r
 rw [entry_eq _ _]
 obtain ⟨v1, h1, h⟩ := F_bd h
 simp only[push_cast,seval]
 refine call_new (by rfl) (c_wire_Int N _ _ h1) ?_ rfl ?_
 ·simp only[push_cast,seval] <;> rfl
 obtain ⟨h2, h⟩ := F_gd h
 try simp only[push_cast,seval] at h2
 obtain rfl := Option.some.inj h
 simp only[push_cast,seval,h2]
 refine AEndW.of [1] (.inr rfl) (by decide) rfl ?_ rfl ?_
 ·simp only[push_cast,seval,h2] <;> rfl
 ·simp only[push_cast,seval,h2] <;> rfl

def f119g0 : List RO := [o_ 1 (.boxR (t_ 0)), o_ 2 (.newR ((Arr.zero 32).l.map (aI .u8)))]
def f119g1 : List RO := [o_ 8 (.faddr 72 (t_ 1)), o_ 9 (.load .none (t_ 8)), o_ 10 (.bin .mul (.const (.int .u64 8)) (t_ 9)), o_ 3 (.mv (t_ 10))]
def f119g2 : List RO := [o_ 11 (.bslice 1 [(.const (.int .u8 128))]), o_ 4 (.mv (t_ 11))]
def f119g3 : List RO := [o_ 12 (.faddr 72 (t_ 1)), o_ 13 (.load .none (t_ 12)), o_ 14 (.cvI .i64 (t_ 13)), o_ 15 (.mv (t_ 4)), o_ 16 (.len .false (t_ 15)), o_ 17 (.bin .add (t_ 14) (t_ 16)), o_ 18 (.bin .rem (t_ 17) (.const (.int .i64 64))), o_ 19 (.bin .neq (t_ 18) (.const (.int .i64 56)))]
def f119g4 : List RO := [o_ 20 (.mv (t_ 4)), o_ 21 (.bslice 1 [(.const (.int .u8 0))]), o_ 22 (.appE 1 1 (t_ 20) (t_ 21)), o_ 4 (.mv (t_ 22))]
def f119b5 : RCode := (.seq (.seq (.reg .false f119g3) (.cond (t_ 19) .skip (.exit 0))) (.block 1 (.reg .false f119g4)))
def f119g6 : List RO := [o_ 23 (.mv (.const (.int .i64 0)))]
def f119g7 : List RO := [o_ 24 (.bin .lss (t_ 23) (.const (.int .i64 8)))]
def f119g8 : List RO := [o_ 25 (.mv (t_ 23)), o_ 5 (.mv (t_ 25))]
def f119g9 : List RO := [o_ 26 (.mv (t_ 4)), o_ 27 (.mv (t_ 3)), o_ 28 (.mv (t_ 5)), o_ 29 (.bin .mul (.const (.int .i64 8)) (t_ 28)), o_ 30 (.bin .sub (.const (.int .i64 56)) (t_ 29)), o_ 31 (.bin .shr (t_ 27) (t_ 30)), o_ 32 (.cvI .u8 (t_ 31)), o_ 33 (.bslice 1 [(t_ 32)]), o_ 34 (.appE 1 1 (t_ 26) (t_ 33)), o_ 4 (.mv (t_ 34))]
def f119g10 : List RO := [o_ 35 (.bin .add (t_ 23) (.const (.int .i64 1))), o_ 23 (.mv (t_ 35))]
def f119b11 : RCode := (.seq (.reg .false f119g7) (.seq (.cond (t_ 24) .skip (.exit 2)) (.seq (.block 3 (.seq (.reg .false f119g8) (.reg .false f119g9))) (.reg .false f119g10))))
def f119g12 : List RO := [o_ 36 (.load (.some 73) (t_ 1)), o_ 37 (.mv (t_ 4)), o_ 38 (.cvS (t_ 37)), o_ 39 (.call (.func 117) [(t_ 36), (t_ 38)]), n_ (.store 73 (t_ 1) (t_ 39))]
def f119g13 : List RO := [o_ 6 (.newR ((Arr.zero 32).l.map (aI .u8)))]
def f119g14 : List RO := [o_ 40 (.mv (.const (.int .i64 0)))]
def f119g15 : List RO := [o_ 41 (.bin .lss (t_ 40) (.const (.int .i64 32)))]
def f119g16 : List RO := [o_ 42 (.mv (t_ 40)), o_ 7 (.mv (t_ 42))]
def f119g17 : List RO := [o_ 43 (.mv (t_ 7)), o_ 44 (.mv (t_ 7)), o_ 45 (.bin .quo (t_ 44) (.const (.int .i64 4))), o_ 46 (.faddr 0 (t_ 1)), o_ 47 (.iaddrA 8 1 (t_ 46) (t_ 45)), o_ 48 (.load .none (t_ 47)), o_ 49 (.mv (t_ 7)), o_ 50 (.bin .rem (t_ 49) (.const (.int .i64 4))), o_ 51 (.bin .mul (.const (.int .i64 8)) (t_ 50)), o_ 52 (.bin .sub (.const (.int .i64 24)) (t_ 51)), o_ 53 (.bin .shr (t_ 48) (t_ 52)), o_ 54 (.cvI .u8 (t_ 53)), o_ 55 (.iaddrA 32 1 (t_ 6) (t_ 43)), n_ (.store 1 (t_ 55) (t_ 54))]
def f119g18 : List RO := [o_ 56 (.bin .add (t_ 40) (.const (.int .i64 1))), o_ 40 (.mv (t_ 56))]
def f119b19 : RCode := (.seq (.reg .false f119g15) (.seq (.cond (t_ 41) .skip (.exit 4)) (.seq (.block 5 (.seq (.reg .false f119g16) (.reg .false f119g17))) (.reg .false f119g18))))
def f119g20 : List RO := [o_ 57 (.load (.some 32) (t_ 6)), n_ (.store 32 (t_ 2) (t_ 57))]
def f119c : RCode := (.seq (.reg .false f119g0) (.seq (.reg .false f119g1) (.seq (.reg .false f119g2) (.seq (.block 0 (.loop f119b5)) (.seq (.seq (.reg .false f119g6) (.block 2 (.loop f119b11))) (.seq (.reg .false f119g12) (.seq (.reg .false f119g13) (.seq (.seq (.reg .false f119g14) (.block 4 (.loop f119b19))) (.seq (.reg .false f119g20) .ret)))))))))
def f119r : List RRes := [(.cell (.some 32) 2)]
attribute [push_cast] f119g0 f119g1 f119g2 f119g3 f119g4 f119g6 f119g7 f119g8 f119g9 f119g10 f119g12 f119g13 f119g14 f119g15 f119g16 f119g17 f119g18 f119g20
def L_hash_Stream_Sum_2 (N : Nat) (v4 : HashStream) : Nat → Int → (Arr 32) → Option (Arr 32)
  | 0, _, _ => none
  | m5+1, a5, a6 => if? (decide (a5 < 32)) (ck .i64 (Int.tdiv a5 4) (gd? (0 ≤ (Int.tdiv a5 4)) (gd? ((Int.tdiv a5 4) < 8) (get? v4.state.l ((Int.tdiv a5 4)) fun x7 => ck .i64 (8 * (Int.tmod a5 4)) (ck .i64 (24 - (8 * (Int.tmod a5 4))) (gd? (0 ≤ (24 - (8 * (Int.tmod a5 4)))) (gd? ((24 - (8 * (Int.tmod a5 4))) ≤ (IntKind.bits .u32 : Int)) (gd? (0 ≤ a5) (gd? (a5 < 32) (ck .i64 (a5 + 1) (L_hash_Stream_Sum_2 N v4 m5 (a5 + 1) (a6.set a5.toNat (IntKind.wrap .u8 ((x7 / 2 ^ (24 - (8 * (Int.tmod a5 4))).toNat))))))))))))))) (some (a6))
def I_hash_Stream_Sum_2 (N : Nat) (v4 : HashStream) (r : (Arr 32)) (n : Nat) (s : AState) : Prop := ∃ (a5 : Int) (a6 : (Arr 32)), L_hash_Stream_Sum_2 N v4 n a5 a6 = some r ∧ s = ⟨envL [(1, .eptr (.O 0) 1 0 0), (2, .eptr (.O 1) 1 0 0), (6, .eptr (.O 2) 1 0 0), (40, .D (.I .i64 a5))], ownL [], ownL [some (.row true 1 ((v4.state.l.map (rI .u32)) ++ ((v4.block.l.map (rI .u8)) ++ ([[.I .u64 v4.n]])))), some (.row true 1 ((Arr.zero 32).l.map (rI .u8))), some (.row true 1 (a6.l.map (rI .u8)))], 3⟩
def L_hash_Stream_Sum_1 (N : Nat) (p0 : HashStream) : Nat → Int → (List Int) → Option (Arr 32)
  | 0, _, _ => none
  | m3+1, a2, a3 => if? (decide (a2 < 8)) (ck .i64 (8 * a2) (ck .i64 (56 - (8 * a2)) (gd? (0 ≤ (56 - (8 * a2))) (gd? ((56 - (8 * a2)) ≤ (IntKind.bits .u64 : Int)) (gd? ((a3.length + [(IntKind.wrap .u8 (((IntKind.wrap .u64 (8 * p0.n)) / 2 ^ (56 - (8 * a2)).toNat)))].length) * 1 ≤ 140737488355328) (ck .i64 (a2 + 1) (L_hash_Stream_Sum_1 N p0 m3 (a2 + 1) (a3 ++ [(IntKind.wrap .u8 (((IntKind.wrap .u64 (8 * p0.n)) / 2 ^ (56 - (8 * a2)).toNat)))])))))))) (bd? (F_hash_Stream_Add N p0 (bytesI a3)) fun v4 => L_hash_Stream_Sum_2 N v4 N 0 (Arr.zero 32))
def I_hash_Stream_Sum_1 (N : Nat) (p0 : HashStream) (r : (Arr 32)) (n : Nat) (s : AState) : Prop := ∃ (a2 : Int) (a3 : (List Int)), L_hash_Stream_Sum_1 N p0 n a2 a3 = some r ∧ s = ⟨envL [(1, .eptr (.O 0) 1 0 0), (2, .eptr (.O 1) 1 0 0), (3, .D (.I .u64 (IntKind.wrap .u64 (8 * p0.n)))), (4, .sl (.O 2) 1 0 a3.length), (23, .D (.I .i64 a2))], ownL [], ownL [some (.row true 1 ((p0.state.l.map (rI .u32)) ++ ((p0.block.l.map (rI .u8)) ++ ([[.I .u64 p0.n]])))), some (.row true 1 ((Arr.zero 32).l.map (rI .u8))), some (.row true 1 (a3.map (rI .u8)))], 3⟩
def L_hash_Stream_Sum_0 (N : Nat) (p0 : HashStream) : Nat → (List Int) → Option (Arr 32)
  | 0, _ => none
  | m1+1, a1 => ck .i64 (p0.n) (ck .i64 ((p0.n) + (a1.length : Int)) (if? (((Int.tmod ((p0.n) + (a1.length : Int)) 64) != 56)) (gd? ((a1.length + [0].length) * 1 ≤ 140737488355328) (L_hash_Stream_Sum_0 N p0 m1 (a1 ++ [0]))) (L_hash_Stream_Sum_1 N p0 N 0 a1)))
def I_hash_Stream_Sum_0 (N : Nat) (p0 : HashStream) (r : (Arr 32)) (n : Nat) (s : AState) : Prop := ∃ (a1 : (List Int)), L_hash_Stream_Sum_0 N p0 n a1 = some r ∧ s = ⟨envL [(1, .eptr (.O 0) 1 0 0), (2, .eptr (.O 1) 1 0 0), (3, .D (.I .u64 (IntKind.wrap .u64 (8 * p0.n)))), (4, .sl (.O 2) 1 0 a1.length)], ownL [], ownL [some (.row true 1 ((p0.state.l.map (rI .u32)) ++ ((p0.block.l.map (rI .u8)) ++ ([[.I .u64 p0.n]])))), some (.row true 1 ((Arr.zero 32).l.map (rI .u8))), some (.row true 1 (a1.map (rI .u8)))], 3⟩
def F_hash_Stream_Sum (N : Nat) (p0 : HashStream) : Option (Arr 32) := L_hash_Stream_Sum_0 N p0 N [128]
theorem c_hash_Stream_Sum (N : Nat) (p0 : HashStream) (r : (Arr 32)) (h : F_hash_Stream_Sum N p0 = some r) : ACall Tryd.prog 119 [.agg ((p0.state.l.map (aI .u32)) ++ ((p0.block.l.map (aI .u8)) ++ ([.D (.I .u64 p0.n)])))] [] (.agg (r.l.map (aI .u8))) [] [] := by
 refine ACall.of_bodyW [22, 34] (fn := Tryd.f119) (rc := f119c) (rs := f119r) Tryd.func119 rfl rfl (by kernel_rfl) (by kernel_rfl) (by kernel_rfl) (by rw [Tryd.ntmps119]; simp) ?_
 unfold F_hash_Stream_Sum at h
 unfold f119c f119r
 rw [entry_eq _ _]
 simp only[push_cast,seval]
 refine loop_of (I_hash_Stream_Sum_0 N p0 _) N [1, 2, 3, 4] [0, 1, 2] (by decide) ⟨[128], h, ?_⟩ ?_
 ·rw [wk_mk]
  simp only[push_cast,seval] <;> rfl
 rintro n s ⟨a1, h, rfl⟩
 rcases n with _ | m1
 ·exact absurd h (by simp [L_hash_Stream_Sum_0])
 rw [L_hash_Stream_Sum_0] at h
 unfold f119b5
 obtain ⟨h1, h⟩ := F_ck h
 try simp only[push_cast,seval] at h1
 obtain ⟨h2, h⟩ := F_ck h
 try simp only[push_cast,seval] at h2
 rcases F_if h with ⟨h3, h⟩ | ⟨h3, h⟩
 ·try simp only[push_cast,seval] at h3
  obtain ⟨h4, h⟩ := F_gd h
  try simp only[push_cast,seval] at h4
  simp only[push_cast,seval,h1,h2,h3,h4]
  refine lpK_of m1 [1, 2, 3, 4] [0, 1, 4] (by omega) (by decide) ⟨(a1 ++ [0]), (by first | exact h | simpa only [*] using h), ?_⟩
  rw [wk_mk]
  simp only[push_cast,seval,h1,h2,h3,h4] <;> rfl
 try simp only[push_cast,seval] at h3
 simp only[push_cast,seval,h1,h2,h3]
 refine loop_of (I_hash_Stream_Sum_1 N p0 _) N [1, 2, 3, 4, 23] [0, 1, 2] (by decide) ⟨0, a1, h, ?_⟩ ?_
 ·rw [wk_mk]
  simp only[push_cast,seval,h1,h2,h3] <;> rfl
 rintro n s ⟨a2, a3, h, rfl⟩
 rcases n with _ | m3
 ·exact absurd h (by simp [L_hash_Stream_Sum_1])
 rw [L_hash_Stream_Sum_1] at h
 unfold f119b11
 rcases F_if h with ⟨h5, h⟩ | ⟨h5, h⟩
 ·obtain ⟨h6, h⟩ := F_ck h
  try simp only[push_cast,seval] at h6
  obtain ⟨h7, h⟩ := F_ck h
  try simp only[push_cast,seval] at h7
  obtain ⟨h8, h⟩ := F_gd h
  try simp only[push_cast,seval] at h8
  obtain ⟨h9, h⟩ := F_gd h
  try simp only[push_cast,seval] at h9
  obtain ⟨h10, h⟩ := F_gd h
  try simp only[push_cast,seval] at h10
  obtain ⟨h11, h⟩ := F_ck h
  try simp only[push_cast,seval] at h11
  simp only[push_cast,seval,h1,h2,h3,h5,h6,h7,h8,h9,h10,h11]
  refine lpK_of m3 [1, 2, 3, 4, 23] [0, 1, 4] (by omega) (by decide) ⟨(a2 + 1), (a3 ++ [(IntKind.wrap .u8 (((IntKind.wrap .u64 (8 * p0.n)) / 2 ^ (56 - (8 * a2)).toNat)))]), (by first | exact h | simpa only [*] using h), ?_⟩
  rw [wk_mk]
  simp only[push_cast,seval,h1,h2,h3,h5,h6,h7,h8,h9,h10,h11] <;> rfl
 obtain ⟨v4, h12, h⟩ := F_bd h
 simp only[push_cast,seval,h1,h2,h3,h5]
 refine call_flat (by rfl) (c_hash_Stream_Add N _ _ _ h12) ?_ (by simp [AV.flat, AV.flatL, flatL_aI, flatL_app, DV.flat]) ?_
 ·simp only[push_cast,seval,h1,h2,h3,h5] <;> rfl
 simp only[push_cast,seval,h1,h2,h3,h5]
 refine loop_of (I_hash_Stream_Sum_2 N v4 _) N [1, 2, 6, 40] [0, 1, 3] (by decide) ⟨0, (Arr.zero 32), h, ?_⟩ ?_
 ·rw [wk_mk]
  simp only[push_cast,seval,h1,h2,h3,h5] <;> rfl
 rintro n s ⟨a5, a6, h, rfl⟩
 rcases n with _ | m5
 ·exact absurd h (by simp [L_hash_Stream_Sum_2])
 rw [L_hash_Stream_Sum_2] at h
 unfold f119b19
 rcases F_if h with ⟨h13, h⟩ | ⟨h13, h⟩
 rotate_left
 ·obtain rfl := Option.some.inj h
  simp only[push_cast,seval,h1,h2,h3,h5,h13]
  refine e_ret (.inr rfl) ?_
  simp only[push_cast,seval,aret,aresults,aresult,h1,h2,h3,h5,h13]
  refine ⟨_, rfl, ?_⟩
  first | (simp only[push_cast,seval,h1,h2,h3,h5,h13] <;> rfl) | rfl
 obtain ⟨h14, h⟩ := F_ck h
 try simp only[push_cast,seval] at h14
 obtain ⟨h15, h⟩ := F_gd h
 try simp only[push_cast,seval] at h15
 obtain ⟨h16, h⟩ := F_gd h
 try simp only[push_cast,seval] at h16
 obtain ⟨x7, h17, h18, h⟩ := F_get h
 have h19 := get_lt h17 h18
 have h20 := map_getG (rI .u32) h18
 try simp only[push_cast,seval] at h20 h17 h19
 obtain ⟨h21, h⟩ := F_ck h
 try simp only[push_cast,seval] at h21
 obtain ⟨h22, h⟩ := F_ck h
 try simp only[push_cast,seval] at h22
 obtain ⟨h23, h⟩ := F_gd h
 try simp only[push_cast,seval] at h23
 obtain ⟨h24, h⟩ := F_gd h
 try simp only[push_cast,seval] at h24
 obtain ⟨h25, h⟩ := F_gd h
 obtain ⟨h26, h⟩ := F_gd h
 have h27 := arr_get (rI .u8) a6 (i := a5.toNat) (by omega)
 try simp only[push_cast,seval] at h27
 obtain ⟨h28, h⟩ := F_ck h
 try simp (disch:=first|assumption|(simp;done)|omega|(simp;omega)) only[push_cast,seval] at h28
 simp (disch:=first|assumption|(simp;done)|omega|(simp;omega)) only[push_cast,seval,h1,h2,h3,h5,h13,h14,h15,h16,h17,h20,h19,h21,h22,h23,h24,h25,h26,h27,h28]
 refine lpK_of m5 [1, 2, 6, 40] [0, 1, 2] (by omega) (by decide) ⟨(a5 + 1), (a6.set a5.toNat (IntKind.wrap .u8 ((x7 / 2 ^ (24 - (8 * (Int.tmod a5 4))).toNat)))), (by first | exact h | simpa only [*] using h), ?_⟩
 rw [wk_mk]
 simp (disch:=first|assumption|(simp;done)|omega|(simp;omega)) only[push_cast,seval,h1,h2,h3,h5,h13,h14,h15,h16,h17,h20,h19,h21,h22,h23,h24,h25,h26,h27,h28] <;> rfl

def f65g0 : List RO := [o_ 4 (.newR ((Arr.zero 16).l.map (aI .u8)))]
def f65g1 : List RO := [o_ 9 (.call (.func 116) []), o_ 10 (.mv (t_ 0)), o_ 11 (.cvI .u8 (t_ 10)), o_ 12 (.bslice 1 [(t_ 11)]), o_ 13 (.cvS (t_ 12)), o_ 14 (.call (.func 117) [(t_ 9), (t_ 13)]), o_ 5 (.newR (((Arr.zero 8).l.map (aI .u32)) ++ (((Arr.zero 64).l.map (aI .u8)) ++ [(.D (.I .u64 0))]))), n_ (.store 73 (t_ 5) (t_ 14))]
def f65g2 : List RO := [o_ 15 (.mv (t_ 1)), o_ 16 (.len .false (t_ 15)), o_ 17 (.mv (.const (.int .i64 0)))]
def f65g3 : List RO := [o_ 18 (.bin .lss (t_ 17) (t_ 16))]
def f65g4 : List RO := [o_ 19 (.iaddr 1 (t_ 15) (t_ 17)), o_ 20 (.load .none (t_ 19)), o_ 7 (.mv (t_ 20))]
def f65g5 : List RO := [o_ 21 (.load (.some 73) (t_ 5)), o_ 22 (.mv (t_ 7)), o_ 23 (.call (.func 118) [(t_ 22)]), o_ 24 (.cvS (t_ 23)), o_ 25 (.call (.func 117) [(t_ 21), (t_ 24)]), n_ (.store 73 (t_ 5) (t_ 25))]
def f65g6 : List RO := [o_ 26 (.bin .add (t_ 17) (.const (.int .i64 1))), o_ 17 (.mv (t_ 26))]
def f65b7 : RCode := (.seq (.reg .false f65g3) (.seq (.cond (t_ 18) .skip (.exit 0)) (.seq (.block 1 (.seq (.reg .false f65g4) (.reg .true f65g5))) (.reg .false f65g6))))
def f65g8 : List RO := [o_ 27 (.load (.some 73) (t_ 5)), o_ 28 (.call (.func 119) [(t_ 27)]), o_ 8 (.newR ((Arr.zero 32).l.map (aI .u8))), n_ (.store 32 (t_ 8) (t_ 28))]
def f65g9 : List RO := [o_ 29 (.slsA 32 (t_ 8) .none (.some (.const (.int .i64 16)))), o_ 30 (.arrP 16 (t_ 29)), o_ 31 (.load (.some 16) (t_ 30)), n_ (.store 16 (t_ 4) (t_ 31))]
def f65c : RCode := (.seq (.reg .false f65g0) (.seq (.reg .true f65g1) (.seq (.seq (.reg .false f65g2) (.block 0 (.loop f65b7))) (.seq (.reg .false f65g8) (.seq (.reg .false f65g9) .ret)))))
def f65r : List RRes := [(.cell (.some 16) 4)]
attribute [push_cast] f65g0 f65g1 f65g2 f65g3 f65g4 f65g5 f65g6 f65g8 f65g9
def L_hash_Of_0 (N : Nat) (p1 : (List Str)) : Nat → Int → (Arr 8) → (Arr 64) → Int → Option (Arr 16)
  | 0, _, _, _, _ => none
  | m1+1, a3, a4, a5, a6 => if? (decide (a3 < (p1.length : Int))) (get? p1 (a3) fun x7 => bd? (F_wire_Bytes N x7) fun v8 => bd? (F_hash_Stream_Add N (HashStream.mk a4 a5 a6) (bytesI v8)) fun v9 => ck .i64 (a3 + 1) (L_hash_Of_0 N p1 m1 (a3 + 1) v9.state v9.block v9.n)) (bd? (F_hash_Stream_Sum N (HashStream.mk a4 a5 a6)) fun v10 => some ((v10.part 0 16)))
def I_hash_Of_0 (N : Nat) (p1 : (List Str)) (r : (Arr 16)) (n : Nat) (s : AState) : Prop := ∃ (a3 : Int) (a4 : (Arr 8)) (a5 : (Arr 64)) (a6 : Int), L_hash_Of_0 N p1 n a3 a4 a5 a6 = some r ∧ s = ⟨envL [(4, .eptr (.O 0) 1 0 0), (5, .eptr (.O 1) 1 0 0), (15, .D (.L (p1.map rS))), (16, .D (.I .i64 (p1.length : Int))), (17, .D (.I .i64 a3))], ownL [], ownL [some (.row true 1 ((Arr.zero 16).l.map (rI .u8))), some (.row true 1 ((a4.l.map (rI .u32)) ++ ((a5.l.map (rI .u8)) ++ ([[.I .u64 a6]]))))], 2⟩
def F_hash_Of (N : Nat) (p0 : Int) (p1 : (List Str)) : Option (Arr 16) := bd? (F_hash_Begin N ) fun v1 => bd? (F_hash_Stream_Add N v1 (bytesI [(IntKind.wrap .u8 (p0))])) fun v2 => L_hash_Of_0 N p1 N 0 v2.state v2.block v2.n
theorem c_hash_Of (N : Nat) (p0 : Int) (p1 : (List Str)) (r : (Arr 16)) (h : F_hash_Of N p0 p1 = some r) : ACall Tryd.prog 65 [.D (.I .i64 p0), .D (.L (p1.map rS))] [] (.agg (r.l.map (aI .u8))) [] [] := by
 refine ACall.of_bodyW [] (fn := Tryd.f65) (rc := f65c) (rs := f65r) Tryd.func65 rfl rfl (by kernel_rfl) (by kernel_rfl) (by kernel_rfl) (by rw [Tryd.ntmps65]; simp) ?_
 unfold F_hash_Of at h
 unfold f65c f65r
 rw [entry_eq _ _]
 obtain ⟨v1, h1, h⟩ := F_bd h
 simp only[push_cast,seval]
 refine call_flat (by rfl) (c_hash_Begin N _ h1) ?_ (by simp [AV.flat, AV.flatL, flatL_aI, flatL_app, DV.flat]) ?_
 ·simp only[push_cast,seval] <;> rfl
 obtain ⟨v2, h2, h⟩ := F_bd h
 simp only[push_cast,seval]
 refine call_flat (by rfl) (c_hash_Stream_Add N _ _ _ h2) ?_ (by simp [AV.flat, AV.flatL, flatL_aI, flatL_app, DV.flat]) ?_
 ·simp only[push_cast,seval] <;> rfl
 simp only[push_cast,seval]
 refine loop_of (I_hash_Of_0 N p1 _) N [4, 5, 15, 16, 17] [0, 2] (by decide) ⟨0, v2.state, v2.block, v2.n, h, ?_⟩ ?_
 ·rw [wk_mk]
  simp only[push_cast,seval] <;> rfl
 rintro n s ⟨a3, a4, a5, a6, h, rfl⟩
 rcases n with _ | m1
 ·exact absurd h (by simp [L_hash_Of_0])
 rw [L_hash_Of_0] at h
 unfold f65b7
 rcases F_if h with ⟨h3, h⟩ | ⟨h3, h⟩
 rotate_left
 ·obtain ⟨v10, h4, h⟩ := F_bd h
  simp only[push_cast,seval,h3]
  refine call_flat (by rfl) (c_hash_Stream_Sum N _ _ h4) ?_ (by simp [AV.flat, AV.flatL, flatL_aI, flatL_app, DV.flat]) ?_
  ·simp only[push_cast,seval,h3] <;> rfl
  obtain rfl := Option.some.inj h
  simp only[push_cast,seval,h3]
  refine e_ret (.inr rfl) ?_
  simp only[push_cast,seval,aret,aresults,aresult,h3]
  refine ⟨_, rfl, ?_⟩
  first | (simp only[push_cast,seval,h3] <;> rfl) | rfl
 obtain ⟨x7, h5, h6, h⟩ := F_get h
 have h7 := get_lt h5 h6
 have h8 := map_get rS h6
 try simp only[push_cast,seval] at h8
 obtain ⟨v8, h9, h⟩ := F_bd h
 simp only[push_cast,seval,h3,h5,h8,h7]
 refine call_new (by rfl) (c_wire_Bytes N _ _ h9) ?_ rfl ?_
 ·simp only[push_cast,seval,h3,h5,h8,h7] <;> rfl
 obtain ⟨v9, h10, h⟩ := F_bd h
 simp only[push_cast,seval,h3,h5,h8,h7]
 refine call_flat (by rfl) (c_hash_Stream_Add N _ _ _ h10) ?_ (by simp [AV.flat, AV.flatL, flatL_aI, flatL_app, DV.flat]) ?_
 ·simp only[push_cast,seval,h3,h5,h8,h7] <;> rfl
 obtain ⟨h11, h⟩ := F_ck h
 try simp only[push_cast,seval] at h11
 simp only[push_cast,seval,h3,h5,h8,h7,h11]
 refine lpK_of m1 [4, 5, 15, 16, 17] [0, 1] (by omega) (by decide) ⟨(a3 + 1), v9.state, v9.block, v9.n, (by first | exact h | simpa only [*] using h), ?_⟩
 rw [wk_mk]
 simp only[push_cast,seval,h3,h5,h8,h7,h11] <;> rfl

def f17g0 : List RO := [o_ 2 (.newR ((Arr.zero 16).l.map (aI .u8)))]
def f17g1 : List RO := [o_ 3 (.mv (t_ 0)), o_ 4 (.bslice 1 [(t_ 3)]), o_ 5 (.call (.func 65) [(.const (.int .i64 30)), (t_ 4)]), n_ (.store 16 (t_ 2) (t_ 5))]
def f17c : RCode := (.seq (.reg .false f17g0) (.seq (.reg .false f17g1) .ret))
def f17r : List RRes := [(.cell (.some 16) 2)]
attribute [push_cast] f17g0 f17g1
def F_merkle_Leaf (N : Nat) (p0 : Str) : Option (Arr 16) := bd? (F_hash_Of N 30 [p0]) fun v1 => some (v1)
theorem c_merkle_Leaf (N : Nat) (p0 : Str) (r : (Arr 16)) (h : F_merkle_Leaf N p0 = some r) : ACall Tryd.prog 17 [.D (.S p0)] [] (.agg (r.l.map (aI .u8))) [] [] := by
 refine ACall.of_bodyW [] (fn := Tryd.f17) (rc := f17c) (rs := f17r) Tryd.func17 rfl rfl (by kernel_rfl) (by kernel_rfl) (by kernel_rfl) (by rw [Tryd.ntmps17]; simp) ?_
 unfold F_merkle_Leaf at h
 unfold f17c f17r
 rw [entry_eq _ _]
 obtain ⟨v1, h1, h⟩ := F_bd h
 simp only[push_cast,seval]
 refine call_flat (by rfl) (c_hash_Of N _ _ _ h1) ?_ (by simp [AV.flat, AV.flatL, flatL_aI, flatL_app, DV.flat]) ?_
 ·simp only[push_cast,seval] <;> rfl
 obtain rfl := Option.some.inj h
 simp only[push_cast,seval]
 refine e_ret (.inr rfl) ?_
 simp only[push_cast,seval,aret,aresults,aresult]
 refine ⟨_, rfl, ?_⟩
 first | (simp only[push_cast,seval] <;> rfl) | rfl

def f66g0 : List RO := [o_ 0 (.newR ((Arr.zero 16).l.map (aI .u8)))]
def f66g1 : List RO := [o_ 1 (.call (.func 65) [(.const (.int .i64 32)), (.const (.slice .none 0 0))]), n_ (.store 16 (t_ 0) (t_ 1))]
def f66c : RCode := (.seq (.reg .false f66g0) (.seq (.reg .false f66g1) .ret))
def f66r : List RRes := [(.cell (.some 16) 0)]
attribute [push_cast] f66g0 f66g1
def F_merkle_empty (N : Nat) : Option (Arr 16) := bd? (F_hash_Of N 32 []) fun v1 => some (v1)
theorem c_merkle_empty (N : Nat) (r : (Arr 16)) (h : F_merkle_empty N = some r) : ACall Tryd.prog 66 [] [] (.agg (r.l.map (aI .u8))) [] [] := by
 refine ACall.of_bodyW [] (fn := Tryd.f66) (rc := f66c) (rs := f66r) Tryd.func66 rfl rfl (by kernel_rfl) (by kernel_rfl) (by kernel_rfl) (by rw [Tryd.ntmps66]; simp) ?_
 unfold F_merkle_empty at h
 unfold f66c f66r
 rw [entry_eq _ _]
 obtain ⟨v1, h1, h⟩ := F_bd h
 simp only[push_cast,seval]
 refine call_flat (by rfl) (c_hash_Of N _ _ _ h1) ?_ (by simp [AV.flat, AV.flatL, flatL_aI, flatL_app, DV.flat]) ?_
 ·simp only[push_cast,seval] <;> rfl
 obtain rfl := Option.some.inj h
 simp only[push_cast,seval]
 refine e_ret (.inr rfl) ?_
 simp only[push_cast,seval,aret,aresults,aresult]
 refine ⟨_, rfl, ?_⟩
 first | (simp only[push_cast,seval] <;> rfl) | rfl

def f143g0 : List RO := [o_ 2 (.mv (.const (.int .i64 0)))]
def f143g1 : List RO := [o_ 3 (.mv (t_ 0)), o_ 4 (.bin .geq (t_ 3) (.const (.int .u64 4294967296)))]
def f143g2 : List RO := [o_ 5 (.mv (t_ 0)), o_ 6 (.bin .shr (t_ 5) (.const (.int .u64 32))), o_ 0 (.mv (t_ 6))]
def f143g3 : List RO := [o_ 2 (.mv (.const (.int .i64 32)))]
def f143g4 : List RO := [o_ 7 (.mv (t_ 0)), o_ 8 (.bin .geq (t_ 7) (.const (.int .u64 65536)))]
def f143g5 : List RO := [o_ 9 (.mv (t_ 0)), o_ 10 (.bin .shr (t_ 9) (.const (.int .u64 16))), o_ 0 (.mv (t_ 10))]
def f143g6 : List RO := [o_ 11 (.mv (t_ 2)), o_ 12 (.bin .add (t_ 11) (.const (.int .i64 16))), o_ 2 (.mv (t_ 12))]
def f143g7 : List RO := [o_ 13 (.mv (t_ 0)), o_ 14 (.bin .geq (t_ 13) (.const (.int .u64 256)))]
def f143g8 : List RO := [o_ 15 (.mv (t_ 0)), o_ 16 (.bin .shr (t_ 15) (.const (.int .u64 8))), o_ 0 (.mv (t_ 16))]
def f143g9 : List RO := [o_ 17 (.mv (t_ 2)), o_ 18 (.bin .add (t_ 17) (.const (.int .i64 8))), o_ 2 (.mv (t_ 18))]
def f143g10 : List RO := [o_ 19 (.mv (t_ 2)), o_ 20 (.mv (t_ 0)), o_ 21 (.cvI .u8 (t_ 20)), o_ 22 (.ixs (.const (.string ⟨kstr0.toArray⟩)) (t_ 21)), o_ 23 (.cvI .i64 (t_ 22)), o_ 24 (.bin .add (t_ 19) (t_ 23)), o_ 2 (.mv (t_ 24))]
def f143c : RCode := (.seq (.reg .false f143g0) (.seq (.seq (.reg .false f143g1) (.cond (t_ 4) (.seq (.reg .false f143g2) (.reg .false f143g3)) .skip)) (.seq (.seq (.reg .false f143g4) (.cond (t_ 8) (.seq (.reg .false f143g5) (.reg .false f143g6)) .skip)) (.seq (.seq (.reg .false f143g7) (.cond (t_ 14) (.seq (.reg .false f143g8) (.reg .false f143g9)) .skip)) (.seq (.reg .false f143g10) .ret)))))
def f143r : List RRes := [(.tmp 2)]
attribute [push_cast] f143g0 f143g1 f143g2 f143g3 f143g4 f143g5 f143g6 f143g7 f143g8 f143g9 f143g10
def F_bits_Len64 (N : Nat) (p0 : Int) : Option Int := if? (decide (p0 ≥ 4294967296)) (if? (decide ((p0 / 2 ^ (32 : Int).toNat) ≥ 65536)) (if? (decide (((p0 / 2 ^ (32 : Int).toNat) / 2 ^ (16 : Int).toNat) ≥ 256)) (get? kstr0 ((IntKind.wrap .u8 ((((p0 / 2 ^ (32 : Int).toNat) / 2 ^ (16 : Int).toNat) / 2 ^ (8 : Int).toNat)))) fun b1 => ck .i64 ((b1.toNat : Int)) (ck .i64 (56 + ((b1.toNat : Int))) (some ((56 + ((b1.toNat : Int))))))) (get? kstr0 ((IntKind.wrap .u8 (((p0 / 2 ^ (32 : Int).toNat) / 2 ^ (16 : Int).toNat)))) fun b2 => ck .i64 ((b2.toNat : Int)) (ck .i64 (48 + ((b2.toNat : Int))) (some ((48 + ((b2.toNat : Int)))))))) (if? (decide ((p0 / 2 ^ (32 : Int).toNat) ≥ 256)) (get? kstr0 ((IntKind.wrap .u8 (((p0 / 2 ^ (32 : Int).toNat) / 2 ^ (8 : Int).toNat)))) fun b3 => ck .i64 ((b3.toNat : Int)) (ck .i64 (40 + ((b3.toNat : Int))) (some ((40 + ((b3.toNat : Int))))))) (get? kstr0 ((IntKind.wrap .u8 ((p0 / 2 ^ (32 : Int).toNat)))) fun b4 => ck .i64 ((b4.toNat : Int)) (ck .i64 (32 + ((b4.toNat : Int))) (some ((32 + ((b4.toNat : Int))))))))) (if? (decide (p0 ≥ 65536)) (if? (decide ((p0 / 2 ^ (16 : Int).toNat) ≥ 256)) (get? kstr0 ((IntKind.wrap .u8 (((p0 / 2 ^ (16 : Int).toNat) / 2 ^ (8 : Int).toNat)))) fun b5 => ck .i64 ((b5.toNat : Int)) (ck .i64 (24 + ((b5.toNat : Int))) (some ((24 + ((b5.toNat : Int))))))) (get? kstr0 ((IntKind.wrap .u8 ((p0 / 2 ^ (16 : Int).toNat)))) fun b6 => ck .i64 ((b6.toNat : Int)) (ck .i64 (16 + ((b6.toNat : Int))) (some ((16 + ((b6.toNat : Int)))))))) (if? (decide (p0 ≥ 256)) (get? kstr0 ((IntKind.wrap .u8 ((p0 / 2 ^ (8 : Int).toNat)))) fun b7 => ck .i64 ((b7.toNat : Int)) (ck .i64 (8 + ((b7.toNat : Int))) (some ((8 + ((b7.toNat : Int))))))) (get? kstr0 ((IntKind.wrap .u8 (p0))) fun b8 => ck .i64 ((b8.toNat : Int)) (ck .i64 (0 + ((b8.toNat : Int))) (some ((0 + ((b8.toNat : Int)))))))))
theorem c_bits_Len64 (N : Nat) (p0 : Int) (r : Int) (h : F_bits_Len64 N p0 = some r) : ACall Tryd.prog 143 [.D (.I .u64 p0)] [] (.D (.I .i64 r)) [] [] := by
 refine ACall.of_bodyW [] (fn := Tryd.f143) (rc := f143c) (rs := f143r) Tryd.func143 rfl rfl (by kernel_rfl) (by kernel_rfl) (by kernel_rfl) (by rw [Tryd.ntmps143]; simp) ?_
 unfold F_bits_Len64 at h
 unfold f143c f143r
 rw [entry_eq _ _]
 rcases F_if h with ⟨h1, h⟩ | ⟨h1, h⟩
 rotate_left
 ·rcases F_if h with ⟨h2, h⟩ | ⟨h2, h⟩
  rotate_left
  ·rcases F_if h with ⟨h3, h⟩ | ⟨h3, h⟩
   ·obtain ⟨b7, h4, h5, h⟩ := F_get h
    have h6 := get_lt h4 h5
    try simp only[push_cast,seval] at h5 h4 h6
    obtain ⟨h7, h⟩ := F_ck h
    try simp only[push_cast,seval] at h7
    obtain ⟨h8, h⟩ := F_ck h
    try simp only[push_cast,seval] at h8
    obtain rfl := Option.some.inj h
    simp only[push_cast,seval,h1,h2,h3,h4,h5,h6,h7,h8]
    refine e_ret (.inr rfl) ?_
    simp only[push_cast,seval,aret,aresults,aresult,h1,h2,h3,h4,h5,h6,h7,h8]
    refine ⟨_, rfl, ?_⟩
    first | (simp only[push_cast,seval,h1,h2,h3,h4,h5,h6,h7,h8] <;> rfl) | rfl
   obtain ⟨b8, h9, h10, h⟩ := F_get h
   have h11 := get_lt h9 h10
   try simp only[push_cast,seval] at h10 h9 h11
   obtain ⟨h12, h⟩ := F_ck h
   try simp only[push_cast,seval] at h12
   obtain ⟨h13, h⟩ := F_ck h
   try simp only[push_cast,seval] at h13
   obtain rfl := Option.some.inj h
   simp only[push_cast,seval,h1,h2,h3,h9,h10,h11,h12,h13]
   refine e_ret (.inr rfl) ?_
   simp only[push_cast,seval,aret,aresults,aresult,h1,h2,h3,h9,h10,h11,h12,h13]
   refine ⟨_, rfl, ?_⟩
   first | (simp only[push_cast,seval,h1,h2,h3,h9,h10,h11,h12,h13] <;> rfl) | rfl
  rcases F_if h with ⟨h14, h⟩ | ⟨h14, h⟩
  ·try simp only[push_cast,seval] at h14
   obtain ⟨b5, h15, h16, h⟩ := F_get h
   have h17 := get_lt h15 h16
   try simp only[push_cast,seval] at h16 h15 h17
   obtain ⟨h18, h⟩ := F_ck h
   try simp only[push_cast,seval] at h18
   obtain ⟨h19, h⟩ := F_ck h
   try simp only[push_cast,seval] at h19
   obtain rfl := Option.some.inj h
   simp only[push_cast,seval,h1,h2,h14,h15,h16,h17,h18,h19]
   refine e_ret (.inr rfl) ?_
   simp only[push_cast,seval,aret,aresults,aresult,h1,h2,h14,h15,h16,h17,h18,h19]
   refine ⟨_, rfl, ?_⟩
   first | (simp only[push_cast,seval,h1,h2,h14,h15,h16,h17,h18,h19] <;> rfl) | rfl
  try simp only[push_cast,seval] at h14
  obtain ⟨b6, h20, h21, h⟩ := F_get h
  have h22 := get_lt h20 h21
  try simp only[push_cast,seval] at h21 h20 h22
  obtain ⟨h23, h⟩ := F_ck h
  try simp only[push_cast,seval] at h23
  obtain ⟨h24, h⟩ := F_ck h
  try simp only[push_cast,seval] at h24
  obtain rfl := Option.some.inj h
  simp only[push_cast,seval,h1,h2,h14,h20,h21,h22,h23,h24]
  refine e_ret (.inr rfl) ?_
  simp only[push_cast,seval,aret,aresults,aresult,h1,h2,h14,h20,h21,h22,h23,h24]
  refine ⟨_, rfl, ?_⟩
  first | (simp only[push_cast,seval,h1,h2,h14,h20,h21,h22,h23,h24] <;> rfl) | rfl
 rcases F_if h with ⟨h25, h⟩ | ⟨h25, h⟩
 ·try simp only[push_cast,seval] at h25
  rcases F_if h with ⟨h26, h⟩ | ⟨h26, h⟩
  ·try simp only[push_cast,seval] at h26
   obtain ⟨b1, h27, h28, h⟩ := F_get h
   have h29 := get_lt h27 h28
   try simp only[push_cast,seval] at h28 h27 h29
   obtain ⟨h30, h⟩ := F_ck h
   try simp only[push_cast,seval] at h30
   obtain ⟨h31, h⟩ := F_ck h
   try simp only[push_cast,seval] at h31
   obtain rfl := Option.some.inj h
   simp only[push_cast,seval,h1,h25,h26,h27,h28,h29,h30,h31]
   refine e_ret (.inr rfl) ?_
   simp only[push_cast,seval,aret,aresults,aresult,h1,h25,h26,h27,h28,h29,h30,h31]
   refine ⟨_, rfl, ?_⟩
   first | (simp only[push_cast,seval,h1,h25,h26,h27,h28,h29,h30,h31] <;> rfl) | rfl
  try simp only[push_cast,seval] at h26
  obtain ⟨b2, h32, h33, h⟩ := F_get h
  have h34 := get_lt h32 h33
  try simp only[push_cast,seval] at h33 h32 h34
  obtain ⟨h35, h⟩ := F_ck h
  try simp only[push_cast,seval] at h35
  obtain ⟨h36, h⟩ := F_ck h
  try simp only[push_cast,seval] at h36
  obtain rfl := Option.some.inj h
  simp only[push_cast,seval,h1,h25,h26,h32,h33,h34,h35,h36]
  refine e_ret (.inr rfl) ?_
  simp only[push_cast,seval,aret,aresults,aresult,h1,h25,h26,h32,h33,h34,h35,h36]
  refine ⟨_, rfl, ?_⟩
  first | (simp only[push_cast,seval,h1,h25,h26,h32,h33,h34,h35,h36] <;> rfl) | rfl
 try simp only[push_cast,seval] at h25
 rcases F_if h with ⟨h37, h⟩ | ⟨h37, h⟩
 ·try simp only[push_cast,seval] at h37
  obtain ⟨b3, h38, h39, h⟩ := F_get h
  have h40 := get_lt h38 h39
  try simp only[push_cast,seval] at h39 h38 h40
  obtain ⟨h41, h⟩ := F_ck h
  try simp only[push_cast,seval] at h41
  obtain ⟨h42, h⟩ := F_ck h
  try simp only[push_cast,seval] at h42
  obtain rfl := Option.some.inj h
  simp only[push_cast,seval,h1,h25,h37,h38,h39,h40,h41,h42]
  refine e_ret (.inr rfl) ?_
  simp only[push_cast,seval,aret,aresults,aresult,h1,h25,h37,h38,h39,h40,h41,h42]
  refine ⟨_, rfl, ?_⟩
  first | (simp only[push_cast,seval,h1,h25,h37,h38,h39,h40,h41,h42] <;> rfl) | rfl
 try simp only[push_cast,seval] at h37
 obtain ⟨b4, h43, h44, h⟩ := F_get h
 have h45 := get_lt h43 h44
 try simp only[push_cast,seval] at h44 h43 h45
 obtain ⟨h46, h⟩ := F_ck h
 try simp only[push_cast,seval] at h46
 obtain ⟨h47, h⟩ := F_ck h
 try simp only[push_cast,seval] at h47
 obtain rfl := Option.some.inj h
 simp only[push_cast,seval,h1,h25,h37,h43,h44,h45,h46,h47]
 refine e_ret (.inr rfl) ?_
 simp only[push_cast,seval,aret,aresults,aresult,h1,h25,h37,h43,h44,h45,h46,h47]
 refine ⟨_, rfl, ?_⟩
 first | (simp only[push_cast,seval,h1,h25,h37,h43,h44,h45,h46,h47] <;> rfl) | rfl

def f114g0 : List RO := [o_ 2 (.mv (.const (.int .i64 0)))]
def f114g1 : List RO := [o_ 3 (.mv (t_ 0)), o_ 4 (.cvI .u32 (t_ 3)), o_ 5 (.call (.func 142) [(t_ 4)]), o_ 2 (.mv (t_ 5))]
def f114g2 : List RO := [o_ 6 (.mv (t_ 0)), o_ 7 (.call (.func 143) [(t_ 6)]), o_ 2 (.mv (t_ 7))]
def f114c : RCode := (.seq (.reg .false f114g0) (.seq (.cond (.const (.bool .false)) (.seq (.reg .false f114g1) .ret) .skip) (.seq (.reg .false f114g2) .ret)))
def f114r : List RRes := [(.tmp 2)]
attribute [push_cast] f114g0 f114g1 f114g2
def F_bits_Len (N : Nat) (p0 : Int) : Option Int := bd? (F_bits_Len64 N p0) fun v1 => some (v1)
theorem c_bits_Len (N : Nat) (p0 : Int) (r : Int) (h : F_bits_Len N p0 = some r) : ACall Tryd.prog 114 [.D (.I .u64 p0)] [] (.D (.I .i64 r)) [] [] := by
 refine ACall.of_bodyW [] (fn := Tryd.f114) (rc := f114c) (rs := f114r) Tryd.func114 rfl rfl (by kernel_rfl) (by kernel_rfl) (by kernel_rfl) (by rw [Tryd.ntmps114]; simp) ?_
 unfold F_bits_Len at h
 unfold f114c f114r
 rw [entry_eq _ _]
 obtain ⟨v1, h1, h⟩ := F_bd h
 simp only[push_cast,seval]
 refine call_flat (by rfl) (c_bits_Len64 N _ _ h1) ?_ rfl ?_
 ·simp only[push_cast,seval] <;> rfl
 obtain rfl := Option.some.inj h
 simp only[push_cast,seval]
 refine e_ret (.inr rfl) ?_
 simp only[push_cast,seval,aret,aresults,aresult]
 refine ⟨_, rfl, ?_⟩
 first | (simp only[push_cast,seval] <;> rfl) | rfl

def f61g0 : List RO := [o_ 2 (.mv (.const (.int .i64 0)))]
def f61g1 : List RO := [o_ 3 (.mv (t_ 0)), o_ 4 (.bin .sub (t_ 3) (.const (.int .i64 1))), o_ 5 (.cvI .u64 (t_ 4)), o_ 6 (.call (.func 114) [(t_ 5)]), o_ 7 (.bin .sub (t_ 6) (.const (.int .i64 1))), o_ 8 (.bin .shl (.const (.int .i64 1)) (t_ 7)), o_ 2 (.mv (t_ 8))]
def f61c : RCode := (.seq (.reg .false f61g0) (.seq (.reg .false f61g1) .ret))
def f61r : List RRes := [(.tmp 2)]
attribute [push_cast] f61g0 f61g1
def F_merkle_split (N : Nat) (p0 : Int) : Option Int := ck .i64 (p0 - 1) (bd? (F_bits_Len N (IntKind.wrap .u64 ((p0 - 1)))) fun v1 => ck .i64 (v1 - 1) (gd? (0 ≤ (v1 - 1)) (gd? ((v1 - 1) ≤ (IntKind.bits .i64 : Int)) (ck .i64 (1 * 2 ^ (v1 - 1).toNat) (some ((1 * 2 ^ (v1 - 1).toNat)))))))
theorem c_merkle_split (N : Nat) (p0 : Int) (r : Int) (h : F_merkle_split N p0 = some r) : ACall Tryd.prog 61 [.D (.I .i64 p0)] [] (.D (.I .i64 r)) [] [] := by
 refine ACall.of_bodyW [] (fn := Tryd.f61) (rc := f61c) (rs := f61r) Tryd.func61 rfl rfl (by kernel_rfl) (by kernel_rfl) (by kernel_rfl) (by rw [Tryd.ntmps61]; simp) ?_
 unfold F_merkle_split at h
 unfold f61c f61r
 rw [entry_eq _ _]
 obtain ⟨h1, h⟩ := F_ck h
 try simp only[push_cast,seval] at h1
 obtain ⟨v1, h2, h⟩ := F_bd h
 simp only[push_cast,seval,h1]
 refine call_flat (by rfl) (c_bits_Len N _ _ h2) ?_ rfl ?_
 ·simp only[push_cast,seval,h1] <;> rfl
 obtain ⟨h3, h⟩ := F_ck h
 try simp only[push_cast,seval] at h3
 obtain ⟨h4, h⟩ := F_gd h
 try simp only[push_cast,seval] at h4
 obtain ⟨h5, h⟩ := F_gd h
 try simp only[push_cast,seval] at h5
 obtain ⟨h6, h⟩ := F_ck h
 try simp only[push_cast,seval] at h6
 obtain rfl := Option.some.inj h
 simp only[push_cast,seval,h1,h3,h4,h5,h6]
 refine e_ret (.inr rfl) ?_
 simp only[push_cast,seval,aret,aresults,aresult,h1,h3,h4,h5,h6]
 refine ⟨_, rfl, ?_⟩
 first | (simp only[push_cast,seval,h1,h3,h4,h5,h6] <;> rfl) | rfl

def f22g0 : List RO := [o_ 2 (.boxR (t_ 0)), o_ 3 (.boxR (t_ 1)), o_ 4 (.newR ((Arr.zero 16).l.map (aI .u8)))]
def f22g1 : List RO := [o_ 5 (.slsA 16 (t_ 2) .none .none), o_ 6 (.cvS (t_ 5)), o_ 7 (.slsA 16 (t_ 3) .none .none), o_ 8 (.cvS (t_ 7)), o_ 9 (.bslice 1 [(t_ 6), (t_ 8)]), o_ 10 (.call (.func 65) [(.const (.int .i64 31)), (t_ 9)]), n_ (.store 16 (t_ 4) (t_ 10))]
def f22c : RCode := (.seq (.reg .false f22g0) (.seq (.regS f22g1) .ret))
def f22r : List RRes := [(.cell (.some 16) 4)]
attribute [push_cast] f22g0 f22g1
def F_merkle_Node (N : Nat) (p0 : (Arr 16)) (p1 : (Arr 16)) : Option (Arr 16) := bd? (F_hash_Of N 31 [(bytesI p0.l), (bytesI p1.l)]) fun v1 => some (v1)
theorem c_merkle_Node (N : Nat) (p0 : (Arr 16)) (p1 : (Arr 16)) (r : (Arr 16)) (h : F_merkle_Node N p0 p1 = some r) : ACall Tryd.prog 22 [.agg (p0.l.map (aI .u8)), .agg (p1.l.map (aI .u8))] [] (.agg (r.l.map (aI .u8))) [] [] := by
 refine ACall.of_bodyW [] (fn := Tryd.f22) (rc := f22c) (rs := f22r) Tryd.func22 rfl rfl (by kernel_rfl) (by kernel_rfl) (by kernel_rfl) (by rw [Tryd.ntmps22]; simp) ?_
 unfold F_merkle_Node at h
 unfold f22c f22r
 rw [entry_eq _ _]
 simp only[push_cast,seval]
 refine regS_of false [.O 0, .O 1] (by rfl) ?_
 obtain ⟨v1, h1, h⟩ := F_bd h
 simp only[push_cast,seval]
 refine call_flat (by rfl) (c_hash_Of N _ _ _ h1) ?_ (by simp [AV.flat, AV.flatL, flatL_aI, flatL_app, DV.flat]) ?_
 ·simp only[push_cast,seval] <;> rfl
 obtain rfl := Option.some.inj h
 simp only[push_cast,seval]
 refine e_ret (.inr rfl) ?_
 simp only[push_cast,seval,aret,aresults,aresult]
 refine ⟨_, rfl, ?_⟩
 first | (simp only[push_cast,seval] <;> rfl) | rfl

def f18g0 : List RO := [o_ 2 (.newR ((Arr.zero 16).l.map (aI .u8)))]
def f18g1 : List RO := [o_ 5 (.mv (t_ 0)), o_ 6 (.len .false (t_ 5)), o_ 3 (.mv (t_ 6))]
def f18g2 : List RO := [o_ 7 (.mv (t_ 3))]
def f18g3 : List RO := [o_ 23 (.bin .eql (t_ 7) (.const (.int .i64 0))), o_ 22 (.mv (t_ 23))]
def f18g4 : List RO := [o_ 24 (.call (.func 66) []), n_ (.store 16 (t_ 2) (t_ 24))]
def f18g5 : List RO := [o_ 26 (.bin .eql (t_ 7) (.const (.int .i64 1))), o_ 25 (.mv (t_ 26))]
def f18g6 : List RO := [o_ 27 (.mv (t_ 0)), o_ 28 (.iaddr 16 (t_ 27) (.const (.int .i64 0))), o_ 29 (.load (.some 16) (t_ 28)), n_ (.store 16 (t_ 2) (t_ 29))]
def f18g7 : List RO := [o_ 8 (.mv (t_ 3)), o_ 9 (.call (.func 61) [(t_ 8)]), o_ 4 (.mv (t_ 9))]
def f18g8 : List RO := [o_ 10 (.mv (t_ 0)), o_ 11 (.mv (t_ 4)), o_ 12 (.mv (t_ 4)), o_ 13 (.sll 16 (t_ 10) .none (.some (t_ 11)) (.some (t_ 12))), o_ 14 (.call (.func 18) [(t_ 13)]), o_ 15 (.mv (t_ 0)), o_ 16 (.mv (t_ 4)), o_ 17 (.mv (t_ 3)), o_ 18 (.mv (t_ 3)), o_ 19 (.sll 16 (t_ 15) (.some (t_ 16)) (.some (t_ 17)) (.some (t_ 18))), o_ 20 (.call (.func 18) [(t_ 19)]), o_ 21 (.call (.func 22) [(t_ 14), (t_ 20)]), n_ (.store 16 (t_ 2) (t_ 21))]
def f18c : RCode := (.seq (.reg .false f18g0) (.seq (.reg .false f18g1) (.seq (.reg .false f18g2) (.block 0 (.seq (.reg .false f18g3) (.cond (t_ 22) (.seq (.reg .false f18g4) .ret) (.seq (.reg .false f18g5) (.cond (t_ 25) (.seq (.reg .false f18g6) .ret) (.seq (.reg .false f18g7) (.seq (.reg .true f18g8) .ret))))))))))
def f18r : List RRes := [(.cell (.some 16) 2)]
attribute [push_cast] f18g0 f18g1 f18g2 f18g3 f18g4 f18g5 f18g6 f18g7 f18g8
def F_merkle_Root_r (N : Nat) : Nat → (List (Arr 16)) → Option (Arr 16)
  | 0, _ => none
  | dd + 1, p0 => if? (((p0.length : Int) == 0)) (bd? (F_merkle_empty N ) fun v1 => some (v1)) (if? (((p0.length : Int) == 1)) (get? p0 (0) fun x2 => some (x2)) (bd? (F_merkle_split N (p0.length : Int)) fun v3 => gd? (0 ≤ v3) (gd? (v3.toNat ≤ p0.length) (bd? (F_merkle_Root_r N dd (p0.take (v3.toNat - 0))) fun v4 => gd? (0 ≤ (p0.length : Int)) (gd? (v3.toNat ≤ (p0.length : Int).toNat) (gd? ((p0.length : Int).toNat ≤ p0.length) (bd? (F_merkle_Root_r N dd ((p0.drop v3.toNat).take ((p0.length : Int).toNat - v3.toNat))) fun v5 => bd? (F_merkle_Node N v4 v5) fun v6 => some (v6))))))))
def F_merkle_Root (N : Nat) (p0 : (List (Arr 16))) : Option (Arr 16) := F_merkle_Root_r N N p0
theorem c_merkle_Root_r (N dd : Nat) : ∀ (p0 : (List (Arr 16))) (r : (Arr 16)), F_merkle_Root_r N dd p0 = some r → ACall Tryd.prog 18 [.D (.L (p0.map (rA .u8)))] [] (.agg (r.l.map (aI .u8))) [] [] := by
 induction dd with
  | zero => intro p0 r h; exact absurd h (by simp [F_merkle_Root_r])
  | succ dd ih =>
 intro p0 r h
 refine ACall.of_bodyW [] (fn := Tryd.f18) (rc := f18c) (rs := f18r) Tryd.func18 rfl rfl (by kernel_rfl) (by kernel_rfl) (by kernel_rfl) (by rw [Tryd.ntmps18]; simp) ?_
 rw [F_merkle_Root_r] at h
 unfold f18c f18r
 rw [entry_eq _ _]
 rcases F_if h with ⟨h1, h⟩ | ⟨h1, h⟩
 ·obtain ⟨v1, h2, h⟩ := F_bd h
  simp only[push_cast,seval,h1]
  refine call_flat (by rfl) (c_merkle_empty N _ h2) ?_ (by simp [AV.flat, AV.flatL, flatL_aI, flatL_app, DV.flat]) ?_
  ·simp only[push_cast,seval,h1] <;> rfl
  obtain rfl := Option.some.inj h
  simp only[push_cast,seval,h1]
  refine e_ret (.inr rfl) ?_
  simp only[push_cast,seval,aret,aresults,aresult,h1]
  refine ⟨_, rfl, ?_⟩
  first | (simp only[push_cast,seval,h1] <;> rfl) | rfl
 rcases F_if h with ⟨h3, h⟩ | ⟨h3, h⟩
 ·obtain ⟨x2, h4, h5, h⟩ := F_get h
  have h6 := get_lt h4 h5
  have h7 := map_get (rA .u8) h5
  try simp only[push_cast,seval] at h7
  obtain rfl := Option.some.inj h
  simp only[push_cast,seval,h1,h3,h4,h7,h6]
  refine e_ret (.inr rfl) ?_
  simp only[push_cast,seval,aret,aresults,aresult,h1,h3,h4,h7,h6]
  refine ⟨_, rfl, ?_⟩
  first | (simp only[push_cast,seval,h1,h3,h4,h7,h6] <;> rfl) | rfl
 obtain ⟨v3, h8, h⟩ := F_bd h
 simp only[push_cast,seval,h1,h3]
 refine call_flat (by rfl) (c_merkle_split N _ _ h8) ?_ rfl ?_
 ·simp only[push_cast,seval,h1,h3] <;> rfl
 obtain ⟨h9, h⟩ := F_gd h
 obtain ⟨h10, h⟩ := F_gd h
 try simp only[push_cast,seval] at h10
 obtain ⟨v4, h11, h⟩ := F_bd h
 simp only[push_cast,seval,h1,h3,h9,h10]
 refine call_flat (by rfl) (ih _ _ h11) ?_ (by simp [AV.flat, AV.flatL, flatL_aI, flatL_app, DV.flat]) ?_
 ·simp only[push_cast,seval,h1,h3,h9,h10] <;> rfl
 obtain ⟨h12, h⟩ := F_gd h
 obtain ⟨h13, h⟩ := F_gd h
 try simp only[push_cast,seval] at h13
 obtain ⟨h14, h⟩ := F_gd h
 try simp only[push_cast,seval] at h14
 obtain ⟨v5, h15, h⟩ := F_bd h
 simp only[push_cast,seval,h1,h3,h9,h10,h12,h13,h14]
 refine call_flat (by rfl) (ih _ _ h15) ?_ (by simp [AV.flat, AV.flatL, flatL_aI, flatL_app, DV.flat]) ?_
 ·simp only[push_cast,seval,h1,h3,h9,h10,h12,h13,h14] <;> rfl
 obtain ⟨v6, h16, h⟩ := F_bd h
 simp only[push_cast,seval,h1,h3,h9,h10,h12,h13,h14]
 refine call_flat (by rfl) (c_merkle_Node N _ _ _ h16) ?_ (by simp [AV.flat, AV.flatL, flatL_aI, flatL_app, DV.flat]) ?_
 ·simp only[push_cast,seval,h1,h3,h9,h10,h12,h13,h14] <;> rfl
 obtain rfl := Option.some.inj h
 simp only[push_cast,seval,h1,h3,h9,h10,h12,h13,h14]
 refine e_ret (.inr rfl) ?_
 simp only[push_cast,seval,aret,aresults,aresult,h1,h3,h9,h10,h12,h13,h14]
 refine ⟨_, rfl, ?_⟩
 first | (simp only[push_cast,seval,h1,h3,h9,h10,h12,h13,h14] <;> rfl) | rfl
theorem c_merkle_Root (N : Nat) (p0 : (List (Arr 16))) (r : (Arr 16)) (h : F_merkle_Root N p0 = some r) : ACall Tryd.prog 18 [.D (.L (p0.map (rA .u8)))] [] (.agg (r.l.map (aI .u8))) [] [] := c_merkle_Root_r N N p0 r h

def f89g0 : List RO := [o_ 2 (.mv (.const (.slice .none 0 0))), o_ 3 (.newR ((Arr.zero 16).l.map (aI .u8)))]
def f89g1 : List RO := [o_ 7 (.mv (t_ 0)), o_ 8 (.len .false (t_ 7)), o_ 9 (.mks 16 16 [(.I .u8 0), (.I .u8 0), (.I .u8 0), (.I .u8 0), (.I .u8 0), (.I .u8 0), (.I .u8 0), (.I .u8 0), (.I .u8 0), (.I .u8 0), (.I .u8 0), (.I .u8 0), (.I .u8 0), (.I .u8 0), (.I .u8 0), (.I .u8 0)] (t_ 8) (t_ 8)), o_ 4 (.mv (t_ 9))]
def f89g2 : List RO := [o_ 10 (.mv (t_ 0)), o_ 11 (.len .false (t_ 10)), o_ 12 (.mv (.const (.int .i64 0)))]
def f89g3 : List RO := [o_ 13 (.bin .lss (t_ 12) (t_ 11))]
def f89g4 : List RO := [o_ 14 (.mv (t_ 12)), o_ 15 (.iaddr 1 (t_ 10) (t_ 12)), o_ 16 (.load .none (t_ 15)), o_ 5 (.mv (t_ 14)), o_ 6 (.mv (t_ 16))]
def f89g5 : List RO := [o_ 17 (.mv (t_ 4)), o_ 18 (.mv (t_ 5)), o_ 19 (.mv (t_ 6)), o_ 20 (.call (.func 17) [(t_ 19)]), o_ 21 (.iaddr 16 (t_ 17) (t_ 18)), n_ (.store 16 (t_ 21) (t_ 20))]
def f89g6 : List RO := [o_ 22 (.bin .add (t_ 12) (.const (.int .i64 1))), o_ 12 (.mv (t_ 22))]
def f89b7 : RCode := (.seq (.reg .false f89g3) (.seq (.cond (t_ 13) .skip (.exit 0)) (.seq (.block 1 (.seq (.reg .false f89g4) (.reg .false f89g5))) (.reg .false f89g6))))
def f89g8 : List RO := [o_ 23 (.mv (t_ 4)), o_ 24 (.mv (t_ 4)), o_ 25 (.call (.func 18) [(t_ 24)]), o_ 2 (.mv (t_ 23)), n_ (.store 16 (t_ 3) (t_ 25))]
def f89c : RCode := (.seq (.reg .false f89g0) (.seq (.reg .false f89g1) (.seq (.seq (.reg .false f89g2) (.block 0 (.loop f89b7))) (.seq (.reg .false f89g8) .ret))))
def f89r : List RRes := [(.tmp 2), (.cell (.some 16) 3)]
attribute [push_cast] f89g0 f89g1 f89g2 f89g3 f89g4 f89g5 f89g6 f89g8
def L_leaf_tree_0 (N : Nat) (p0 : (List Str)) : Nat → Int → (List (Arr 16)) → Option ((List (Arr 16)) × (Arr 16))
  | 0, _, _ => none
  | m1+1, a1, a2 => if? (decide (a1 < (p0.length : Int))) (get? p0 (a1) fun x3 => bd? (F_merkle_Leaf N x3) fun v4 => get? a2 (a1) fun x5 => ck .i64 (a1 + 1) (L_leaf_tree_0 N p0 m1 (a1 + 1) (a2.set a1.toNat v4))) (bd? (F_merkle_Root N a2) fun v6 => some (a2, v6))
def I_leaf_tree_0 (N : Nat) (p0 : (List Str)) (r : ((List (Arr 16)) × (Arr 16))) (n : Nat) (s : AState) : Prop := ∃ (a1 : Int) (a2 : (List (Arr 16))), L_leaf_tree_0 N p0 n a1 a2 = some r ∧ s = ⟨envL [(3, .eptr (.O 0) 1 0 0), (4, .sl (.O 1) 16 0 a2.length), (10, .D (.L (p0.map rS))), (11, .D (.I .i64 (p0.length : Int))), (12, .D (.I .i64 a1))], ownL [], ownL [some (.row true 1 ((Arr.zero 16).l.map (rI .u8))), some (.row true 16 (a2.map (rA .u8)))], 2⟩
def F_leaf_tree (N : Nat) (p0 : (List Str)) : Option ((List (Arr 16)) × (Arr 16)) := gd? (0 ≤ (p0.length : Int)) (gd? ((p0.length : Int) ≤ 9223372036854775807) (gd? ((16 : Int) * (p0.length : Int) ≤ 281474976710656) (L_leaf_tree_0 N p0 N 0 (List.replicate (p0.length : Int).toNat (Arr.zero 16)))))
theorem c_leaf_tree (N : Nat) (p0 : (List Str)) (r : ((List (Arr 16)) × (Arr 16))) (h : F_leaf_tree N p0 = some r) : ACall Tryd.prog 89 [.D (.L (p0.map rS))] [] (.tup [.sl (.O 0) 16 0 r.1.length, .agg (r.2.l.map (aI .u8))]) [] [.row true 16 (r.1.map (rA .u8))] := by
 refine ACall.of_bodyW [] (fn := Tryd.f89) (rc := f89c) (rs := f89r) Tryd.func89 rfl rfl (by kernel_rfl) (by kernel_rfl) (by kernel_rfl) (by rw [Tryd.ntmps89]; simp) ?_
 unfold F_leaf_tree at h
 unfold f89c f89r
 rw [entry_eq _ _]
 obtain ⟨h1, h⟩ := F_gd h
 obtain ⟨h2, h⟩ := F_gd h
 obtain ⟨h3, h⟩ := F_gd h
 try simp only[push_cast,seval] at h3
 simp only[push_cast,seval,h1,h2,h3]
 refine loop_of (I_leaf_tree_0 N p0 _) N [3, 4, 10, 11, 12] [0, 1] (by decide) ⟨0, (List.replicate (p0.length : Int).toNat (Arr.zero 16)), h, ?_⟩ ?_
 ·rw [wk_mk]
  simp only[push_cast,seval,h1,h2,h3] <;> rfl
 rintro n s ⟨a1, a2, h, rfl⟩
 rcases n with _ | m1
 ·exact absurd h (by simp [L_leaf_tree_0])
 rw [L_leaf_tree_0] at h
 unfold f89b7
 rcases F_if h with ⟨h4, h⟩ | ⟨h4, h⟩
 rotate_left
 ·obtain ⟨v6, h5, h⟩ := F_bd h
  simp only[push_cast,seval,h1,h2,h3,h4]
  refine call_flat (by rfl) (c_merkle_Root N _ _ h5) ?_ (by simp [AV.flat, AV.flatL, flatL_aI, flatL_app, DV.flat]) ?_
  ·simp only[push_cast,seval,h1,h2,h3,h4] <;> rfl
  obtain rfl := Option.some.inj h
  simp only[push_cast,seval,h1,h2,h3,h4]
  refine AEndW.of2 [1] (.inr rfl) (by decide) ?_ rfl ?_
  ·simp only[push_cast,seval,aret,aresults,aresult,h1,h2,h3,h4]
   refine ⟨_, rfl, ?_⟩
   first | (simp only[push_cast,seval,h1,h2,h3,h4] <;> rfl) | rfl
  ·simp only[push_cast,seval,h1,h2,h3,h4] <;> rfl
 obtain ⟨x3, h6, h7, h⟩ := F_get h
 have h8 := get_lt h6 h7
 have h9 := map_get rS h7
 try simp only[push_cast,seval] at h9
 obtain ⟨v4, h10, h⟩ := F_bd h
 simp only[push_cast,seval,h1,h2,h3,h4,h6,h9,h8]
 refine call_flat (by rfl) (c_merkle_Leaf N _ _ h10) ?_ (by simp [AV.flat, AV.flatL, flatL_aI, flatL_app, DV.flat]) ?_
 ·simp only[push_cast,seval,h1,h2,h3,h4,h6,h9,h8] <;> rfl
 obtain ⟨x5, h11, h12, h⟩ := F_get h
 have h13 := get_lt h11 h12
 have h14 := map_get (rA .u8) h12
 try simp only[push_cast,seval] at h14
 obtain ⟨h15, h⟩ := F_ck h
 try simp only[push_cast,seval] at h15
 simp only[push_cast,seval,h1,h2,h3,h4,h6,h9,h8,h11,h14,h13,h15]
 refine lpK_of m1 [3, 4, 10, 11, 12] [0, 1] (by omega) (by decide) ⟨(a1 + 1), (a2.set a1.toNat v4), (by first | exact h | simpa only [*] using h), ?_⟩
 rw [wk_mk]
 simp only[push_cast,seval,h1,h2,h3,h4,h6,h9,h8,h11,h14,h13,h15] <;> rfl

def f90g0 : List RO := [o_ 7 (.boxR (t_ 3)), o_ 8 (.newR ((Arr.zero 16).l.map (aI .u8)))]
def f90g1 : List RO := [o_ 9 (.mv (t_ 0)), o_ 10 (.call (.func 107) [(t_ 9)]), o_ 11 (.cvS (t_ 10)), o_ 12 (.mv (t_ 1)), o_ 13 (.call (.func 107) [(t_ 12)]), o_ 14 (.cvS (t_ 13)), o_ 15 (.mv (t_ 2)), o_ 16 (.call (.func 107) [(t_ 15)]), o_ 17 (.cvS (t_ 16)), o_ 18 (.slsA 16 (t_ 7) .none .none), o_ 19 (.cvS (t_ 18)), o_ 20 (.bslice 1 [(t_ 11), (t_ 14), (t_ 17), (t_ 19)]), o_ 21 (.call (.func 65) [(.const (.int .i64 186)), (t_ 20)]), n_ (.store 16 (t_ 8) (t_ 21))]
def f90c : RCode := (.seq (.reg .false f90g0) (.seq (.regS f90g1) .ret))
def f90r : List RRes := [(.cell (.some 16) 8)]
attribute [push_cast] f90g0 f90g1
def F_leaf_seal (N : Nat) (p0 : Int) (p1 : Int) (p2 : Int) (p3 : (Arr 16)) : Option (Arr 16) := bd? (F_wire_Int N p0) fun v1 => bd? (F_wire_Int N p1) fun v2 => bd? (F_wire_Int N p2) fun v3 => bd? (F_hash_Of N 186 [(bytesI v1), (bytesI v2), (bytesI v3), (bytesI p3.l)]) fun v4 => some (v4)
theorem c_leaf_seal (N : Nat) (p0 : Int) (p1 : Int) (p2 : Int) (p3 : (Arr 16)) (r : (Arr 16)) (h : F_leaf_seal N p0 p1 p2 p3 = some r) : ACall Tryd.prog 90 [.D (.I .i64 p0), .D (.I .i64 p1), .D (.I .i64 p2), .agg (p3.l.map (aI .u8))] [] (.agg (r.l.map (aI .u8))) [] [] := by
 refine ACall.of_bodyW [] (fn := Tryd.f90) (rc := f90c) (rs := f90r) Tryd.func90 rfl rfl (by kernel_rfl) (by kernel_rfl) (by kernel_rfl) (by rw [Tryd.ntmps90]; simp) ?_
 unfold F_leaf_seal at h
 unfold f90c f90r
 rw [entry_eq _ _]
 simp only[push_cast,seval]
 refine regS_of false [.O 0] (by rfl) ?_
 obtain ⟨v1, h1, h⟩ := F_bd h
 simp only[push_cast,seval]
 refine call_new (by rfl) (c_wire_Int N _ _ h1) ?_ rfl ?_
 ·simp only[push_cast,seval] <;> rfl
 obtain ⟨v2, h2, h⟩ := F_bd h
 simp only[push_cast,seval]
 refine call_new (by rfl) (c_wire_Int N _ _ h2) ?_ rfl ?_
 ·simp only[push_cast,seval] <;> rfl
 obtain ⟨v3, h3, h⟩ := F_bd h
 simp only[push_cast,seval]
 refine call_new (by rfl) (c_wire_Int N _ _ h3) ?_ rfl ?_
 ·simp only[push_cast,seval] <;> rfl
 obtain ⟨v4, h4, h⟩ := F_bd h
 simp only[push_cast,seval]
 refine call_flat (by rfl) (c_hash_Of N _ _ _ h4) ?_ (by simp [AV.flat, AV.flatL, flatL_aI, flatL_app, DV.flat]) ?_
 ·simp only[push_cast,seval] <;> rfl
 obtain rfl := Option.some.inj h
 simp only[push_cast,seval]
 refine e_ret (.inr rfl) ?_
 simp only[push_cast,seval,aret,aresults,aresult]
 refine ⟨_, rfl, ?_⟩
 first | (simp only[push_cast,seval] <;> rfl) | rfl

def f38g0 : List RO := [o_ 1 (.box (t_ 0)), o_ 2 (.newR ((Arr.zero 16).l.map (aI .u8))), o_ 3 (.mv (.const (.int .i64 0)))]
def f38g1 : List RO := [o_ 7 (.load (.some 3) (t_ 1)), o_ 8 (.call (.func 37) [(t_ 7)]), o_ 4 (.mv (t_ 8))]
def f38g2 : List RO := [o_ 9 (.mv (t_ 4)), o_ 10 (.bin .neq (t_ 9) (.const (.int .i64 0)))]
def f38g3 : List RO := [o_ 11 (.build ((Arr.zero 16).l.map (aI .u8)) []), o_ 12 (.mv (t_ 4)), n_ (.store 16 (t_ 2) (t_ 11)), o_ 3 (.mv (t_ 12))]
def f38g4 : List RO := [o_ 14 (.faddr 2 (t_ 1)), o_ 15 (.load .none (t_ 14)), o_ 16 (.call (.func 89) [(t_ 15)]), o_ 13 (.mv (t_ 16)), o_ 17 (.ext (t_ 13) 0), o_ 18 (.ext (t_ 13) 1), o_ 6 (.newR ((Arr.zero 16).l.map (aI .u8))), o_ 5 (.mv (t_ 17)), n_ (.store 16 (t_ 6) (t_ 18))]
def f38g5 : List RO := [o_ 19 (.faddr 0 (t_ 1)), o_ 20 (.load .none (t_ 19)), o_ 21 (.faddr 1 (t_ 1)), o_ 22 (.load .none (t_ 21)), o_ 23 (.faddr 2 (t_ 1)), o_ 24 (.load .none (t_ 23)), o_ 25 (.len .false (t_ 24)), o_ 26 (.load (.some 16) (t_ 6)), o_ 27 (.call (.func 90) [(t_ 20), (t_ 22), (t_ 25), (t_ 26)]), n_ (.store 16 (t_ 2) (t_ 27)), o_ 3 (.mv (.const (.int .i64 0)))]
def f38c : RCode := (.seq (.reg .false f38g0) (.seq (.seq (.reg .false f38g1) (.seq (.reg .false f38g2) (.cond (t_ 10) (.seq (.reg .false f38g3) .ret) .skip))) (.seq (.reg .false f38g4) (.seq (.reg .false f38g5) .ret))))
def f38r : List RRes := [(.cell (.some 16) 2), (.tmp 3)]
attribute [push_cast] f38g0 f38g1 f38g2 f38g3 f38g4 f38g5
def F_leaf_Root (N : Nat) (p0 : Folder) : Option ((Arr 16) × Int) := bd? (F_leaf_Check N p0) fun v1 => if? ((v1 != 0)) (some ((Arr.zero 16), v1)) (bd? (F_leaf_tree N p0.Items) fun v2 => bd? (F_leaf_seal N p0.Gauge p0.Year (p0.Items.length : Int) v2.2) fun v3 => some (v3, 0))
theorem c_leaf_Root (N : Nat) (p0 : Folder) (r : ((Arr 16) × Int)) (h : F_leaf_Root N p0 = some r) : ACall Tryd.prog 38 [.agg [.D (.I .i64 p0.Gauge), .D (.I .i64 p0.Year), .D (.L (p0.Items.map rS))]] [] (.tup [.agg (r.1.l.map (aI .u8)), .D (.I .i64 r.2)]) [] [] := by
 refine ACall.of_bodyW [] (fn := Tryd.f38) (rc := f38c) (rs := f38r) Tryd.func38 rfl rfl (by kernel_rfl) (by kernel_rfl) (by kernel_rfl) (by rw [Tryd.ntmps38]; simp) ?_
 unfold F_leaf_Root at h
 unfold f38c f38r
 rw [entry_eq _ _]
 obtain ⟨v1, h1, h⟩ := F_bd h
 simp only[push_cast,seval]
 refine call_flat (by rfl) (c_leaf_Check N _ _ h1) ?_ rfl ?_
 ·simp only[push_cast,seval] <;> rfl
 rcases F_if h with ⟨h2, h⟩ | ⟨h2, h⟩
 ·obtain rfl := Option.some.inj h
  simp only[push_cast,seval,h2]
  refine e_ret (.inr rfl) ?_
  simp only[push_cast,seval,aret,aresults,aresult,h2]
  refine ⟨_, rfl, ?_⟩
  first | (simp only[push_cast,seval,h2] <;> rfl) | rfl
 obtain ⟨v2, h3, h⟩ := F_bd h
 simp only[push_cast,seval,h2]
 refine call_new (by rfl) (c_leaf_tree N _ _ h3) ?_ (by simp [AV.flat, AV.flatL, flatL_aI, flatL_app, DV.flat]) ?_
 ·simp only[push_cast,seval,h2] <;> rfl
 obtain ⟨v3, h4, h⟩ := F_bd h
 simp only[push_cast,seval,h2]
 refine call_flat (by rfl) (c_leaf_seal N _ _ _ _ _ h4) ?_ (by simp [AV.flat, AV.flatL, flatL_aI, flatL_app, DV.flat]) ?_
 ·simp only[push_cast,seval,h2] <;> rfl
 obtain rfl := Option.some.inj h
 simp only[push_cast,seval,h2]
 refine e_ret (.inr rfl) ?_
 simp only[push_cast,seval,aret,aresults,aresult,h2]
 refine ⟨_, rfl, ?_⟩
 first | (simp only[push_cast,seval,h2] <;> rfl) | rfl

def f150g0 : List RO := [o_ 2 (.mv (.const (.bool .false)))]
def f150g1 : List RO := [o_ 3 (.mv (t_ 0)), o_ 4 (.mv (t_ 0)), o_ 5 (.bin .neq (t_ 3) (t_ 4)), o_ 2 (.mv (t_ 5))]
def f150c : RCode := (.seq (.reg .false f150g0) (.seq (.reg .false f150g1) .ret))
def f150r : List RRes := [(.tmp 2)]
attribute [push_cast] f150g0 f150g1
def F_cmp_isNaN_string (N : Nat) (p0 : Str) : Option Bool := some (!((p0 == p0)))
theorem c_cmp_isNaN_string (N : Nat) (p0 : Str) (r : Bool) (h : F_cmp_isNaN_string N p0 = some r) : ACall Tryd.prog 150 [.D (.S p0)] [] (.D (.B r)) [] [] := by
 refine ACall.of_bodyW [] (fn := Tryd.f150) (rc := f150c) (rs := f150r) Tryd.func150 rfl rfl (by kernel_rfl) (by kernel_rfl) (by kernel_rfl) (by rw [Tryd.ntmps150]; simp) ?_
 unfold F_cmp_isNaN_string at h
 unfold f150c f150r
 rw [entry_eq _ _]
 obtain rfl := Option.some.inj h
 simp only[push_cast,seval]
 refine e_ret (.inr rfl) ?_
 simp only[push_cast,seval,aret,aresults,aresult]
 refine ⟨_, rfl, ?_⟩
 first | (simp only[push_cast,seval] <;> rfl) | rfl

def f128g0 : List RO := [o_ 4 (.mv (.const (.bool .false)))]
def f128g1 : List RO := [o_ 5 (.mv (t_ 0)), o_ 6 (.call (.func 150) [(t_ 5)]), o_ 7 (.mv (t_ 6)), ⟨(.some 8), (.mv (t_ 1)), (.some (7, .true))⟩, ⟨(.some 9), (.call (.func 150) [(t_ 8)]), (.some (7, .true))⟩, ⟨(.some 10), (.un .not (t_ 9)), (.some (7, .true))⟩, o_ 11 (.pick (t_ 7) (t_ 10) (.const (.bool .false))), o_ 12 (.mv (t_ 11)), ⟨(.some 13), (.mv (t_ 0)), (.some (12, .false))⟩, ⟨(.some 14), (.mv (t_ 1)), (.some (12, .false))⟩, ⟨(.some 15), (.bin .lss (t_ 13) (t_ 14)), (.some (12, .false))⟩, o_ 16 (.pick (t_ 12) (.const (.bool .true)) (t_ 15)), o_ 4 (.mv (t_ 16))]
def f128c : RCode := (.seq (.reg .false f128g0) (.seq (.reg .false f128g1) .ret))
def f128r : List RRes := [(.tmp 4)]
attribute [push_cast] f128g0 f128g1
def F_cmp_Less_string (N : Nat) (p0 : Str) (p1 : Str) : Option Bool := bd? (F_cmp_isNaN_string N p0) fun v1 => if? (v1) (bd? (F_cmp_isNaN_string N p1) fun v2 => if? (v2) (some (Op.bytesLess p0 p1)) (some (true))) (some (Op.bytesLess p0 p1))
theorem c_cmp_Less_string (N : Nat) (p0 : Str) (p1 : Str) (r : Bool) (h : F_cmp_Less_string N p0 p1 = some r) : ACall Tryd.prog 128 [.D (.S p0), .D (.S p1)] [] (.D (.B r)) [] [] := by
 refine ACall.of_bodyW [] (fn := Tryd.f128) (rc := f128c) (rs := f128r) Tryd.func128 rfl rfl (by kernel_rfl) (by kernel_rfl) (by kernel_rfl) (by rw [Tryd.ntmps128]; simp) ?_
 unfold F_cmp_Less_string at h
 unfold f128c f128r
 rw [entry_eq _ _]
 obtain ⟨v1, h1, h⟩ := F_bd h
 simp only[push_cast,seval]
 refine call_flat (by rfl) (c_cmp_isNaN_string N _ _ h1) ?_ rfl ?_
 ·simp only[push_cast,seval] <;> rfl
 rcases F_if h with ⟨h2, h⟩ | ⟨h2, h⟩
 rotate_left
 ·obtain rfl := Option.some.inj h
  simp only[push_cast,seval,h2]
  refine e_ret (.inr rfl) ?_
  simp only[push_cast,seval,aret,aresults,aresult,h2]
  refine ⟨_, rfl, ?_⟩
  first | (simp only[push_cast,seval,h2] <;> rfl) | rfl
 obtain ⟨v2, h3, h⟩ := F_bd h
 simp only[push_cast,seval,h2]
 refine call_flat (by rfl) (c_cmp_isNaN_string N _ _ h3) ?_ rfl ?_
 ·simp only[push_cast,seval,h2] <;> rfl
 rcases F_if h with ⟨h4, h⟩ | ⟨h4, h⟩
 ·obtain rfl := Option.some.inj h
  simp only[push_cast,seval,h2,h4]
  refine e_ret (.inr rfl) ?_
  simp only[push_cast,seval,aret,aresults,aresult,h2,h4]
  refine ⟨_, rfl, ?_⟩
  first | (simp only[push_cast,seval,h2,h4] <;> rfl) | rfl
 obtain rfl := Option.some.inj h
 simp only[push_cast,seval,h2,h4]
 refine e_ret (.inr rfl) ?_
 simp only[push_cast,seval,aret,aresults,aresult,h2,h4]
 refine ⟨_, rfl, ?_⟩
 first | (simp only[push_cast,seval,h2,h4] <;> rfl) | rfl

def f129g0 : List RO := [o_ 2 (.mv (.const (.bool .false)))]
def f129g1 : List RO := [o_ 3 (.mv (t_ 0)), o_ 4 (.mv (t_ 0)), o_ 5 (.bin .neq (t_ 3) (t_ 4)), o_ 2 (.mv (t_ 5))]
def f129c : RCode := (.seq (.reg .false f129g0) (.seq (.reg .false f129g1) .ret))
def f129r : List RRes := [(.tmp 2)]
attribute [push_cast] f129g0 f129g1
def F_slices_isNaN_string (N : Nat) (p0 : Str) : Option Bool := some (!((p0 == p0)))
theorem c_slices_isNaN_string (N : Nat) (p0 : Str) (r : Bool) (h : F_slices_isNaN_string N p0 = some r) : ACall Tryd.prog 129 [.D (.S p0)] [] (.D (.B r)) [] [] := by
 refine ACall.of_bodyW [] (fn := Tryd.f129) (rc := f129c) (rs := f129r) Tryd.func129 rfl rfl (by kernel_rfl) (by kernel_rfl) (by kernel_rfl) (by rw [Tryd.ntmps129]; simp) ?_
 unfold F_slices_isNaN_string at h
 unfold f129c f129r
 rw [entry_eq _ _]
 obtain rfl := Option.some.inj h
 simp only[push_cast,seval]
 refine e_ret (.inr rfl) ?_
 simp only[push_cast,seval,aret,aresults,aresult]
 refine ⟨_, rfl, ?_⟩
 first | (simp only[push_cast,seval] <;> rfl) | rfl

def f91g0 : List RO := [o_ 4 (.mv (.const (.int .i64 0))), o_ 5 (.mv (.const (.bool .false)))]
def f91g1 : List RO := [o_ 10 (.mv (t_ 0)), o_ 11 (.len .false (t_ 10)), o_ 6 (.mv (t_ 11))]
def f91g2 : List RO := [o_ 12 (.mv (t_ 6)), o_ 7 (.mv (.const (.int .i64 0))), o_ 8 (.mv (t_ 12))]
def f91g3 : List RO := [o_ 13 (.mv (t_ 7)), o_ 14 (.mv (t_ 8)), o_ 15 (.bin .lss (t_ 13) (t_ 14))]
def f91g4 : List RO := [o_ 16 (.mv (t_ 7)), o_ 17 (.mv (t_ 8)), o_ 18 (.bin .add (t_ 16) (t_ 17)), o_ 19 (.cvI .u64 (t_ 18)), o_ 20 (.bin .shr (t_ 19) (.const (.int .u64 1))), o_ 21 (.cvI .i64 (t_ 20)), o_ 9 (.mv (t_ 21))]
def f91g5 : List RO := [o_ 22 (.mv (t_ 0)), o_ 23 (.mv (t_ 9)), o_ 24 (.iaddr 1 (t_ 22) (t_ 23)), o_ 25 (.load .none (t_ 24)), o_ 26 (.mv (t_ 1)), o_ 27 (.call (.func 128) [(t_ 25), (t_ 26)])]
def f91g6 : List RO := [o_ 28 (.mv (t_ 9)), o_ 29 (.bin .add (t_ 28) (.const (.int .i64 1))), o_ 7 (.mv (t_ 29))]
def f91g7 : List RO := [o_ 30 (.mv (t_ 9)), o_ 8 (.mv (t_ 30))]
def f91b8 : RCode := (.seq (.seq (.reg .false f91g3) (.cond (t_ 15) .skip (.exit 0))) (.block 1 (.seq (.reg .false f91g4) (.seq (.reg .false f91g5) (.cond (t_ 27) (.reg .false f91g6) (.reg .false f91g7))))))
def f91g9 : List RO := [o_ 31 (.mv (t_ 7)), o_ 32 (.mv (t_ 7)), o_ 33 (.mv (t_ 6)), o_ 34 (.bin .lss (t_ 32) (t_ 33)), o_ 35 (.mv (t_ 34)), ⟨(.some 36), (.mv (t_ 0)), (.some (35, .true))⟩, ⟨(.some 37), (.mv (t_ 7)), (.some (35, .true))⟩, ⟨(.some 38), (.iaddr 1 (t_ 36) (t_ 37)), (.some (35, .true))⟩, ⟨(.some 39), (.load .none (t_ 38)), (.some (35, .true))⟩, ⟨(.some 40), (.mv (t_ 1)), (.some (35, .true))⟩, ⟨(.some 41), (.bin .eql (t_ 39) (t_ 40)), (.some (35, .true))⟩, ⟨(.some 42), (.mv (t_ 41)), (.some (35, .true))⟩, ⟨(.some 43), (.mv (t_ 0)), (.some (42, .false))⟩, ⟨(.some 44), (.mv (t_ 7)), (.some (42, .false))⟩, ⟨(.some 45), (.iaddr 1 (t_ 43) (t_ 44)), (.some (42, .false))⟩, ⟨(.some 46), (.load .none (t_ 45)), (.some (42, .false))⟩, ⟨(.some 47), (.call (.func 129) [(t_ 46)]), (.some (42, .false))⟩, ⟨(.some 48), (.mv (t_ 47)), (.some (42, .false))⟩, ⟨(.some 49), (.mv (t_ 1)), (.some (48, .true))⟩, ⟨(.some 50), (.call (.func 129) [(t_ 49)]), (.some (48, .true))⟩, ⟨(.some 51), (.pick (t_ 48) (t_ 50) (.const (.bool .false))), (.some (42, .false))⟩, ⟨(.some 52), (.pick (t_ 42) (.const (.bool .true)) (t_ 51)), (.some (35, .true))⟩, o_ 53 (.pick (t_ 35) (t_ 52) (.const (.bool .false))), o_ 4 (.mv (t_ 31)), o_ 5 (.mv (t_ 53))]
def f91c : RCode := (.seq (.reg .false f91g0) (.seq (.reg .false f91g1) (.seq (.reg .false f91g2) (.seq (.block 0 (.loop f91b8)) (.seq (.reg .false f91g9) .ret)))))
def f91r : List RRes := [(.tmp 4), (.tmp 5)]
attribute [push_cast] f91g0 f91g1 f91g2 f91g3 f91g4 f91g5 f91g6 f91g7 f91g9
def L_slices_BinarySearch_string_string_0 (N : Nat) (p0 : (List Str)) (p1 : Str) : Nat → Int → Int → Option (Int × Bool)
  | 0, _, _ => none
  | m1+1, a1, a2 => if? (decide (a1 < a2)) (ck .i64 (a1 + a2) (ck .i64 (((IntKind.wrap .u64 ((a1 + a2))) / 2 ^ (1 : Int).toNat)) (get? p0 ((((IntKind.wrap .u64 ((a1 + a2))) / 2 ^ (1 : Int).toNat))) fun x3 => bd? (F_cmp_Less_string N x3 p1) fun v4 => if? (v4) (ck .i64 ((((IntKind.wrap .u64 ((a1 + a2))) / 2 ^ (1 : Int).toNat)) + 1) (L_slices_BinarySearch_string_string_0 N p0 p1 m1 ((((IntKind.wrap .u64 ((a1 + a2))) / 2 ^ (1 : Int).toNat)) + 1) a2)) (L_slices_BinarySearch_string_string_0 N p0 p1 m1 a1 (((IntKind.wrap .u64 ((a1 + a2))) / 2 ^ (1 : Int).toNat)))))) (if? (decide (a1 < (p0.length : Int))) (get? p0 (a1) fun x5 => if? ((x5 == p1)) (some (a1, true)) (bd? (F_slices_isNaN_string N x5) fun v6 => if? (v6) (bd? (F_slices_isNaN_string N p1) fun v7 => some (a1, v7)) (some (a1, false)))) (some (a1, false)))
def I_slices_BinarySearch_string_string_0 (N : Nat) (p0 : (List Str)) (p1 : Str) (r : (Int × Bool)) (n : Nat) (s : AState) : Prop := ∃ (a1 : Int) (a2 : Int), L_slices_BinarySearch_string_string_0 N p0 p1 n a1 a2 = some r ∧ s = ⟨envL [(0, .D (.L (p0.map rS))), (1, .D (.S p1)), (6, .D (.I .i64 (p0.length : Int))), (7, .D (.I .i64 a1)), (8, .D (.I .i64 a2))], ownL [], ownL [], 0⟩
def F_slices_BinarySearch_string_string (N : Nat) (p0 : (List Str)) (p1 : Str) : Option (Int × Bool) := L_slices_BinarySearch_string_string_0 N p0 p1 N 0 (p0.length : Int)
theorem c_slices_BinarySearch_string_string (N : Nat) (p0 : (List Str)) (p1 : Str) (r : (Int × Bool)) (h : F_slices_BinarySearch_string_string N p0 p1 = some r) : ACall Tryd.prog 91 [.D (.L (p0.map rS)), .D (.S p1)] [] (.tup [.D (.I .i64 r.1), .D (.B r.2)]) [] [] := by
 refine ACall.of_bodyW [] (fn := Tryd.f91) (rc := f91c) (rs := f91r) Tryd.func91 rfl rfl (by kernel_rfl) (by kernel_rfl) (by kernel_rfl) (by rw [Tryd.ntmps91]; simp) ?_
 unfold F_slices_BinarySearch_string_string at h
 unfold f91c f91r
 rw [entry_eq _ _]
 simp only[push_cast,seval]
 refine loop_of (I_slices_BinarySearch_string_string_0 N p0 p1 _) N [0, 1, 6, 7, 8] [] (by decide) ⟨0, (p0.length : Int), h, ?_⟩ ?_
 ·rw [wk_mk]
  simp only[push_cast,seval] <;> rfl
 rintro n s ⟨a1, a2, h, rfl⟩
 rcases n with _ | m1
 ·exact absurd h (by simp [L_slices_BinarySearch_string_string_0])
 rw [L_slices_BinarySearch_string_string_0] at h
 unfold f91b8
 rcases F_if h with ⟨h1, h⟩ | ⟨h1, h⟩
 ·obtain ⟨h2, h⟩ := F_ck h
  try simp only[push_cast,seval] at h2
  obtain ⟨h3, h⟩ := F_ck h
  try simp only[push_cast,seval] at h3
  obtain ⟨x3, h4, h5, h⟩ := F_get h
  have h6 := get_lt h4 h5
  have h7 := map_get rS h5
  try simp only[push_cast,seval] at h7 h4 h6
  obtain ⟨v4, h8, h⟩ := F_bd h
  simp only[push_cast,seval,h1,h2,h3,h4,h7,h6]
  refine call_flat (by rfl) (c_cmp_Less_string N _ _ _ h8) ?_ rfl ?_
  ·simp only[push_cast,seval,h1,h2,h3,h4,h7,h6] <;> rfl
  rcases F_if h with ⟨h9, h⟩ | ⟨h9, h⟩
  rotate_left
  ·simp only[push_cast,seval,h1,h2,h3,h4,h7,h6,h9]
   refine lpK_of m1 [0, 1, 6, 7, 8] [] (by omega) (by decide) ⟨a1, (((IntKind.wrap .u64 ((a1 + a2))) / 2 ^ (1 : Int).toNat)), (by first | exact h | simpa only [*] using h), ?_⟩
   rw [wk_mk]
   simp only[push_cast,seval,h1,h2,h3,h4,h7,h6,h9] <;> rfl
  obtain ⟨h10, h⟩ := F_ck h
  try simp only[push_cast,seval] at h10
  simp only[push_cast,seval,h1,h2,h3,h4,h7,h6,h9,h10]
  refine lpK_of m1 [0, 1, 6, 7, 8] [] (by omega) (by decide) ⟨((((IntKind.wrap .u64 ((a1 + a2))) / 2 ^ (1 : Int).toNat)) + 1), a2, (by first | exact h | simpa only [*] using h), ?_⟩
  rw [wk_mk]
  simp only[push_cast,seval,h1,h2,h3,h4,h7,h6,h9,h10] <;> rfl
 rcases F_if h with ⟨h11, h⟩ | ⟨h11, h⟩
 rotate_left
 ·obtain rfl := Option.some.inj h
  simp only[push_cast,seval,h1,h11]
  refine e_ret (.inr rfl) ?_
  simp only[push_cast,seval,aret,aresults,aresult,h1,h11]
  refine ⟨_, rfl, ?_⟩
  first | (simp only[push_cast,seval,h1,h11] <;> rfl) | rfl
 obtain ⟨x5, h12, h13, h⟩ := F_get h
 have h14 := get_lt h12 h13
 have h15 := map_get rS h13
 try simp only[push_cast,seval] at h15
 rcases F_if h with ⟨h16, h⟩ | ⟨h16, h⟩
 ·obtain rfl := Option.some.inj h
  simp only[push_cast,seval,h1,h11,h12,h15,h14,h16]
  refine e_ret (.inr rfl) ?_
  simp only[push_cast,seval,aret,aresults,aresult,h1,h11,h12,h15,h14,h16]
  refine ⟨_, rfl, ?_⟩
  first | (simp only[push_cast,seval,h1,h11,h12,h15,h14,h16] <;> rfl) | rfl
 obtain ⟨v6, h17, h⟩ := F_bd h
 simp only[push_cast,seval,h1,h11,h12,h15,h14,h16]
 refine call_flat (by rfl) (c_slices_isNaN_string N _ _ h17) ?_ rfl ?_
 ·simp only[push_cast,seval,h1,h11,h12,h15,h14,h16] <;> rfl
 rcases F_if h with ⟨h18, h⟩ | ⟨h18, h⟩
 rotate_left
 ·obtain rfl := Option.some.inj h
  simp only[push_cast,seval,h1,h11,h12,h15,h14,h16,h18]
  refine e_ret (.inr rfl) ?_
  simp only[push_cast,seval,aret,aresults,aresult,h1,h11,h12,h15,h14,h16,h18]
  refine ⟨_, rfl, ?_⟩
  first | (simp only[push_cast,seval,h1,h11,h12,h15,h14,h16,h18] <;> rfl) | rfl
 obtain ⟨v7, h19, h⟩ := F_bd h
 simp only[push_cast,seval,h1,h11,h12,h15,h14,h16,h18]
 refine call_flat (by rfl) (c_slices_isNaN_string N _ _ h19) ?_ rfl ?_
 ·simp only[push_cast,seval,h1,h11,h12,h15,h14,h16,h18] <;> rfl
 obtain rfl := Option.some.inj h
 simp only[push_cast,seval,h1,h11,h12,h15,h14,h16,h18]
 refine e_ret (.inr rfl) ?_
 simp only[push_cast,seval,aret,aresults,aresult,h1,h11,h12,h15,h14,h16,h18]
 refine ⟨_, rfl, ?_⟩
 first | (simp only[push_cast,seval,h1,h11,h12,h15,h14,h16,h18] <;> rfl) | rfl

def f60g0 : List RO := [o_ 7 (.mv (t_ 0)), o_ 8 (.len .false (t_ 7)), o_ 9 (.bin .eql (t_ 8) (.const (.int .i64 1)))]
def f60g1 : List RO := [o_ 10 (.mv (t_ 0)), o_ 11 (.len .false (t_ 10)), o_ 12 (.call (.func 61) [(t_ 11)]), o_ 6 (.mv (t_ 12))]
def f60g2 : List RO := [o_ 13 (.mv (t_ 1)), o_ 14 (.mv (t_ 6)), o_ 15 (.bin .lss (t_ 13) (t_ 14))]
def f60g3 : List RO := [o_ 16 (.load .none (t_ 2)), o_ 17 (.mv (t_ 0)), o_ 18 (.mv (t_ 6)), o_ 19 (.mv (t_ 6)), o_ 20 (.sll 16 (t_ 17) .none (.some (t_ 18)) (.some (t_ 19))), o_ 21 (.mv (t_ 1)), o_ 22 (.callE (t_ 16) [(t_ 20), (t_ 21)])]
def f60g4 : List RO := [o_ 23 (.load .none (t_ 3)), o_ 24 (.mv (t_ 0)), o_ 25 (.mv (t_ 6)), o_ 26 (.sll 16 (t_ 24) (.some (t_ 25)) .none .none), o_ 27 (.call (.func 18) [(t_ 26)]), o_ 28 (.bslice 16 [(t_ 27)]), o_ 29 (.appE 16 16 (t_ 23) (t_ 28)), n_ (.store 1 (t_ 3) (t_ 29))]
def f60g5 : List RO := [o_ 30 (.load .none (t_ 2)), o_ 31 (.mv (t_ 0)), o_ 32 (.mv (t_ 6)), o_ 33 (.sll 16 (t_ 31) (.some (t_ 32)) .none .none), o_ 34 (.mv (t_ 1)), o_ 35 (.mv (t_ 6)), o_ 36 (.bin .sub (t_ 34) (t_ 35)), o_ 37 (.callE (t_ 30) [(t_ 33), (t_ 36)])]
def f60g6 : List RO := [o_ 38 (.load .none (t_ 3)), o_ 39 (.mv (t_ 0)), o_ 40 (.mv (t_ 6)), o_ 41 (.mv (t_ 6)), o_ 42 (.sll 16 (t_ 39) .none (.some (t_ 40)) (.some (t_ 41))), o_ 43 (.call (.func 18) [(t_ 42)]), o_ 44 (.bslice 16 [(t_ 43)]), o_ 45 (.appE 16 16 (t_ 38) (t_ 44)), n_ (.store 1 (t_ 3) (t_ 45))]
def f60c : RCode := (.seq (.seq (.reg .false f60g0) (.cond (t_ 9) .ret .skip)) (.seq (.reg .false f60g1) (.seq (.reg .false f60g2) (.cond (t_ 15) (.seq (.reg .true f60g3) (.reg .true f60g4)) (.seq (.reg .true f60g5) (.reg .true f60g6))))))
def f60r : List RRes := []
attribute [push_cast] f60g0 f60g1 f60g2 f60g3 f60g4 f60g5 f60g6
def F_merkle_Inclusion_1_r (N : Nat) : Nat → (List (Arr 16)) → Int → (List (Arr 16)) → Option (List (Arr 16))
  | 0, _, _, _ => none
  | dd + 1, p0, p1, q1 => if? (((p0.length : Int) == 1)) (some (q1)) (bd? (F_merkle_split N (p0.length : Int)) fun v1 => if? (decide (p1 < v1)) (gd? (0 ≤ v1) (gd? (v1.toNat ≤ p0.length) (bd? (F_merkle_Inclusion_1_r N dd (p0.take (v1.toNat - 0)) p1 q1) fun v2 => bd? (F_merkle_Root N ((p0.drop v1.toNat).take (p0.length - v1.toNat))) fun v3 => gd? ((v2.length + [v3].length) * 16 ≤ 140737488355328) (some ((v2 ++ [v3])))))) (gd? (0 ≤ v1) (gd? (v1.toNat ≤ p0.length) (ck .i64 (p1 - v1) (bd? (F_merkle_Inclusion_1_r N dd ((p0.drop v1.toNat).take (p0.length - v1.toNat)) (p1 - v1) q1) fun v4 => bd? (F_merkle_Root N (p0.take (v1.toNat - 0))) fun v5 => gd? ((v4.length + [v5].length) * 16 ≤ 140737488355328) (some ((v4 ++ [v5]))))))))
def F_merkle_Inclusion_1 (N : Nat) (p0 : (List (Arr 16))) (p1 : Int) (q1 : (List (Arr 16))) : Option (List (Arr 16)) := F_merkle_Inclusion_1_r N N p0 p1 q1
theorem c_merkle_Inclusion_1_r (N dd : Nat) : ∀ (p0 : (List (Arr 16))) (p1 : Int) (q1 : (List (Arr 16))) (r : (List (Arr 16))), F_merkle_Inclusion_1_r N dd p0 p1 q1 = some r → ACall Tryd.prog 60 [.D (.L (p0.map (rA .u8))), .D (.I .i64 p1), .ptr (.B 0) 0, .ptr (.B 1) 0] [some (.box ([.clo 60 [.ptr (.B 0) 0, .ptr (.B 1) 0]])), some (.box ([.sl (.B 2) 16 0 q1.length])), some (.row true 16 (q1.map (rA .u8)))] (.tup []) [some (.box ([.clo 60 [.ptr (.B 0) 0, .ptr (.B 1) 0]])), some (.box ([.sl (.O 0) 16 0 r.length])), none] [.row true 16 (r.map (rA .u8))] := by
 induction dd with
  | zero => intro p0 p1 q1 r h; exact absurd h (by simp [F_merkle_Inclusion_1_r])
  | succ dd ih =>
 intro p0 p1 q1 r h
 refine ACall.of_bodyM [22, 29, 37, 45] [2] (fn := Tryd.f60) (rc := f60c) (rs := f60r) Tryd.func60 rfl rfl (by kernel_rfl) (by kernel_rfl) (by kernel_rfl) (by rw [Tryd.ntmps60]; simp) (by decide) ?_
 rw [F_merkle_Inclusion_1_r] at h
 unfold f60c f60r
 rw [entryM_eq _ _ _ _ _ (by simp only[push_cast,seval] <;> rfl) (by simp only[push_cast,seval] <;> rfl)]
 rcases F_if h with ⟨h1, h⟩ | ⟨h1, h⟩
 ·obtain rfl := Option.some.inj h
  simp only[push_cast,seval,h1]
  refine AEndW.of [0] (.inr rfl) (by decide) rfl ?_ ?_ ?_
  ·simp only[push_cast,seval,h1] <;> rfl
  ·simp only[push_cast,seval,h1] <;> rfl
  ·simp only[push_cast,seval,h1] <;> rfl
 obtain ⟨v1, h2, h⟩ := F_bd h
 simp only[push_cast,seval,h1]
 refine call_flat (by rfl) (c_merkle_split N _ _ h2) ?_ rfl ?_
 ·simp only[push_cast,seval,h1] <;> rfl
 rcases F_if h with ⟨h3, h⟩ | ⟨h3, h⟩
 ·obtain ⟨h4, h⟩ := F_gd h
  obtain ⟨h5, h⟩ := F_gd h
  try simp only[push_cast,seval] at h5
  obtain ⟨v2, h6, h⟩ := F_bd h
  simp only[push_cast,seval,h1,h3,h4,h5]
  refine callE_of [.B 0, .B 1, .O 0] (by rfl) (ih _ _ _ _ h6) (by decide) rfl (by simp only[push_cast,seval] <;> rfl) (by simp only[push_cast,seval] <;> rfl) ?_ ?_ ?_
  ·simp only[push_cast,seval,h1,h3,h4,h5] <;> rfl
  ·simp only[push_cast,seval,h1,h3,h4,h5] <;> rfl
  obtain ⟨v3, h7, h⟩ := F_bd h
  simp only[push_cast,seval,h1,h3,h4,h5]
  refine call_flat (by rfl) (c_merkle_Root N _ _ h7) ?_ (by simp [AV.flat, AV.flatL, flatL_aI, flatL_app, DV.flat]) ?_
  ·simp only[push_cast,seval,h1,h3,h4,h5] <;> rfl
  obtain ⟨h8, h⟩ := F_gd h
  try simp only[push_cast,seval] at h8
  obtain rfl := Option.some.inj h
  simp only[push_cast,seval,h1,h3,h4,h5,h8]
  refine AEndW.of [3] (.inl rfl) (by decide) rfl ?_ ?_ ?_
  ·simp only[push_cast,seval,h1,h3,h4,h5,h8] <;> rfl
  ·simp only[push_cast,seval,h1,h3,h4,h5,h8] <;> rfl
  ·simp only[push_cast,seval,h1,h3,h4,h5,h8] <;> rfl
 obtain ⟨h9, h⟩ := F_gd h
 obtain ⟨h10, h⟩ := F_gd h
 try simp only[push_cast,seval] at h10
 obtain ⟨h11, h⟩ := F_ck h
 try simp only[push_cast,seval] at h11
 obtain ⟨v4, h12, h⟩ := F_bd h
 simp only[push_cast,seval,h1,h3,h9,h10,h11]
 refine callE_of [.B 0, .B 1, .O 0] (by rfl) (ih _ _ _ _ h12) (by decide) rfl (by simp only[push_cast,seval] <;> rfl) (by simp only[push_cast,seval] <;> rfl) ?_ ?_ ?_
 ·simp only[push_cast,seval,h1,h3,h9,h10,h11] <;> rfl
 ·simp only[push_cast,seval,h1,h3,h9,h10,h11] <;> rfl
 obtain ⟨v5, h13, h⟩ := F_bd h
 simp only[push_cast,seval,h1,h3,h9,h10,h11]
 refine call_flat (by rfl) (c_merkle_Root N _ _ h13) ?_ (by simp [AV.flat, AV.flatL, flatL_aI, flatL_app, DV.flat]) ?_
 ·simp only[push_cast,seval,h1,h3,h9,h10,h11] <;> rfl
 obtain ⟨h14, h⟩ := F_gd h
 try simp only[push_cast,seval] at h14
 obtain rfl := Option.some.inj h
 simp only[push_cast,seval,h1,h3,h9,h10,h11,h14]
 refine AEndW.of [3] (.inl rfl) (by decide) rfl ?_ ?_ ?_
 ·simp only[push_cast,seval,h1,h3,h9,h10,h11,h14] <;> rfl
 ·simp only[push_cast,seval,h1,h3,h9,h10,h11,h14] <;> rfl
 ·simp only[push_cast,seval,h1,h3,h9,h10,h11,h14] <;> rfl
theorem c_merkle_Inclusion_1 (N : Nat) (p0 : (List (Arr 16))) (p1 : Int) (q1 : (List (Arr 16))) (r : (List (Arr 16))) (h : F_merkle_Inclusion_1 N p0 p1 q1 = some r) : ACall Tryd.prog 60 [.D (.L (p0.map (rA .u8))), .D (.I .i64 p1), .ptr (.B 0) 0, .ptr (.B 1) 0] [some (.box ([.clo 60 [.ptr (.B 0) 0, .ptr (.B 1) 0]])), some (.box ([.sl (.B 2) 16 0 q1.length])), some (.row true 16 (q1.map (rA .u8)))] (.tup []) [some (.box ([.clo 60 [.ptr (.B 0) 0, .ptr (.B 1) 0]])), some (.box ([.sl (.O 0) 16 0 r.length])), none] [.row true 16 (r.map (rA .u8))] := c_merkle_Inclusion_1_r N N p0 p1 q1 r h

def f13g0 : List RO := [o_ 4 (.mv (.const (.slice .none 0 0))), o_ 5 (.mv (.const (.int .i64 0)))]
def f13g1 : List RO := [o_ 8 (.mv (t_ 1)), o_ 9 (.bin .lss (t_ 8) (.const (.int .i64 0))), o_ 10 (.mv (t_ 9)), ⟨(.some 11), (.mv (t_ 1)), (.some (10, .false))⟩, ⟨(.some 12), (.mv (t_ 0)), (.some (10, .false))⟩, ⟨(.some 13), (.len .false (t_ 12)), (.some (10, .false))⟩, ⟨(.some 14), (.bin .geq (t_ 11) (t_ 13)), (.some (10, .false))⟩, o_ 15 (.pick (t_ 10) (.const (.bool .true)) (t_ 14))]
def f13g2 : List RO := [o_ 4 (.mv (.const (.slice .none 0 0))), o_ 5 (.mv (.const (.int .i64 1)))]
def f13g3 : List RO := [o_ 6 (.new [(.fl [])])]
def f13g4 : List RO := [o_ 7 (.new [(.D (.C .nilFunc))])]
def f13g5 : List RO := [o_ 16 (.mkf 60 [(t_ 7), (t_ 6)]), n_ (.store 1 (t_ 7) (t_ 16))]
def f13g6 : List RO := [o_ 17 (.load .none (t_ 7)), o_ 18 (.mv (t_ 0)), o_ 19 (.mv (t_ 1)), o_ 20 (.callE (t_ 17) [(t_ 18), (t_ 19)])]
def f13g7 : List RO := [o_ 21 (.load .none (t_ 6)), o_ 4 (.mv (t_ 21)), o_ 5 (.mv (.const (.int .i64 0)))]
def f13c : RCode := (.seq (.reg .false f13g0) (.seq (.seq (.reg .false f13g1) (.cond (t_ 15) (.seq (.reg .false f13g2) .ret) .skip)) (.seq (.reg .false f13g3) (.seq (.reg .false f13g4) (.seq (.reg .false f13g5) (.seq (.wkr (.reg .false f13g6)) (.seq (.reg .false f13g7) .ret)))))))
def f13r : List RRes := [(.tmp 4), (.tmp 5)]
attribute [push_cast] f13g0 f13g1 f13g2 f13g3 f13g4 f13g5 f13g6 f13g7
def F_merkle_Inclusion (N : Nat) (p0 : (List (Arr 16))) (p1 : Int) : Option ((List (Arr 16)) × Int) := if? (decide (p1 < 0)) (some ([], 1)) (if? (decide (p1 ≥ (p0.length : Int))) (some ([], 1)) (bd? (F_merkle_Inclusion_1 N p0 p1 []) fun v1 => some (v1, 0)))
theorem c_merkle_Inclusion (N : Nat) (p0 : (List (Arr 16))) (p1 : Int) (r : ((List (Arr 16)) × Int)) (h : F_merkle_Inclusion N p0 p1 = some r) : ACall Tryd.prog 13 [.D (.L (p0.map (rA .u8))), .D (.I .i64 p1)] [] (.tup [.sl (.O 0) 16 0 r.1.length, .D (.I .i64 r.2)]) [] [.row true 16 (r.1.map (rA .u8))] := by
 refine ACall.of_bodyW [20, 2000006] (fn := Tryd.f13) (rc := f13c) (rs := f13r) Tryd.func13 rfl rfl (by kernel_rfl) (by kernel_rfl) (by kernel_rfl) (by rw [Tryd.ntmps13]; simp) ?_
 unfold F_merkle_Inclusion at h
 unfold f13c f13r
 rw [entry_eq _ _]
 rcases F_if h with ⟨h1, h⟩ | ⟨h1, h⟩
 ·obtain rfl := Option.some.inj h
  simp only[push_cast,seval,h1]
  refine end_own0 4 16 rfl ?_
  simp only[push_cast,seval,h1]
  refine AEndW.of [0] (.inr rfl) (by decide) rfl ?_ rfl ?_
  ·simp only[push_cast,seval,h1] <;> rfl
  ·simp only[push_cast,seval,h1] <;> rfl
 rcases F_if h with ⟨h2, h⟩ | ⟨h2, h⟩
 ·obtain rfl := Option.some.inj h
  simp only[push_cast,seval,h1,h2]
  refine end_own0 4 16 rfl ?_
  simp only[push_cast,seval,h1,h2]
  refine AEndW.of [0] (.inr rfl) (by decide) rfl ?_ rfl ?_
  ·simp only[push_cast,seval,h1,h2] <;> rfl
  ·simp only[push_cast,seval,h1,h2] <;> rfl
 simp only[push_cast,seval,h1,h2]
 refine wkr_ownB (.O 0) [.fl []] 0 16 (by rfl) (by rfl) ?_
 simp only[push_cast,seval,h1,h2]
 refine wkr_of ?_
 obtain ⟨v1, h3, h⟩ := F_bd h
 simp only[push_cast,seval,h1,h2]
 refine callE_of [.O 1, .O 0, .O 2] (by rfl) (c_merkle_Inclusion_1 N _ _ _ _ h3) (by decide) rfl (by simp only[push_cast,seval] <;> rfl) (by simp only[push_cast,seval] <;> rfl) ?_ ?_ ?_
 ·simp only[push_cast,seval,h1,h2] <;> rfl
 ·simp only[push_cast,seval,h1,h2] <;> rfl
 obtain rfl := Option.some.inj h
 simp only[push_cast,seval,h1,h2]
 refine AEndW.of [3] (.inr rfl) (by decide) rfl ?_ rfl ?_
 ·simp only[push_cast,seval,h1,h2] <;> rfl
 ·simp only[push_cast,seval,h1,h2] <;> rfl

def f39g0 : List RO := [o_ 2 (.box (t_ 0)), o_ 4 (.new ([(.D (.I .i64 0)), (.D (.I .i64 0))] ++ (((Arr.zero 16).l.map (aI .u8)) ++ [(.fl [])]))), o_ 5 (.mv (.const (.int .i64 0)))]
def f39g1 : List RO := [o_ 13 (.load (.some 3) (t_ 2)), o_ 14 (.call (.func 37) [(t_ 13)]), o_ 6 (.mv (t_ 14))]
def f39g2 : List RO := [o_ 15 (.mv (t_ 6)), o_ 16 (.bin .neq (t_ 15) (.const (.int .i64 0)))]
def f39g3 : List RO := [o_ 17 (.build ([(.D (.I .i64 0)), (.D (.I .i64 0))] ++ (((Arr.zero 16).l.map (aI .u8)) ++ [(.fl [])])) []), o_ 18 (.mv (t_ 6)), n_ (.store 19 (t_ 4) (t_ 17)), o_ 5 (.mv (t_ 18))]
def f39g4 : List RO := [o_ 20 (.faddr 2 (t_ 2)), o_ 21 (.load .none (t_ 20)), o_ 22 (.mv (t_ 1)), o_ 23 (.call (.func 91) [(t_ 21), (t_ 22)]), o_ 19 (.mv (t_ 23)), o_ 24 (.ext (t_ 19) 0), o_ 25 (.ext (t_ 19) 1), o_ 7 (.mv (t_ 24)), o_ 8 (.mv (t_ 25))]
def f39g5 : List RO := [o_ 26 (.mv (t_ 8)), o_ 27 (.un .not (t_ 26))]
def f39g6 : List RO := [o_ 28 (.build ([(.D (.I .i64 0)), (.D (.I .i64 0))] ++ (((Arr.zero 16).l.map (aI .u8)) ++ [(.fl [])])) []), n_ (.store 19 (t_ 4) (t_ 28)), o_ 5 (.mv (.const (.int .i64 8)))]
def f39g7 : List RO := [o_ 30 (.faddr 2 (t_ 2)), o_ 31 (.load .none (t_ 30)), o_ 32 (.call (.func 89) [(t_ 31)]), o_ 29 (.mv (t_ 32)), o_ 33 (.ext (t_ 29) 0), o_ 34 (.ext (t_ 29) 1), o_ 10 (.newR ((Arr.zero 16).l.map (aI .u8))), o_ 9 (.mv (t_ 33)), n_ (.store 16 (t_ 10) (t_ 34))]
def f39g8 : List RO := [o_ 36 (.mv (t_ 9)), o_ 37 (.mv (t_ 7)), o_ 38 (.call (.func 13) [(t_ 36), (t_ 37)]), o_ 35 (.mv (t_ 38)), o_ 39 (.ext (t_ 35) 0), o_ 40 (.ext (t_ 35) 1), o_ 11 (.mv (t_ 39)), o_ 12 (.mv (t_ 40))]
def f39g9 : List RO := [o_ 41 (.mv (t_ 7)), o_ 42 (.mv (t_ 9)), o_ 43 (.len .false (t_ 42)), o_ 44 (.load (.some 16) (t_ 10)), o_ 45 (.mv (t_ 11)), o_ 46 (.build [(.D (.I .i64 0)), (.D (.I .i64 0)), (.D (.I .u8 0)), (.D (.I .u8 0)), (.D (.I .u8 0)), (.D (.I .u8 0)), (.D (.I .u8 0)), (.D (.I .u8 0)), (.D (.I .u8 0)), (.D (.I .u8 0)), (.D (.I .u8 0)), (.D (.I .u8 0)), (.D (.I .u8 0)), (.D (.I .u8 0)), (.D (.I .u8 0)), (.D (.I .u8 0)), (.D (.I .u8 0)), (.D (.I .u8 0)), (.fl [])] [(0, (1, (t_ 41))), (1, (1, (t_ 43))), (2, (16, (t_ 44))), (18, (1, (t_ 45)))]), n_ (.store 19 (t_ 4) (t_ 46)), o_ 5 (.mv (.const (.int .i64 0)))]
def f39c : RCode := (.seq (.reg .false f39g0) (.seq (.seq (.reg .false f39g1) (.seq (.reg .false f39g2) (.cond (t_ 16) (.seq (.reg .false f39g3) .ret) .skip))) (.seq (.reg .false f39g4) (.seq (.seq (.reg .false f39g5) (.cond (t_ 27) (.seq (.reg .false f39g6) .ret) .skip)) (.seq (.reg .false f39g7) (.seq (.reg .false f39g8) (.seq (.reg .false f39g9) .ret)))))))
def f39r : List RRes := [(.cell (.some 19) 4), (.tmp 5)]
attribute [push_cast] f39g0 f39g1 f39g2 f39g3 f39g4 f39g5 f39g6 f39g7 f39g8 f39g9
def F_leaf_Prove (N : Nat) (p0 : Folder) (p1 : Str) : Option (Proof × Int) := bd? (F_leaf_Check N p0) fun v1 => if? ((v1 != 0)) (some ((Proof.mk 0 0 (Arr.zero 16) []), v1)) (bd? (F_slices_BinarySearch_string_string N p0.Items p1) fun v2 => if? (v2.2) (bd? (F_leaf_tree N p0.Items) fun v3 => bd? (F_merkle_Inclusion N v3.1 v2.1) fun v4 => some ((Proof.mk v2.1 (v3.1.length : Int) v3.2 v4.1), 0)) (some ((Proof.mk 0 0 (Arr.zero 16) []), 8)))
theorem c_leaf_Prove (N : Nat) (p0 : Folder) (p1 : Str) (r : (Proof × Int)) (h : F_leaf_Prove N p0 p1 = some r) : ACall Tryd.prog 39 [.agg [.D (.I .i64 p0.Gauge), .D (.I .i64 p0.Year), .D (.L (p0.Items.map rS))], .D (.S p1)] [] (.tup [.agg ([.D (.I .i64 r.1.At), .D (.I .i64 r.1.Count)] ++ ((r.1.Top.l.map (aI .u8)) ++ ([.D (.L (r.1.Path.map (rA .u8)))]))), .D (.I .i64 r.2)]) [] [] := by
 refine ACall.of_bodyW [] (fn := Tryd.f39) (rc := f39c) (rs := f39r) Tryd.func39 rfl rfl (by kernel_rfl) (by kernel_rfl) (by kernel_rfl) (by rw [Tryd.ntmps39]; simp) ?_
 unfold F_leaf_Prove at h
 unfold f39c f39r
 rw [entry_eq _ _]
 obtain ⟨v1, h1, h⟩ := F_bd h
 simp only[push_cast,seval]
 refine call_flat (by rfl) (c_leaf_Check N _ _ h1) ?_ rfl ?_
 ·simp only[push_cast,seval] <;> rfl
 rcases F_if h with ⟨h2, h⟩ | ⟨h2, h⟩
 ·obtain rfl := Option.some.inj h
  simp only[push_cast,seval,h2]
  refine e_ret (.inr rfl) ?_
  simp only[push_cast,seval,aret,aresults,aresult,h2]
  refine ⟨_, rfl, ?_⟩
  first | (simp only[push_cast,seval,h2] <;> rfl) | rfl
 obtain ⟨v2, h3, h⟩ := F_bd h
 simp only[push_cast,seval,h2]
 refine call_flat (by rfl) (c_slices_BinarySearch_string_string N _ _ _ h3) ?_ rfl ?_
 ·simp only[push_cast,seval,h2] <;> rfl
 rcases F_if h with ⟨h4, h⟩ | ⟨h4, h⟩
 rotate_left
 ·obtain rfl := Option.some.inj h
  simp only[push_cast,seval,h2,h4]
  refine e_ret (.inr rfl) ?_
  simp only[push_cast,seval,aret,aresults,aresult,h2,h4]
  refine ⟨_, rfl, ?_⟩
  first | (simp only[push_cast,seval,h2,h4] <;> rfl) | rfl
 obtain ⟨v3, h5, h⟩ := F_bd h
 simp only[push_cast,seval,h2,h4]
 refine call_new (by rfl) (c_leaf_tree N _ _ h5) ?_ (by simp [AV.flat, AV.flatL, flatL_aI, flatL_app, DV.flat]) ?_
 ·simp only[push_cast,seval,h2,h4] <;> rfl
 obtain ⟨v4, h6, h⟩ := F_bd h
 simp only[push_cast,seval,h2,h4]
 refine call_new (by rfl) (c_merkle_Inclusion N _ _ _ h6) ?_ rfl ?_
 ·simp only[push_cast,seval,h2,h4] <;> rfl
 obtain rfl := Option.some.inj h
 simp only[push_cast,seval,h2,h4]
 refine e_ret (.inr rfl) ?_
 simp only[push_cast,seval,aret,aresults,aresult,h2,h4]
 refine ⟨_, rfl, ?_⟩
 first | (simp only[push_cast,seval,h2,h4] <;> rfl) | rfl

def f40g0 : List RO := [o_ 2 (.box (t_ 0)), o_ 4 (.new ([(.D (.I .i64 0)), (.D (.I .i64 0))] ++ (((Arr.zero 16).l.map (aI .u8)) ++ [(.D (.S [])), (.D (.S [])), (.fl []), (.fl [])]))), o_ 5 (.mv (.const (.int .i64 0)))]
def f40g1 : List RO := [o_ 12 (.load (.some 3) (t_ 2)), o_ 13 (.call (.func 37) [(t_ 12)]), o_ 6 (.mv (t_ 13))]
def f40g2 : List RO := [o_ 14 (.mv (t_ 6)), o_ 15 (.bin .neq (t_ 14) (.const (.int .i64 0)))]
def f40g3 : List RO := [o_ 16 (.build ([(.D (.I .i64 0)), (.D (.I .i64 0))] ++ (((Arr.zero 16).l.map (aI .u8)) ++ [(.D (.S [])), (.D (.S [])), (.fl []), (.fl [])])) []), o_ 17 (.mv (t_ 6)), n_ (.store 22 (t_ 4) (t_ 16)), o_ 5 (.mv (t_ 17))]
def f40g4 : List RO := [o_ 18 (.mv (t_ 1)), o_ 19 (.faddr 0 (t_ 2)), o_ 20 (.load .none (t_ 19)), o_ 21 (.faddr 1 (t_ 2)), o_ 22 (.load .none (t_ 21)), o_ 23 (.call (.func 88) [(t_ 18), (t_ 20), (t_ 22)]), o_ 24 (.un .not (t_ 23))]
def f40g5 : List RO := [o_ 25 (.build ([(.D (.I .i64 0)), (.D (.I .i64 0))] ++ (((Arr.zero 16).l.map (aI .u8)) ++ [(.D (.S [])), (.D (.S [])), (.fl []), (.fl [])])) []), n_ (.store 22 (t_ 4) (t_ 25)), o_ 5 (.mv (.const (.int .i64 1)))]
def f40g6 : List RO := [o_ 27 (.faddr 2 (t_ 2)), o_ 28 (.load .none (t_ 27)), o_ 29 (.mv (t_ 1)), o_ 30 (.call (.func 91) [(t_ 28), (t_ 29)]), o_ 26 (.mv (t_ 30)), o_ 31 (.ext (t_ 26) 0), o_ 32 (.ext (t_ 26) 1), o_ 7 (.mv (t_ 31)), o_ 8 (.mv (t_ 32))]
def f40g7 : List RO := [o_ 33 (.mv (t_ 8))]
def f40g8 : List RO := [o_ 34 (.build ([(.D (.I .i64 0)), (.D (.I .i64 0))] ++ (((Arr.zero 16).l.map (aI .u8)) ++ [(.D (.S [])), (.D (.S [])), (.fl []), (.fl [])])) []), n_ (.store 22 (t_ 4) (t_ 34)), o_ 5 (.mv (.const (.int .i64 9)))]
def f40g9 : List RO := [o_ 36 (.faddr 2 (t_ 2)), o_ 37 (.load .none (t_ 36)), o_ 38 (.call (.func 89) [(t_ 37)]), o_ 35 (.mv (t_ 38)), o_ 39 (.ext (t_ 35) 0), o_ 40 (.ext (t_ 35) 1), o_ 10 (.newR ((Arr.zero 16).l.map (aI .u8))), o_ 9 (.mv (t_ 39)), n_ (.store 16 (t_ 10) (t_ 40))]
def f40g10 : List RO := [o_ 41 (.mv (t_ 7)), o_ 42 (.mv (t_ 9)), o_ 43 (.len .false (t_ 42)), o_ 44 (.load (.some 16) (t_ 10)), o_ 45 (.build [(.D (.I .i64 0)), (.D (.I .i64 0)), (.D (.I .u8 0)), (.D (.I .u8 0)), (.D (.I .u8 0)), (.D (.I .u8 0)), (.D (.I .u8 0)), (.D (.I .u8 0)), (.D (.I .u8 0)), (.D (.I .u8 0)), (.D (.I .u8 0)), (.D (.I .u8 0)), (.D (.I .u8 0)), (.D (.I .u8 0)), (.D (.I .u8 0)), (.D (.I .u8 0)), (.D (.I .u8 0)), (.D (.I .u8 0)), (.D (.S [])), (.D (.S [])), (.fl []), (.fl [])] [(0, (1, (t_ 41))), (1, (1, (t_ 43))), (2, (16, (t_ 44)))]), o_ 11 (.new ([(.D (.I .i64 0)), (.D (.I .i64 0))] ++ (((Arr.zero 16).l.map (aI .u8)) ++ [(.D (.S [])), (.D (.S [])), (.fl []), (.fl [])]))), n_ (.store 22 (t_ 11) (t_ 45))]
def f40g11 : List RO := [o_ 46 (.mv (t_ 7)), o_ 47 (.bin .gtr (t_ 46) (.const (.int .i64 0)))]
def f40g12 : List RO := [o_ 48 (.faddr 2 (t_ 2)), o_ 49 (.load .none (t_ 48)), o_ 50 (.mv (t_ 7)), o_ 51 (.bin .sub (t_ 50) (.const (.int .i64 1))), o_ 52 (.iaddr 1 (t_ 49) (t_ 51)), o_ 53 (.load .none (t_ 52)), o_ 54 (.faddr 18 (t_ 11)), n_ (.store 1 (t_ 54) (t_ 53))]
def f40g13 : List RO := [o_ 56 (.mv (t_ 9)), o_ 57 (.mv (t_ 7)), o_ 58 (.bin .sub (t_ 57) (.const (.int .i64 1))), o_ 59 (.call (.func 13) [(t_ 56), (t_ 58)]), o_ 55 (.mv (t_ 59)), o_ 60 (.ext (t_ 55) 0), o_ 61 (.ext (t_ 55) 1), o_ 62 (.faddr 20 (t_ 11)), n_ (.store 1 (t_ 62) (t_ 60))]
def f40g14 : List RO := [o_ 63 (.mv (t_ 7)), o_ 64 (.mv (t_ 9)), o_ 65 (.len .false (t_ 64)), o_ 66 (.bin .lss (t_ 63) (t_ 65))]
def f40g15 : List RO := [o_ 67 (.faddr 2 (t_ 2)), o_ 68 (.load .none (t_ 67)), o_ 69 (.mv (t_ 7)), o_ 70 (.iaddr 1 (t_ 68) (t_ 69)), o_ 71 (.load .none (t_ 70)), o_ 72 (.faddr 19 (t_ 11)), n_ (.store 1 (t_ 72) (t_ 71))]
def f40g16 : List RO := [o_ 74 (.mv (t_ 9)), o_ 75 (.mv (t_ 7)), o_ 76 (.call (.func 13) [(t_ 74), (t_ 75)]), o_ 73 (.mv (t_ 76)), o_ 77 (.ext (t_ 73) 0), o_ 78 (.ext (t_ 73) 1), o_ 79 (.faddr 21 (t_ 11)), n_ (.store 1 (t_ 79) (t_ 77))]
def f40g17 : List RO := [o_ 80 (.load (.some 22) (t_ 11)), n_ (.store 22 (t_ 4) (t_ 80)), o_ 5 (.mv (.const (.int .i64 0)))]
def f40c : RCode := (.seq (.reg .false f40g0) (.seq (.seq (.reg .false f40g1) (.seq (.reg .false f40g2) (.cond (t_ 15) (.seq (.reg .false f40g3) .ret) .skip))) (.seq (.seq (.reg .false f40g4) (.cond (t_ 24) (.seq (.reg .false f40g5) .ret) .skip)) (.seq (.reg .false f40g6) (.seq (.seq (.reg .false f40g7) (.cond (t_ 33) (.seq (.reg .false f40g8) .ret) .skip)) (.seq (.reg .false f40g9) (.seq (.reg .false f40g10) (.seq (.seq (.reg .false f40g11) (.cond (t_ 47) (.seq (.reg .false f40g12) (.reg .false f40g13)) .skip)) (.seq (.seq (.reg .false f40g14) (.cond (t_ 66) (.seq (.reg .false f40g15) (.reg .false f40g16)) .skip)) (.seq (.reg .false f40g17) .ret))))))))))
def f40r : List RRes := [(.cell (.some 22) 4), (.tmp 5)]
attribute [push_cast] f40g0 f40g1 f40g2 f40g3 f40g4 f40g5 f40g6 f40g7 f40g8 f40g9 f40g10 f40g11 f40g12 f40g13 f40g14 f40g15 f40g16 f40g17
def F_leaf_Deny (N : Nat) (p0 : Folder) (p1 : Str) : Option (Absence × Int) := bd? (F_leaf_Check N p0) fun v1 => if? ((v1 != 0)) (some ((Absence.mk 0 0 (Arr.zero 16) ([] : Str) ([] : Str) [] []), v1)) (bd? (F_leaf_here N p1 p0.Gauge p0.Year) fun v2 => if? (v2) (bd? (F_slices_BinarySearch_string_string N p0.Items p1) fun v3 => if? (v3.2) (some ((Absence.mk 0 0 (Arr.zero 16) ([] : Str) ([] : Str) [] []), 9)) (bd? (F_leaf_tree N p0.Items) fun v4 => if? (decide (v3.1 > 0)) (ck .i64 (v3.1 - 1) (get? p0.Items ((v3.1 - 1)) fun x5 => bd? (F_merkle_Inclusion N v4.1 (v3.1 - 1)) fun v6 => if? (decide (v3.1 < (v4.1.length : Int))) (get? p0.Items (v3.1) fun x7 => bd? (F_merkle_Inclusion N v4.1 v3.1) fun v8 => some ((Absence.mk v3.1 (v4.1.length : Int) v4.2 x5 x7 v6.1 v8.1), 0)) (some ((Absence.mk v3.1 (v4.1.length : Int) v4.2 x5 ([] : Str) v6.1 []), 0)))) (if? (decide (v3.1 < (v4.1.length : Int))) (get? p0.Items (v3.1) fun x9 => bd? (F_merkle_Inclusion N v4.1 v3.1) fun v10 => some ((Absence.mk v3.1 (v4.1.length : Int) v4.2 ([] : Str) x9 [] v10.1), 0)) (some ((Absence.mk v3.1 (v4.1.length : Int) v4.2 ([] : Str) ([] : Str) [] []), 0))))) (some ((Absence.mk 0 0 (Arr.zero 16) ([] : Str) ([] : Str) [] []), 1)))
theorem c_leaf_Deny (N : Nat) (p0 : Folder) (p1 : Str) (r : (Absence × Int)) (h : F_leaf_Deny N p0 p1 = some r) : ACall Tryd.prog 40 [.agg [.D (.I .i64 p0.Gauge), .D (.I .i64 p0.Year), .D (.L (p0.Items.map rS))], .D (.S p1)] [] (.tup [.agg ([.D (.I .i64 r.1.At), .D (.I .i64 r.1.Count)] ++ ((r.1.Top.l.map (aI .u8)) ++ ([.D (.S r.1.Before), .D (.S r.1.After), .D (.L (r.1.Left.map (rA .u8))), .D (.L (r.1.Right.map (rA .u8)))]))), .D (.I .i64 r.2)]) [] [] := by
 refine ACall.of_bodyW [] (fn := Tryd.f40) (rc := f40c) (rs := f40r) Tryd.func40 rfl rfl (by kernel_rfl) (by kernel_rfl) (by kernel_rfl) (by rw [Tryd.ntmps40]; simp) ?_
 unfold F_leaf_Deny at h
 unfold f40c f40r
 rw [entry_eq _ _]
 obtain ⟨v1, h1, h⟩ := F_bd h
 simp only[push_cast,seval]
 refine call_flat (by rfl) (c_leaf_Check N _ _ h1) ?_ rfl ?_
 ·simp only[push_cast,seval] <;> rfl
 rcases F_if h with ⟨h2, h⟩ | ⟨h2, h⟩
 ·obtain rfl := Option.some.inj h
  simp only[push_cast,seval,h2]
  refine e_ret (.inr rfl) ?_
  simp only[push_cast,seval,aret,aresults,aresult,h2]
  refine ⟨_, rfl, ?_⟩
  first | (simp only[push_cast,seval,h2] <;> rfl) | rfl
 obtain ⟨v2, h3, h⟩ := F_bd h
 simp only[push_cast,seval,h2]
 refine call_flat (by rfl) (c_leaf_here N _ _ _ _ h3) ?_ rfl ?_
 ·simp only[push_cast,seval,h2] <;> rfl
 rcases F_if h with ⟨h4, h⟩ | ⟨h4, h⟩
 rotate_left
 ·obtain rfl := Option.some.inj h
  simp only[push_cast,seval,h2,h4]
  refine e_ret (.inr rfl) ?_
  simp only[push_cast,seval,aret,aresults,aresult,h2,h4]
  refine ⟨_, rfl, ?_⟩
  first | (simp only[push_cast,seval,h2,h4] <;> rfl) | rfl
 obtain ⟨v3, h5, h⟩ := F_bd h
 simp only[push_cast,seval,h2,h4]
 refine call_flat (by rfl) (c_slices_BinarySearch_string_string N _ _ _ h5) ?_ rfl ?_
 ·simp only[push_cast,seval,h2,h4] <;> rfl
 rcases F_if h with ⟨h6, h⟩ | ⟨h6, h⟩
 ·obtain rfl := Option.some.inj h
  simp only[push_cast,seval,h2,h4,h6]
  refine e_ret (.inr rfl) ?_
  simp only[push_cast,seval,aret,aresults,aresult,h2,h4,h6]
  refine ⟨_, rfl, ?_⟩
  first | (simp only[push_cast,seval,h2,h4,h6] <;> rfl) | rfl
 obtain ⟨v4, h7, h⟩ := F_bd h
 simp only[push_cast,seval,h2,h4,h6]
 refine call_new (by rfl) (c_leaf_tree N _ _ h7) ?_ (by simp [AV.flat, AV.flatL, flatL_aI, flatL_app, DV.flat]) ?_
 ·simp only[push_cast,seval,h2,h4,h6] <;> rfl
 rcases F_if h with ⟨h8, h⟩ | ⟨h8, h⟩
 rotate_left
 ·rcases F_if h with ⟨h9, h⟩ | ⟨h9, h⟩
  rotate_left
  ·obtain rfl := Option.some.inj h
   simp only[push_cast,seval,h2,h4,h6,h8,h9]
   refine e_ret (.inr rfl) ?_
   simp only[push_cast,seval,aret,aresults,aresult,h2,h4,h6,h8,h9]
   refine ⟨_, rfl, ?_⟩
   first | (simp only[push_cast,seval,h2,h4,h6,h8,h9] <;> rfl) | rfl
  obtain ⟨x9, h10, h11, h⟩ := F_get h
  have h12 := get_lt h10 h11
  have h13 := map_get rS h11
  try simp only[push_cast,seval] at h13
  obtain ⟨v10, h14, h⟩ := F_bd h
  simp only[push_cast,seval,h2,h4,h6,h8,h9,h10,h13,h12]
  refine call_new (by rfl) (c_merkle_Inclusion N _ _ _ h14) ?_ rfl ?_
  ·simp only[push_cast,seval,h2,h4,h6,h8,h9,h10,h13,h12] <;> rfl
  obtain rfl := Option.some.inj h
  simp only[push_cast,seval,h2,h4,h6,h8,h9,h10,h13,h12]
  refine e_ret (.inr rfl) ?_
  simp only[push_cast,seval,aret,aresults,aresult,h2,h4,h6,h8,h9,h10,h13,h12]
  refine ⟨_, rfl, ?_⟩
  first | (simp only[push_cast,seval,h2,h4,h6,h8,h9,h10,h13,h12] <;> rfl) | rfl
 obtain ⟨h15, h⟩ := F_ck h
 try simp only[push_cast,seval] at h15
 obtain ⟨x5, h16, h17, h⟩ := F_get h
 have h18 := get_lt h16 h17
 have h19 := map_get rS h17
 try simp only[push_cast,seval] at h19 h16 h18
 obtain ⟨v6, h20, h⟩ := F_bd h
 simp only[push_cast,seval,h2,h4,h6,h8,h15,h16,h19,h18]
 refine call_new (by rfl) (c_merkle_Inclusion N _ _ _ h20) ?_ rfl ?_
 ·simp only[push_cast,seval,h2,h4,h6,h8,h15,h16,h19,h18] <;> rfl
 rcases F_if h with ⟨h21, h⟩ | ⟨h21, h⟩
 rotate_left
 ·obtain rfl := Option.some.inj h
  simp only[push_cast,seval,h2,h4,h6,h8,h15,h16,h19,h18,h21]
  refine e_ret (.inr rfl) ?_
  simp only[push_cast,seval,aret,aresults,aresult,h2,h4,h6,h8,h15,h16,h19,h18,h21]
  refine ⟨_, rfl, ?_⟩
  first | (simp only[push_cast,seval,h2,h4,h6,h8,h15,h16,h19,h18,h21] <;> rfl) | rfl
 obtain ⟨x7, h22, h23, h⟩ := F_get h
 have h24 := get_lt h22 h23
 have h25 := map_get rS h23
 try simp only[push_cast,seval] at h25
 obtain ⟨v8, h26, h⟩ := F_bd h
 simp only[push_cast,seval,h2,h4,h6,h8,h15,h16,h19,h18,h21,h22,h25,h24]
 refine call_new (by rfl) (c_merkle_Inclusion N _ _ _ h26) ?_ rfl ?_
 ·simp only[push_cast,seval,h2,h4,h6,h8,h15,h16,h19,h18,h21,h22,h25,h24] <;> rfl
 obtain rfl := Option.some.inj h
 simp only[push_cast,seval,h2,h4,h6,h8,h15,h16,h19,h18,h21,h22,h25,h24]
 refine e_ret (.inr rfl) ?_
 simp only[push_cast,seval,aret,aresults,aresult,h2,h4,h6,h8,h15,h16,h19,h18,h21,h22,h25,h24]
 refine ⟨_, rfl, ?_⟩
 first | (simp only[push_cast,seval,h2,h4,h6,h8,h15,h16,h19,h18,h21,h22,h25,h24] <;> rfl) | rfl

def f80g0 : List RO := [o_ 2 (.newR ((Arr.zero 16).l.map (aI .u8)))]
def f80g1 : List RO := [o_ 5 (.mv (t_ 0)), o_ 6 (.nilc (t_ 5)), o_ 7 (.faddr 0 (t_ 6)), o_ 8 (.load .none (t_ 7)), o_ 9 (.len .false (t_ 8)), o_ 3 (.mv (t_ 9))]
def f80g2 : List RO := [o_ 10 (.mv (t_ 3)), o_ 11 (.bin .eql (t_ 10) (.const (.int .i64 0)))]
def f80g3 : List RO := [o_ 12 (.mv (t_ 0)), o_ 13 (.nilc (t_ 12)), o_ 14 (.faddr 1 (t_ 13)), n_ (.store 1 (t_ 14) (.const (.bool .true)))]
def f80g4 : List RO := [o_ 15 (.build ((Arr.zero 16).l.map (aI .u8)) []), n_ (.store 16 (t_ 2) (t_ 15))]
def f80g5 : List RO := [o_ 16 (.mv (t_ 0)), o_ 17 (.nilc (t_ 16)), o_ 18 (.faddr 0 (t_ 17)), o_ 19 (.load .none (t_ 18)), o_ 20 (.mv (t_ 3)), o_ 21 (.bin .sub (t_ 20) (.const (.int .i64 1))), o_ 22 (.iaddr 16 (t_ 19) (t_ 21)), o_ 23 (.load (.some 16) (t_ 22)), o_ 4 (.newR ((Arr.zero 16).l.map (aI .u8))), n_ (.store 16 (t_ 4) (t_ 23))]
def f80g6 : List RO := [o_ 24 (.mv (t_ 0)), o_ 25 (.mv (t_ 0)), o_ 26 (.nilc (t_ 25)), o_ 27 (.faddr 0 (t_ 26)), o_ 28 (.load .none (t_ 27)), o_ 29 (.mv (t_ 3)), o_ 30 (.bin .sub (t_ 29) (.const (.int .i64 1))), o_ 31 (.mv (t_ 3)), o_ 32 (.bin .sub (t_ 31) (.const (.int .i64 1))), o_ 33 (.sll 16 (t_ 28) .none (.some (t_ 30)) (.some (t_ 32))), o_ 34 (.nilc (t_ 24)), o_ 35 (.faddr 0 (t_ 34)), n_ (.store 1 (t_ 35) (t_ 33))]
def f80g7 : List RO := [o_ 36 (.load (.some 16) (t_ 4)), n_ (.store 16 (t_ 2) (t_ 36))]
def f80c : RCode := (.seq (.reg .false f80g0) (.seq (.reg .false f80g1) (.seq (.seq (.reg .false f80g2) (.cond (t_ 11) (.seq (.reg .false f80g3) (.seq (.reg .false f80g4) .ret)) .skip)) (.seq (.reg .false f80g5) (.seq (.reg .false f80g6) (.seq (.reg .false f80g7) .ret))))))
def f80r : List RRes := [(.cell (.some 16) 2)]
attribute [push_cast] f80g0 f80g1 f80g2 f80g3 f80g4 f80g5 f80g6 f80g7
def F_merkle_path_last (N : Nat) (q0 : Merklepath) : Option ((Arr 16) × Merklepath) := if? (((q0.l.length : Int) == 0)) (some ((Arr.zero 16), (Merklepath.mk q0.l true))) (ck .i64 ((q0.l.length : Int) - 1) (get? q0.l (((q0.l.length : Int) - 1)) fun x1 => gd? (0 ≤ ((q0.l.length : Int) - 1)) (gd? (((q0.l.length : Int) - 1).toNat ≤ q0.l.length) (some (x1, (Merklepath.mk (q0.l.take (((q0.l.length : Int) - 1).toNat - 0)) q0.short))))))
theorem c_merkle_path_last (N : Nat) (q0 : Merklepath) (r : ((Arr 16) × Merklepath)) (h : F_merkle_path_last N q0 = some r) : ACall Tryd.prog 80 [.ptr (.B 0) 0] [some (.box ([.D (.L (q0.l.map (rA .u8))), .D (.B q0.short)]))] (.agg (r.1.l.map (aI .u8))) [some (.box ([.D (.L (r.2.l.map (rA .u8))), .D (.B r.2.short)]))] [] := by
 refine ACall.of_bodyW [] (fn := Tryd.f80) (rc := f80c) (rs := f80r) Tryd.func80 rfl rfl (by kernel_rfl) (by kernel_rfl) (by kernel_rfl) (by rw [Tryd.ntmps80]; simp) ?_
 unfold F_merkle_path_last at h
 unfold f80c f80r
 rw [entry_eq _ _]
 rcases F_if h with ⟨h1, h⟩ | ⟨h1, h⟩
 ·obtain rfl := Option.some.inj h
  simp only[push_cast,seval,h1]
  refine AEndW.of2 [] (.inr rfl) (by decide) ?_ ?_ ?_
  ·simp only[push_cast,seval,aret,aresults,aresult,h1]
   refine ⟨_, rfl, ?_⟩
   first | (simp only[push_cast,seval,h1] <;> rfl) | rfl
  ·simp only[push_cast,seval,h1] <;> rfl
  ·simp only[push_cast,seval,h1] <;> rfl
 obtain ⟨h2, h⟩ := F_ck h
 try simp only[push_cast,seval] at h2
 obtain ⟨x1, h3, h4, h⟩ := F_get h
 have h5 := get_lt h3 h4
 have h6 := map_get (rA .u8) h4
 try simp only[push_cast,seval] at h6 h3 h5
 obtain ⟨h7, h⟩ := F_gd h
 try simp only[push_cast,seval] at h7
 obtain ⟨h8, h⟩ := F_gd h
 try simp only[push_cast,seval] at h8
 obtain rfl := Option.some.inj h
 simp only[push_cast,seval,h1,h2,h3,h6,h5,h7,h8]
 refine AEndW.of2 [] (.inr rfl) (by decide) ?_ ?_ ?_
 ·simp only[push_cast,seval,aret,aresults,aresult,h1,h2,h3,h6,h5,h7,h8]
  refine ⟨_, rfl, ?_⟩
  first | (simp only[push_cast,seval,h1,h2,h3,h6,h5,h7,h8] <;> rfl) | rfl
 ·simp only[push_cast,seval,h1,h2,h3,h6,h5,h7,h8] <;> rfl
 ·simp only[push_cast,seval,h1,h2,h3,h6,h5,h7,h8] <;> rfl

def f79g0 : List RO := [o_ 7 (.newR ((Arr.zero 16).l.map (aI .u8)))]
def f79g1 : List RO := [o_ 10 (.mv (t_ 1)), o_ 11 (.bin .eql (t_ 10) (.const (.int .i64 1)))]
def f79g2 : List RO := [o_ 12 (.load (.some 16) (t_ 2)), n_ (.store 16 (t_ 7) (t_ 12))]
def f79g3 : List RO := [o_ 13 (.mv (t_ 1)), o_ 14 (.call (.func 61) [(t_ 13)]), o_ 15 (.load .none (t_ 3)), o_ 16 (.callE (.func 80) [(t_ 15)]), o_ 9 (.newR ((Arr.zero 16).l.map (aI .u8))), o_ 8 (.mv (t_ 14)), n_ (.store 16 (t_ 9) (t_ 16))]
def f79g4 : List RO := [o_ 17 (.mv (t_ 0)), o_ 18 (.mv (t_ 8)), o_ 19 (.bin .lss (t_ 17) (t_ 18))]
def f79g5 : List RO := [o_ 20 (.loadS .none (t_ 4)), o_ 21 (.mv (t_ 0)), o_ 22 (.mv (t_ 8)), o_ 23 (.callE (t_ 20) [(t_ 21), (t_ 22)]), o_ 24 (.loadS (.some 16) (t_ 9)), o_ 25 (.call (.func 22) [(t_ 23), (t_ 24)]), n_ (.store 16 (t_ 7) (t_ 25))]
def f79g6 : List RO := [o_ 26 (.loadS (.some 16) (t_ 9)), o_ 27 (.loadS .none (t_ 4)), o_ 28 (.mv (t_ 0)), o_ 29 (.mv (t_ 8)), o_ 30 (.bin .sub (t_ 28) (t_ 29)), o_ 31 (.mv (t_ 1)), o_ 32 (.mv (t_ 8)), o_ 33 (.bin .sub (t_ 31) (t_ 32)), o_ 34 (.callE (t_ 27) [(t_ 30), (t_ 33)]), o_ 35 (.call (.func 22) [(t_ 26), (t_ 34)]), n_ (.store 16 (t_ 7) (t_ 35))]
def f79c : RCode := (.seq (.reg .false f79g0) (.seq (.seq (.reg .false f79g1) (.cond (t_ 11) (.seq (.reg .false f79g2) .ret) .skip)) (.seq (.reg .true f79g3) (.seq (.seq (.reg .false f79g4) (.cond (t_ 19) (.seq (.regS f79g5) .ret) .skip)) (.seq (.regS f79g6) .ret)))))
def f79r : List RRes := [(.cell (.some 16) 7)]
attribute [push_cast] f79g0 f79g1 f79g2 f79g3 f79g4 f79g5 f79g6
def F_merkle_CheckInclusion_1_r (N : Nat) : Nat → Int → Int → (Arr 16) → Merklepath → Option ((Arr 16) × Merklepath)
  | 0, _, _, _, _ => none
  | dd + 1, p0, p1, q0, q2 => if? ((p1 == 1)) (some (q0, q2)) (bd? (F_merkle_split N p1) fun v1 => bd? (F_merkle_path_last N q2) fun v2 => if? (decide (p0 < v1)) (bd? (F_merkle_CheckInclusion_1_r N dd p0 v1 q0 v2.2) fun v3 => bd? (F_merkle_Node N v3.1 v2.1) fun v4 => some (v4, v3.2)) (ck .i64 (p0 - v1) (ck .i64 (p1 - v1) (bd? (F_merkle_CheckInclusion_1_r N dd (p0 - v1) (p1 - v1) q0 v2.2) fun v5 => bd? (F_merkle_Node N v2.1 v5.1) fun v6 => some (v6, v5.2)))))
def F_merkle_CheckInclusion_1 (N : Nat) (p0 : Int) (p1 : Int) (q0 : (Arr 16)) (q2 : Merklepath) : Option ((Arr 16) × Merklepath) := F_merkle_CheckInclusion_1_r N N p0 p1 q0 q2
theorem c_merkle_CheckInclusion_1_r (N dd : Nat) : ∀ (p0 : Int) (p1 : Int) (q0 : (Arr 16)) (q2 : Merklepath) (r : ((Arr 16) × Merklepath)), F_merkle_CheckInclusion_1_r N dd p0 p1 q0 q2 = some r → ACall Tryd.prog 79 [.D (.I .i64 p0), .D (.I .i64 p1), .eptr (.B 0) 1 0 0, .ptr (.B 1) 0, .ptr (.B 3) 0] [some (.row true 1 (q0.l.map (rI .u8))), some (.box ([.ptr (.B 2) 0])), some (.box ([.D (.L (q2.l.map (rA .u8))), .D (.B q2.short)])), some (.box ([.clo 79 [.eptr (.B 0) 1 0 0, .ptr (.B 1) 0, .ptr (.B 3) 0]]))] (.agg (r.1.l.map (aI .u8))) [some (.row true 1 (q0.l.map (rI .u8))), some (.box ([.ptr (.B 2) 0])), some (.box ([.D (.L (r.2.l.map (rA .u8))), .D (.B r.2.short)])), some (.box ([.clo 79 [.eptr (.B 0) 1 0 0, .ptr (.B 1) 0, .ptr (.B 3) 0]]))] [] := by
 induction dd with
  | zero => intro p0 p1 q0 q2 r h; exact absurd h (by simp [F_merkle_CheckInclusion_1_r])
  | succ dd ih =>
 intro p0 p1 q0 q2 r h
 refine ACall.of_bodyW [16, 20, 23, 24, 26, 27, 34] (fn := Tryd.f79) (rc := f79c) (rs := f79r) Tryd.func79 rfl rfl (by kernel_rfl) (by kernel_rfl) (by kernel_rfl) (by rw [Tryd.ntmps79]; simp) ?_
 rw [F_merkle_CheckInclusion_1_r] at h
 unfold f79c f79r
 rw [entry_eq _ _]
 rcases F_if h with ⟨h1, h⟩ | ⟨h1, h⟩
 ·obtain rfl := Option.some.inj h
  simp only[push_cast,seval,h1]
  refine AEndW.of2 [] (.inr rfl) (by decide) ?_ ?_ ?_
  ·simp only[push_cast,seval,aret,aresults,aresult,h1]
   refine ⟨_, rfl, ?_⟩
   first | (simp only[push_cast,seval,h1] <;> rfl) | rfl
  ·simp only[push_cast,seval,h1] <;> rfl
  ·simp only[push_cast,seval,h1] <;> rfl
 obtain ⟨v1, h2, h⟩ := F_bd h
 simp only[push_cast,seval,h1]
 refine call_flat (by rfl) (c_merkle_split N _ _ h2) ?_ rfl ?_
 ·simp only[push_cast,seval,h1] <;> rfl
 obtain ⟨v2, h3, h⟩ := F_bd h
 simp only[push_cast,seval,h1]
 refine callE_of [.B 2] (by rfl) (c_merkle_path_last N _ _ h3) (by decide) rfl (by simp only[push_cast,seval] <;> rfl) (by simp only[push_cast,seval] <;> rfl) ?_ ?_ ?_
 ·simp only[push_cast,seval,h1] <;> rfl
 ·simp only[push_cast,seval,h1] <;> rfl
 rcases F_if h with ⟨h4, h⟩ | ⟨h4, h⟩
 ·simp only[push_cast,seval,h1,h4]
  refine regS_of true [.B 3, .O 1] (by rfl) ?_
  obtain ⟨v3, h5, h⟩ := F_bd h
  simp only[push_cast,seval,h1,h4]
  refine callE_of [.B 0, .B 1, .B 2, .B 3] (by rfl) (ih _ _ _ _ _ h5) (by decide) rfl (by simp only[push_cast,seval] <;> rfl) (by simp only[push_cast,seval] <;> rfl) ?_ ?_ ?_
  ·simp only[push_cast,seval,h1,h4] <;> rfl
  ·simp only[push_cast,seval,h1,h4] <;> rfl
  obtain ⟨v4, h6, h⟩ := F_bd h
  simp only[push_cast,seval,h1,h4]
  refine call_flat (by rfl) (c_merkle_Node N _ _ _ h6) ?_ (by simp [AV.flat, AV.flatL, flatL_aI, flatL_app, DV.flat]) ?_
  ·simp only[push_cast,seval,h1,h4] <;> rfl
  obtain rfl := Option.some.inj h
  simp only[push_cast,seval,h1,h4]
  refine AEndW.of2 [] (.inr rfl) (by decide) ?_ ?_ ?_
  ·simp only[push_cast,seval,aret,aresults,aresult,h1,h4]
   refine ⟨_, rfl, ?_⟩
   first | (simp only[push_cast,seval,h1,h4] <;> rfl) | rfl
  ·simp only[push_cast,seval,h1,h4] <;> rfl
  ·simp only[push_cast,seval,h1,h4] <;> rfl
 simp only[push_cast,seval,h1,h4]
 refine regS_of true [.O 1, .B 3] (by rfl) ?_
 obtain ⟨h7, h⟩ := F_ck h
 try simp only[push_cast,seval] at h7
 obtain ⟨h8, h⟩ := F_ck h
 try simp only[push_cast,seval] at h8
 obtain ⟨v5, h9, h⟩ := F_bd h
 simp only[push_cast,seval,h1,h4,h7,h8]
 refine callE_of [.B 0, .B 1, .B 2, .B 3] (by rfl) (ih _ _ _ _ _ h9) (by decide) rfl (by simp only[push_cast,seval] <;> rfl) (by simp only[push_cast,seval] <;> rfl) ?_ ?_ ?_
 ·simp only[push_cast,seval,h1,h4,h7,h8] <;> rfl
 ·simp only[push_cast,seval,h1,h4,h7,h8] <;> rfl
 obtain ⟨v6, h10, h⟩ := F_bd h
 simp only[push_cast,seval,h1,h4,h7,h8]
 refine call_flat (by rfl) (c_merkle_Node N _ _ _ h10) ?_ (by simp [AV.flat, AV.flatL, flatL_aI, flatL_app, DV.flat]) ?_
 ·simp only[push_cast,seval,h1,h4,h7,h8] <;> rfl
 obtain rfl := Option.some.inj h
 simp only[push_cast,seval,h1,h4,h7,h8]
 refine AEndW.of2 [] (.inr rfl) (by decide) ?_ ?_ ?_
 ·simp only[push_cast,seval,aret,aresults,aresult,h1,h4,h7,h8]
  refine ⟨_, rfl, ?_⟩
  first | (simp only[push_cast,seval,h1,h4,h7,h8] <;> rfl) | rfl
 ·simp only[push_cast,seval,h1,h4,h7,h8] <;> rfl
 ·simp only[push_cast,seval,h1,h4,h7,h8] <;> rfl
theorem c_merkle_CheckInclusion_1 (N : Nat) (p0 : Int) (p1 : Int) (q0 : (Arr 16)) (q2 : Merklepath) (r : ((Arr 16) × Merklepath)) (h : F_merkle_CheckInclusion_1 N p0 p1 q0 q2 = some r) : ACall Tryd.prog 79 [.D (.I .i64 p0), .D (.I .i64 p1), .eptr (.B 0) 1 0 0, .ptr (.B 1) 0, .ptr (.B 3) 0] [some (.row true 1 (q0.l.map (rI .u8))), some (.box ([.ptr (.B 2) 0])), some (.box ([.D (.L (q2.l.map (rA .u8))), .D (.B q2.short)])), some (.box ([.clo 79 [.eptr (.B 0) 1 0 0, .ptr (.B 1) 0, .ptr (.B 3) 0]]))] (.agg (r.1.l.map (aI .u8))) [some (.row true 1 (q0.l.map (rI .u8))), some (.box ([.ptr (.B 2) 0])), some (.box ([.D (.L (r.2.l.map (rA .u8))), .D (.B r.2.short)])), some (.box ([.clo 79 [.eptr (.B 0) 1 0 0, .ptr (.B 1) 0, .ptr (.B 3) 0]]))] [] := c_merkle_CheckInclusion_1_r N N p0 p1 q0 q2 r h

def f75g0 : List RO := [o_ 4 (.mv (t_ 1)), o_ 5 (.mv (t_ 1)), o_ 6 (.nilc (t_ 5)), o_ 7 (.load .none (t_ 6)), o_ 8 (.mv (t_ 7)), ⟨(.some 9), (.mv (t_ 0)), (.some (8, .true))⟩, ⟨(.some 10), (.nilc (t_ 9)), (.some (8, .true))⟩, ⟨(.some 11), (.faddr 1 (t_ 10)), (.some (8, .true))⟩, ⟨(.some 12), (.load .none (t_ 11)), (.some (8, .true))⟩, ⟨(.some 13), (.un .not (t_ 12)), (.some (8, .true))⟩, o_ 14 (.pick (t_ 8) (t_ 13) (.const (.bool .false))), o_ 15 (.mv (t_ 14)), ⟨(.some 16), (.mv (t_ 0)), (.some (15, .true))⟩, ⟨(.some 17), (.nilc (t_ 16)), (.some (15, .true))⟩, ⟨(.some 18), (.faddr 0 (t_ 17)), (.some (15, .true))⟩, ⟨(.some 19), (.load .none (t_ 18)), (.some (15, .true))⟩, ⟨(.some 20), (.len .false (t_ 19)), (.some (15, .true))⟩, ⟨(.some 21), (.bin .eql (t_ 20) (.const (.int .i64 0))), (.some (15, .true))⟩, o_ 22 (.pick (t_ 15) (t_ 21) (.const (.bool .false))), o_ 23 (.nilc (t_ 4)), n_ (.store 1 (t_ 23) (t_ 22))]
def f75c : RCode := (.reg .false f75g0)
def f75r : List RRes := []
attribute [push_cast] f75g0
def F_merkle_path_settle_put (N : Nat) (q0 : Merklepath) (q1 : Bool) : Option Bool := if? (q1) (if? (q0.short) (some (false)) (some (((q0.l.length : Int) == 0)))) (some (false))
theorem d_merkle_path_settle_put (N : Nat) (q0 : Merklepath) (q1 : Bool) (r : Bool) (h : F_merkle_path_settle_put N q0 q1 = some r) : DCall Tryd.prog 75 [.ptr (.B 0) 0, .ptr (.B 1) 0] [some (.box ([.D (.L (q0.l.map (rA .u8))), .D (.B q0.short)])), some (.box ([.D (.B q1)]))] (.tup []) [some (.box ([.D (.L (q0.l.map (rA .u8))), .D (.B q0.short)])), some (.box ([.D (.B r)]))] [] := by
 refine DCall.of_bodyW [] (fn := Tryd.f75) (rc := f75c) (rs := f75r) Tryd.func75 rfl rfl (by kernel_rfl) (by kernel_rfl) (by kernel_rfl) (by rw [Tryd.ntmps75]; simp) ?_
 unfold F_merkle_path_settle_put at h
 unfold f75c f75r
 rw [entry_eq _ _]
 rcases F_if h with ⟨h1, h⟩ | ⟨h1, h⟩
 rotate_left
 ·obtain rfl := Option.some.inj h
  simp (disch:=first|assumption|(simp;done)|omega|(simp;omega)) only[push_cast,seval,h1]
  refine AEndW.of [] (.inl rfl) (by decide) rfl ?_ ?_ ?_
  ·simp (disch:=first|assumption|(simp;done)|omega|(simp;omega)) only[push_cast,seval,h1] <;> rfl
  ·simp (disch:=first|assumption|(simp;done)|omega|(simp;omega)) only[push_cast,seval,h1] <;> rfl
  ·simp (disch:=first|assumption|(simp;done)|omega|(simp;omega)) only[push_cast,seval,h1] <;> rfl
 rcases F_if h with ⟨h2, h⟩ | ⟨h2, h⟩
 ·obtain rfl := Option.some.inj h
  simp (disch:=first|assumption|(simp;done)|omega|(simp;omega)) only[push_cast,seval,h1,h2]
  refine AEndW.of [] (.inl rfl) (by decide) rfl ?_ ?_ ?_
  ·simp (disch:=first|assumption|(simp;done)|omega|(simp;omega)) only[push_cast,seval,h1,h2] <;> rfl
  ·simp (disch:=first|assumption|(simp;done)|omega|(simp;omega)) only[push_cast,seval,h1,h2] <;> rfl
  ·simp (disch:=first|assumption|(simp;done)|omega|(simp;omega)) only[push_cast,seval,h1,h2] <;> rfl
 obtain rfl := Option.some.inj h
 simp (disch:=first|assumption|(simp;done)|omega|(simp;omega)) only[push_cast,seval,h1,h2]
 refine AEndW.of [] (.inl rfl) (by decide) rfl ?_ ?_ ?_
 ·simp (disch:=first|assumption|(simp;done)|omega|(simp;omega)) only[push_cast,seval,h1,h2] <;> rfl
 ·simp (disch:=first|assumption|(simp;done)|omega|(simp;omega)) only[push_cast,seval,h1,h2] <;> rfl
 ·simp (disch:=first|assumption|(simp;done)|omega|(simp;omega)) only[push_cast,seval,h1,h2] <;> rfl

def f28g0 : List RO := [o_ 5 (.boxR (t_ 0)), o_ 9 (.boxR (t_ 4)), o_ 10 (.new [(.D (.B .false))])]
def f28g1 : List RO := [o_ 13 (.mv (t_ 2)), o_ 14 (.bin .lss (t_ 13) (.const (.int .i64 1))), o_ 15 (.mv (t_ 14)), ⟨(.some 16), (.mv (t_ 2)), (.some (15, .false))⟩, ⟨(.some 17), (.bin .gtr (t_ 16) (.const (.int .i64 1099511627776))), (.some (15, .false))⟩, o_ 18 (.pick (t_ 15) (.const (.bool .true)) (t_ 17)), o_ 19 (.mv (t_ 18)), ⟨(.some 20), (.mv (t_ 1)), (.some (19, .false))⟩, ⟨(.some 21), (.bin .lss (t_ 20) (.const (.int .i64 0))), (.some (19, .false))⟩, o_ 22 (.pick (t_ 19) (.const (.bool .true)) (t_ 21)), o_ 23 (.mv (t_ 22)), ⟨(.some 24), (.mv (t_ 1)), (.some (23, .false))⟩, ⟨(.some 25), (.mv (t_ 2)), (.some (23, .false))⟩, ⟨(.some 26), (.bin .geq (t_ 24) (t_ 25)), (.some (23, .false))⟩, o_ 27 (.pick (t_ 23) (.const (.bool .true)) (t_ 26))]
def f28g2 : List RO := [n_ (.store 1 (t_ 10) (.const (.bool .false)))]
def f28g3 : List RO := [o_ 28 (.mv (t_ 3)), o_ 29 (.build [(.fl []), (.D (.B .false))] [(0, (1, (t_ 28)))]), o_ 30 (.box (t_ 29)), o_ 11 (.new [(.D (.C (.pointer .none)))]), n_ (.store 1 (t_ 11) (t_ 30))]
def f28g4 : List RO := [o_ 31 (.load .none (t_ 11))]
def f28g5 : List RO := [o_ 12 (.new [(.D (.C .nilFunc))])]
def f28g6 : List RO := [o_ 32 (.mkf 79 [(t_ 5), (t_ 11), (t_ 12)]), n_ (.store 1 (t_ 12) (t_ 32))]
def f28g7 : List RO := [o_ 33 (.loadS .none (t_ 12)), o_ 34 (.mv (t_ 1)), o_ 35 (.mv (t_ 2)), o_ 36 (.callE (t_ 33) [(t_ 34), (t_ 35)]), o_ 37 (.loadS (.some 16) (t_ 9)), o_ 38 (.eqa .false .u8 16 (t_ 36) (t_ 37)), n_ (.store 1 (t_ 10) (t_ 38))]
def f28p0 : RCode := (.reg .false f28g0)
def f28p1 : RCode := (.seq (.reg .false f28g1) (.cond (t_ 27) (.seq (.reg .false f28g2) .ret) .skip))
def f28p2 : RCode := (.reg .false f28g3)
def f28c : RCode := (.seq (.reg .false f28g5) (.seq (.reg .false f28g6) (.seq (.regS f28g7) .ret)))
def f28r : List RRes := [(.cell .none 10)]
attribute [push_cast] f28g0 f28g1 f28g2 f28g3 f28g4 f28g5 f28g6 f28g7
def F_merkle_CheckInclusion (N : Nat) (p0 : (Arr 16)) (p1 : Int) (p2 : Int) (p3 : (List (Arr 16))) (p4 : (Arr 16)) : Option Bool := if? (decide (p2 < 1)) (some (false)) (if? (decide (p2 > 1099511627776)) (some (false)) (if? (decide (p1 < 0)) (some (false)) (if? (decide (p1 ≥ p2)) (some (false)) (bd? (F_merkle_CheckInclusion_1 N p1 p2 p0 (Merklepath.mk p3 false)) fun v1 => bd? (F_merkle_path_settle_put N v1.2 (v1.1.l == p4.l)) fun v2 => some (v2)))))
theorem c_merkle_CheckInclusion (N : Nat) (p0 : (Arr 16)) (p1 : Int) (p2 : Int) (p3 : (List (Arr 16))) (p4 : (Arr 16)) (r : Bool) (h : F_merkle_CheckInclusion N p0 p1 p2 p3 p4 = some r) : ACall Tryd.prog 28 [.agg (p0.l.map (aI .u8)), .D (.I .i64 p1), .D (.I .i64 p2), .D (.L (p3.map (rA .u8))), .agg (p4.l.map (aI .u8))] [] (.D (.B r)) [] [] := by
 refine ACall.of_bodyK [33, 36, 37] (fn := Tryd.f28) (rcs := [f28p0, f28p1, f28p2]) (ros := f28g4) (rc := f28c) (g := 75) (xs := [.tmp 31, .tmp 10]) (rs := f28r) (N := 39) Tryd.func28 rfl rfl (by kernel_rfl) (by kernel_rfl) (by kernel_rfl) Tryd.ntmps28 (by rw [Tryd.ntmps28]; simp) ?_
 unfold F_merkle_CheckInclusion at h
 unfold f28p0 f28p1 f28p2 f28c f28r
 rw [entry_eq _ _]
 rcases F_if h with ⟨h1, h⟩ | ⟨h1, h⟩
 ·obtain rfl := Option.some.inj h
  simp only[push_cast,seval,h1]
  refine e_ret (.inr rfl) ?_
  simp only[push_cast,seval,aret,aresults,aresult,h1]
  refine ⟨_, rfl, ?_⟩
  first | (simp only[push_cast,seval,h1] <;> rfl) | rfl
 rcases F_if h with ⟨h2, h⟩ | ⟨h2, h⟩
 ·obtain rfl := Option.some.inj h
  simp only[push_cast,seval,h1,h2]
  refine e_ret (.inr rfl) ?_
  simp only[push_cast,seval,aret,aresults,aresult,h1,h2]
  refine ⟨_, rfl, ?_⟩
  first | (simp only[push_cast,seval,h1,h2] <;> rfl) | rfl
 rcases F_if h with ⟨h3, h⟩ | ⟨h3, h⟩
 ·obtain rfl := Option.some.inj h
  simp only[push_cast,seval,h1,h2,h3]
  refine e_ret (.inr rfl) ?_
  simp only[push_cast,seval,aret,aresults,aresult,h1,h2,h3]
  refine ⟨_, rfl, ?_⟩
  first | (simp only[push_cast,seval,h1,h2,h3] <;> rfl) | rfl
 rcases F_if h with ⟨h4, h⟩ | ⟨h4, h⟩
 ·obtain rfl := Option.some.inj h
  simp only[push_cast,seval,h1,h2,h3,h4]
  refine e_ret (.inr rfl) ?_
  simp only[push_cast,seval,aret,aresults,aresult,h1,h2,h3,h4]
  refine ⟨_, rfl, ?_⟩
  first | (simp only[push_cast,seval,h1,h2,h3,h4] <;> rfl) | rfl
 simp only[push_cast,seval,h1,h2,h3,h4]
 refine regS_of true [.O 5, .O 1] (by rfl) ?_
 obtain ⟨v1, h5, h⟩ := F_bd h
 simp only[push_cast,seval,h1,h2,h3,h4]
 refine callE_of [.O 0, .O 4, .O 3, .O 5] (by rfl) (c_merkle_CheckInclusion_1 N _ _ _ _ _ h5) (by decide) rfl (by simp only[push_cast,seval] <;> rfl) (by simp only[push_cast,seval] <;> rfl) ?_ ?_ ?_
 ·simp only[push_cast,seval,h1,h2,h3,h4] <;> rfl
 ·simp only[push_cast,seval,h1,h2,h3,h4] <;> rfl
 obtain ⟨v2, h6, h⟩ := F_bd h
 simp only[push_cast,seval,h1,h2,h3,h4]
 refine DEnd.of [.O 3, .O 2] (.inr rfl) (d_merkle_path_settle_put N _ _ _ h6) (by decide) rfl ?_ ?_ ?_ ?_
 ·simp only[push_cast,seval,h1,h2,h3,h4] <;> rfl
 ·simp only[push_cast,seval,h1,h2,h3,h4] <;> rfl
 ·simp only[push_cast,seval,h1,h2,h3,h4] <;> rfl
 obtain rfl := Option.some.inj h
 simp only[push_cast,seval,h1,h2,h3,h4]
 refine e_ret (.inr rfl) ?_
 simp only[push_cast,seval,aret,aresults,aresult,h1,h2,h3,h4]
 refine ⟨_, rfl, ?_⟩
 first | (simp only[push_cast,seval,h1,h2,h3,h4] <;> rfl) | rfl

def f43g0 : List RO := [o_ 5 (.boxR (t_ 0)), o_ 9 (.box (t_ 4)), o_ 10 (.mv (.const (.bool .false)))]
def f43g1 : List RO := [o_ 11 (.faddr 1 (t_ 9)), o_ 12 (.load .none (t_ 11)), o_ 13 (.bin .gtr (t_ 12) (.const (.int .i64 1000))), o_ 14 (.mv (t_ 13)), ⟨(.some 15), (.mv (t_ 3)), (.some (14, .false))⟩, ⟨(.some 16), (.mv (t_ 1)), (.some (14, .false))⟩, ⟨(.some 17), (.mv (t_ 2)), (.some (14, .false))⟩, ⟨(.some 18), (.call (.func 88) [(t_ 15), (t_ 16), (t_ 17)]), (.some (14, .false))⟩, ⟨(.some 19), (.un .not (t_ 18)), (.some (14, .false))⟩, o_ 20 (.pick (t_ 14) (.const (.bool .true)) (t_ 19)), o_ 21 (.mv (t_ 20)), ⟨(.some 22), (.load (.some 16) (t_ 5)), (.some (21, .false))⟩, ⟨(.some 23), (.mv (t_ 1)), (.some (21, .false))⟩, ⟨(.some 24), (.mv (t_ 2)), (.some (21, .false))⟩, ⟨(.some 25), (.faddr 1 (t_ 9)), (.some (21, .false))⟩, ⟨(.some 26), (.load .none (t_ 25)), (.some (21, .false))⟩, ⟨(.some 27), (.faddr 2 (t_ 9)), (.some (21, .false))⟩, ⟨(.some 28), (.load (.some 16) (t_ 27)), (.some (21, .false))⟩, ⟨(.some 29), (.call (.func 90) [(t_ 23), (t_ 24), (t_ 26), (t_ 28)]), (.some (21, .false))⟩, ⟨(.some 30), (.eqa .true .u8 16 (t_ 22) (t_ 29)), (.some (21, .false))⟩, o_ 31 (.pick (t_ 21) (.const (.bool .true)) (t_ 30))]
def f43g2 : List RO := [o_ 10 (.mv (.const (.bool .false)))]
def f43g3 : List RO := [o_ 32 (.mv (t_ 3)), o_ 33 (.call (.func 17) [(t_ 32)]), o_ 34 (.faddr 0 (t_ 9)), o_ 35 (.load .none (t_ 34)), o_ 36 (.faddr 1 (t_ 9)), o_ 37 (.load .none (t_ 36)), o_ 38 (.faddr 18 (t_ 9)), o_ 39 (.load .none (t_ 38)), o_ 40 (.faddr 2 (t_ 9)), o_ 41 (.load (.some 16) (t_ 40)), o_ 42 (.call (.func 28) [(t_ 33), (t_ 35), (t_ 37), (t_ 39), (t_ 41)]), o_ 10 (.mv (t_ 42))]
def f43c : RCode := (.seq (.reg .false f43g0) (.seq (.seq (.reg .true f43g1) (.cond (t_ 31) (.seq (.reg .false f43g2) .ret) .skip)) (.seq (.reg .true f43g3) .ret)))
def f43r : List RRes := [(.tmp 10)]
attribute [push_cast] f43g0 f43g1 f43g2 f43g3
def F_leaf_Accept (N : Nat) (p0 : (Arr 16)) (p1 : Int) (p2 : Int) (p3 : Str) (p4 : Proof) : Option Bool := if? (decide (p4.Count > 1000)) (some (false)) (bd? (F_leaf_here N p3 p1 p2) fun v1 => if? (v1) (bd? (F_leaf_seal N p1 p2 p4.Count p4.Top) fun v2 => if? ((p0.l == v2.l)) (bd? (F_merkle_Leaf N p3) fun v3 => bd? (F_merkle_CheckInclusion N v3 p4.At p4.Count p4.Path p4.Top) fun v4 => some (v4)) (some (false))) (some (false)))
theorem c_leaf_Accept (N : Nat) (p0 : (Arr 16)) (p1 : Int) (p2 : Int) (p3 : Str) (p4 : Proof) (r : Bool) (h : F_leaf_Accept N p0 p1 p2 p3 p4 = some r) : ACall Tryd.prog 43 [.agg (p0.l.map (aI .u8)), .D (.I .i64 p1), .D (.I .i64 p2), .D (.S p3), .agg ([.D (.I .i64 p4.At), .D (.I .i64 p4.Count)] ++ ((p4.Top.l.map (aI .u8)) ++ ([.D (.L (p4.Path.map (rA .u8)))])))] [] (.D (.B r)) [] [] := by
 refine ACall.of_bodyW [] (fn := Tryd.f43) (rc := f43c) (rs := f43r) Tryd.func43 rfl rfl (by kernel_rfl) (by kernel_rfl) (by kernel_rfl) (by rw [Tryd.ntmps43]; simp) ?_
 unfold F_leaf_Accept at h
 unfold f43c f43r
 rw [entry_eq _ _]
 rcases F_if h with ⟨h1, h⟩ | ⟨h1, h⟩
 ·obtain rfl := Option.some.inj h
  simp only[push_cast,seval,h1]
  refine e_ret (.inr rfl) ?_
  simp only[push_cast,seval,aret,aresults,aresult,h1]
  refine ⟨_, rfl, ?_⟩
  first | (simp only[push_cast,seval,h1] <;> rfl) | rfl
 obtain ⟨v1, h2, h⟩ := F_bd h
 simp only[push_cast,seval,h1]
 refine call_flat (by rfl) (c_leaf_here N _ _ _ _ h2) ?_ rfl ?_
 ·simp only[push_cast,seval,h1] <;> rfl
 rcases F_if h with ⟨h3, h⟩ | ⟨h3, h⟩
 rotate_left
 ·obtain rfl := Option.some.inj h
  simp only[push_cast,seval,h1,h3]
  refine e_ret (.inr rfl) ?_
  simp only[push_cast,seval,aret,aresults,aresult,h1,h3]
  refine ⟨_, rfl, ?_⟩
  first | (simp only[push_cast,seval,h1,h3] <;> rfl) | rfl
 obtain ⟨v2, h4, h⟩ := F_bd h
 simp only[push_cast,seval,h1,h3]
 refine call_flat (by rfl) (c_leaf_seal N _ _ _ _ _ h4) ?_ (by simp [AV.flat, AV.flatL, flatL_aI, flatL_app, DV.flat]) ?_
 ·simp only[push_cast,seval,h1,h3] <;> rfl
 rcases F_if h with ⟨h5, h⟩ | ⟨h5, h⟩
 rotate_left
 ·obtain rfl := Option.some.inj h
  simp only[push_cast,seval,h1,h3,h5]
  refine e_ret (.inr rfl) ?_
  simp only[push_cast,seval,aret,aresults,aresult,h1,h3,h5]
  refine ⟨_, rfl, ?_⟩
  first | (simp only[push_cast,seval,h1,h3,h5] <;> rfl) | rfl
 obtain ⟨v3, h6, h⟩ := F_bd h
 simp only[push_cast,seval,h1,h3,h5]
 refine call_flat (by rfl) (c_merkle_Leaf N _ _ h6) ?_ (by simp [AV.flat, AV.flatL, flatL_aI, flatL_app, DV.flat]) ?_
 ·simp only[push_cast,seval,h1,h3,h5] <;> rfl
 obtain ⟨v4, h7, h⟩ := F_bd h
 simp only[push_cast,seval,h1,h3,h5]
 refine call_flat (by rfl) (c_merkle_CheckInclusion N _ _ _ _ _ _ h7) ?_ rfl ?_
 ·simp only[push_cast,seval,h1,h3,h5] <;> rfl
 obtain rfl := Option.some.inj h
 simp only[push_cast,seval,h1,h3,h5]
 refine e_ret (.inr rfl) ?_
 simp only[push_cast,seval,aret,aresults,aresult,h1,h3,h5]
 refine ⟨_, rfl, ?_⟩
 first | (simp only[push_cast,seval,h1,h3,h5] <;> rfl) | rfl

def f44g0 : List RO := [o_ 5 (.boxR (t_ 0)), o_ 9 (.box (t_ 4)), o_ 10 (.mv (.const (.bool .false)))]
def f44g1 : List RO := [o_ 13 (.faddr 0 (t_ 9)), o_ 14 (.load .none (t_ 13)), o_ 15 (.bin .lss (t_ 14) (.const (.int .i64 0))), o_ 16 (.mv (t_ 15)), ⟨(.some 17), (.faddr 0 (t_ 9)), (.some (16, .false))⟩, ⟨(.some 18), (.load .none (t_ 17)), (.some (16, .false))⟩, ⟨(.some 19), (.faddr 1 (t_ 9)), (.some (16, .false))⟩, ⟨(.some 20), (.load .none (t_ 19)), (.some (16, .false))⟩, ⟨(.some 21), (.bin .gtr (t_ 18) (t_ 20)), (.some (16, .false))⟩, o_ 22 (.pick (t_ 16) (.const (.bool .true)) (t_ 21)), o_ 23 (.mv (t_ 22)), ⟨(.some 24), (.faddr 1 (t_ 9)), (.some (23, .false))⟩, ⟨(.some 25), (.load .none (t_ 24)), (.some (23, .false))⟩, ⟨(.some 26), (.bin .gtr (t_ 25) (.const (.int .i64 1000))), (.some (23, .false))⟩, o_ 27 (.pick (t_ 23) (.const (.bool .true)) (t_ 26)), o_ 28 (.mv (t_ 27)), ⟨(.some 29), (.mv (t_ 3)), (.some (28, .false))⟩, ⟨(.some 30), (.mv (t_ 1)), (.some (28, .false))⟩, ⟨(.some 31), (.mv (t_ 2)), (.some (28, .false))⟩, ⟨(.some 32), (.call (.func 88) [(t_ 29), (t_ 30), (t_ 31)]), (.some (28, .false))⟩, ⟨(.some 33), (.un .not (t_ 32)), (.some (28, .false))⟩, o_ 34 (.pick (t_ 28) (.const (.bool .true)) (t_ 33)), o_ 35 (.mv (t_ 34)), ⟨(.some 36), (.load (.some 16) (t_ 5)), (.some (35, .false))⟩, ⟨(.some 37), (.mv (t_ 1)), (.some (35, .false))⟩, ⟨(.some 38), (.mv (t_ 2)), (.some (35, .false))⟩, ⟨(.some 39), (.faddr 1 (t_ 9)), (.some (35, .false))⟩, ⟨(.some 40), (.load .none (t_ 39)), (.some (35, .false))⟩, ⟨(.some 41), (.faddr 2 (t_ 9)), (.some (35, .false))⟩, ⟨(.some 42), (.load (.some 16) (t_ 41)), (.some (35, .false))⟩, ⟨(.some 43), (.call (.func 90) [(t_ 37), (t_ 38), (t_ 40), (t_ 42)]), (.some (35, .false))⟩, ⟨(.some 44), (.eqa .true .u8 16 (t_ 36) (t_ 43)), (.some (35, .false))⟩, o_ 45 (.pick (t_ 35) (.const (.bool .true)) (t_ 44))]
def f44g2 : List RO := [o_ 10 (.mv (.const (.bool .false)))]
def f44g3 : List RO := [o_ 46 (.faddr 1 (t_ 9)), o_ 47 (.load .none (t_ 46)), o_ 48 (.bin .eql (t_ 47) (.const (.int .i64 0))), o_ 49 (.mv (t_ 48)), ⟨(.some 50), (.faddr 2 (t_ 9)), (.some (49, .true))⟩, ⟨(.some 51), (.load (.some 16) (t_ 50)), (.some (49, .true))⟩, ⟨(.some 52), (.call (.func 18) [(.const (.slice .none 0 0))]), (.some (49, .true))⟩, ⟨(.some 53), (.eqa .true .u8 16 (t_ 51) (t_ 52)), (.some (49, .true))⟩, o_ 54 (.pick (t_ 49) (t_ 53) (.const (.bool .false)))]
def f44g4 : List RO := [o_ 10 (.mv (.const (.bool .false)))]
def f44g5 : List RO := [o_ 55 (.faddr 18 (t_ 9)), o_ 56 (.load .none (t_ 55)), o_ 57 (.bin .eql (t_ 56) (.const (.string ⟨#[]⟩))), o_ 58 (.mv (t_ 57)), ⟨(.some 59), (.faddr 20 (t_ 9)), (.some (58, .true))⟩, ⟨(.some 60), (.load .none (t_ 59)), (.some (58, .true))⟩, ⟨(.some 61), (.len .false (t_ 60)), (.some (58, .true))⟩, ⟨(.some 62), (.bin .eql (t_ 61) (.const (.int .i64 0))), (.some (58, .true))⟩, o_ 63 (.pick (t_ 58) (t_ 62) (.const (.bool .false))), o_ 64 (.faddr 19 (t_ 9)), o_ 65 (.load .none (t_ 64)), o_ 66 (.bin .eql (t_ 65) (.const (.string ⟨#[]⟩))), o_ 67 (.mv (t_ 66)), ⟨(.some 68), (.faddr 21 (t_ 9)), (.some (67, .true))⟩, ⟨(.some 69), (.load .none (t_ 68)), (.some (67, .true))⟩, ⟨(.some 70), (.len .false (t_ 69)), (.some (67, .true))⟩, ⟨(.some 71), (.bin .eql (t_ 70) (.const (.int .i64 0))), (.some (67, .true))⟩, o_ 72 (.pick (t_ 67) (t_ 71) (.const (.bool .false))), o_ 11 (.mv (t_ 63)), o_ 12 (.mv (t_ 72))]
def f44g6 : List RO := [o_ 73 (.faddr 0 (t_ 9)), o_ 74 (.load .none (t_ 73)), o_ 75 (.bin .gtr (t_ 74) (.const (.int .i64 0)))]
def f44g7 : List RO := [o_ 76 (.faddr 18 (t_ 9)), o_ 77 (.load .none (t_ 76)), o_ 78 (.mv (t_ 3)), o_ 79 (.bin .lss (t_ 77) (t_ 78)), o_ 80 (.mv (t_ 79)), ⟨(.some 81), (.faddr 18 (t_ 9)), (.some (80, .true))⟩, ⟨(.some 82), (.load .none (t_ 81)), (.some (80, .true))⟩, ⟨(.some 83), (.call (.func 17) [(t_ 82)]), (.some (80, .true))⟩, ⟨(.some 84), (.faddr 0 (t_ 9)), (.some (80, .true))⟩, ⟨(.some 85), (.load .none (t_ 84)), (.some (80, .true))⟩, ⟨(.some 86), (.bin .sub (t_ 85) (.const (.int .i64 1))), (.some (80, .true))⟩, ⟨(.some 87), (.faddr 1 (t_ 9)), (.some (80, .true))⟩, ⟨(.some 88), (.load .none (t_ 87)), (.some (80, .true))⟩, ⟨(.some 89), (.faddr 20 (t_ 9)), (.some (80, .true))⟩, ⟨(.some 90), (.load .none (t_ 89)), (.some (80, .true))⟩, ⟨(.some 91), (.faddr 2 (t_ 9)), (.some (80, .true))⟩, ⟨(.some 92), (.load (.some 16) (t_ 91)), (.some (80, .true))⟩, ⟨(.some 93), (.call (.func 28) [(t_ 83), (t_ 86), (t_ 88), (t_ 90), (t_ 92)]), (.some (80, .true))⟩, o_ 94 (.pick (t_ 80) (t_ 93) (.const (.bool .false))), o_ 11 (.mv (t_ 94))]
def f44g8 : List RO := [o_ 95 (.faddr 0 (t_ 9)), o_ 96 (.load .none (t_ 95)), o_ 97 (.faddr 1 (t_ 9)), o_ 98 (.load .none (t_ 97)), o_ 99 (.bin .lss (t_ 96) (t_ 98))]
def f44g9 : List RO := [o_ 100 (.mv (t_ 3)), o_ 101 (.faddr 19 (t_ 9)), o_ 102 (.load .none (t_ 101)), o_ 103 (.bin .lss (t_ 100) (t_ 102)), o_ 104 (.mv (t_ 103)), ⟨(.some 105), (.faddr 19 (t_ 9)), (.some (104, .true))⟩, ⟨(.some 106), (.load .none (t_ 105)), (.some (104, .true))⟩, ⟨(.some 107), (.call (.func 17) [(t_ 106)]), (.some (104, .true))⟩, ⟨(.some 108), (.faddr 0 (t_ 9)), (.some (104, .true))⟩, ⟨(.some 109), (.load .none (t_ 108)), (.some (104, .true))⟩, ⟨(.some 110), (.faddr 1 (t_ 9)), (.some (104, .true))⟩, ⟨(.some 111), (.load .none (t_ 110)), (.some (104, .true))⟩, ⟨(.some 112), (.faddr 21 (t_ 9)), (.some (104, .true))⟩, ⟨(.some 113), (.load .none (t_ 112)), (.some (104, .true))⟩, ⟨(.some 114), (.faddr 2 (t_ 9)), (.some (104, .true))⟩, ⟨(.some 115), (.load (.some 16) (t_ 114)), (.some (104, .true))⟩, ⟨(.some 116), (.call (.func 28) [(t_ 107), (t_ 109), (t_ 111), (t_ 113), (t_ 115)]), (.some (104, .true))⟩, o_ 117 (.pick (t_ 104) (t_ 116) (.const (.bool .false))), o_ 12 (.mv (t_ 117))]
def f44g10 : List RO := [o_ 118 (.mv (t_ 11)), o_ 119 (.mv (t_ 118)), ⟨(.some 120), (.mv (t_ 12)), (.some (119, .true))⟩, o_ 121 (.pick (t_ 119) (t_ 120) (.const (.bool .false))), o_ 10 (.mv (t_ 121))]
def f44c : RCode := (.seq (.reg .false f44g0) (.seq (.seq (.reg .true f44g1) (.cond (t_ 45) (.seq (.reg .false f44g2) .ret) .skip)) (.seq (.seq (.reg .true f44g3) (.cond (t_ 54) (.seq (.reg .false f44g4) .ret) .skip)) (.seq (.reg .true f44g5) (.seq (.seq (.reg .false f44g6) (.cond (t_ 75) (.reg .true f44g7) .skip)) (.seq (.seq (.reg .false f44g8) (.cond (t_ 99) (.reg .true f44g9) .skip)) (.seq (.reg .false f44g10) .ret)))))))
def f44r : List RRes := [(.tmp 10)]
attribute [push_cast] f44g0 f44g1 f44g2 f44g3 f44g4 f44g5 f44g6 f44g7 f44g8 f44g9 f44g10
def F_leaf_Denied (N : Nat) (p0 : (Arr 16)) (p1 : Int) (p2 : Int) (p3 : Str) (p4 : Absence) : Option Bool := gd? ((decide (p4.At < 0)) = false) (gd? ((decide (p4.At > p4.Count)) = false) (gd? ((decide (p4.Count > 1000)) = false) (bd? (F_leaf_here N p3 p1 p2) fun v1 => if? (v1) (bd? (F_leaf_seal N p1 p2 p4.Count p4.Top) fun v2 => if? ((p0.l == v2.l)) (if? ((p4.Count == 0)) (bd? (F_merkle_Root N []) fun v3 => gd? (((p4.Top.l == v3.l)) = true) (gd? (((p4.Before == ([] : Str))) = true) (gd? (((p4.After == ([] : Str))) = true) (gd? ((decide (p4.At > 0)) = false) (gd? ((decide (p4.At < p4.Count)) = false) (gd? ((((p4.Left.length : Int) == 0)) = true) (some (((p4.Right.length : Int) == 0))))))))) (if? ((p4.Before == ([] : Str))) (if? ((p4.After == ([] : Str))) (gd? ((decide (p4.At > 0)) = false) (gd? ((decide (p4.At < p4.Count)) = false) (gd? ((((p4.Left.length : Int) == 0)) = true) (some (((p4.Right.length : Int) == 0)))))) (gd? ((decide (p4.At > 0)) = false) (gd? ((decide (p4.At < p4.Count)) = true) (if? (Op.bytesLess p3 p4.After) (bd? (F_merkle_Leaf N p4.After) fun v4 => bd? (F_merkle_CheckInclusion N v4 p4.At p4.Count p4.Right p4.Top) fun v5 => gd? ((((p4.Left.length : Int) == 0)) = true) (some (v5))) (gd? ((((p4.Left.length : Int) == 0)) = true) (some (false))))))) (if? ((p4.After == ([] : Str))) (gd? ((decide (p4.At > 0)) = true) (gd? ((Op.bytesLess p4.Before p3) = true) (bd? (F_merkle_Leaf N p4.Before) fun v6 => ck .i64 (p4.At - 1) (bd? (F_merkle_CheckInclusion N v6 (p4.At - 1) p4.Count p4.Left p4.Top) fun v7 => gd? ((decide (p4.At < p4.Count)) = false) (gd? ((v7) = true) (some (((p4.Right.length : Int) == 0)))))))) (gd? ((decide (p4.At > 0)) = true) (gd? ((Op.bytesLess p4.Before p3) = true) (bd? (F_merkle_Leaf N p4.Before) fun v8 => ck .i64 (p4.At - 1) (bd? (F_merkle_CheckInclusion N v8 (p4.At - 1) p4.Count p4.Left p4.Top) fun v9 => gd? ((decide (p4.At < p4.Count)) = true) (if? (Op.bytesLess p3 p4.After) (bd? (F_merkle_Leaf N p4.After) fun v10 => bd? (F_merkle_CheckInclusion N v10 p4.At p4.Count p4.Right p4.Top) fun v11 => gd? ((v9) = true) (some (v11))) (gd? ((v9) = true) (some (false))))))))))) (some (false))) (some (false)))))
theorem c_leaf_Denied (N : Nat) (p0 : (Arr 16)) (p1 : Int) (p2 : Int) (p3 : Str) (p4 : Absence) (r : Bool) (h : F_leaf_Denied N p0 p1 p2 p3 p4 = some r) : ACall Tryd.prog 44 [.agg (p0.l.map (aI .u8)), .D (.I .i64 p1), .D (.I .i64 p2), .D (.S p3), .agg ([.D (.I .i64 p4.At), .D (.I .i64 p4.Count)] ++ ((p4.Top.l.map (aI .u8)) ++ ([.D (.S p4.Before), .D (.S p4.After), .D (.L (p4.Left.map (rA .u8))), .D (.L (p4.Right.map (rA .u8)))])))] [] (.D (.B r)) [] [] := by
 refine ACall.of_bodyW [] (fn := Tryd.f44) (rc := f44c) (rs := f44r) Tryd.func44 rfl rfl (by kernel_rfl) (by kernel_rfl) (by kernel_rfl) (by rw [Tryd.ntmps44]; simp) ?_
 unfold F_leaf_Denied at h
 unfold f44c f44r
 rw [entry_eq _ _]
 obtain ⟨h1, h⟩ := F_gd h
 obtain ⟨h2, h⟩ := F_gd h
 obtain ⟨h3, h⟩ := F_gd h
 obtain ⟨v1, h4, h⟩ := F_bd h
 simp only[push_cast,seval,h1,h2,h3]
 refine call_flat (by rfl) (c_leaf_here N _ _ _ _ h4) ?_ rfl ?_
 ·simp only[push_cast,seval,h1,h2,h3] <;> rfl
 rcases F_if h with ⟨h5, h⟩ | ⟨h5, h⟩
 rotate_left
 ·obtain rfl := Option.some.inj h
  simp only[push_cast,seval,h1,h2,h3,h5]
  refine e_ret (.inr rfl) ?_
  simp only[push_cast,seval,aret,aresults,aresult,h1,h2,h3,h5]
  refine ⟨_, rfl, ?_⟩
  first | (simp only[push_cast,seval,h1,h2,h3,h5] <;> rfl) | rfl
 obtain ⟨v2, h6, h⟩ := F_bd h
 simp only[push_cast,seval,h1,h2,h3,h5]
 refine call_flat (by rfl) (c_leaf_seal N _ _ _ _ _ h6) ?_ (by simp [AV.flat, AV.flatL, flatL_aI, flatL_app, DV.flat]) ?_
 ·simp only[push_cast,seval,h1,h2,h3,h5] <;> rfl
 rcases F_if h with ⟨h7, h⟩ | ⟨h7, h⟩
 rotate_left
 ·obtain rfl := Option.some.inj h
  simp only[push_cast,seval,h1,h2,h3,h5,h7]
  refine e_ret (.inr rfl) ?_
  simp only[push_cast,seval,aret,aresults,aresult,h1,h2,h3,h5,h7]
  refine ⟨_, rfl, ?_⟩
  first | (simp only[push_cast,seval,h1,h2,h3,h5,h7] <;> rfl) | rfl
 rcases F_if h with ⟨h8, h⟩ | ⟨h8, h⟩
 ·obtain ⟨v3, h9, h⟩ := F_bd h
  simp only[push_cast,seval,h1,h2,h3,h5,h7,h8]
  refine call_flat (by rfl) (c_merkle_Root N _ _ h9) ?_ (by simp [AV.flat, AV.flatL, flatL_aI, flatL_app, DV.flat]) ?_
  ·simp only[push_cast,seval,h1,h2,h3,h5,h7,h8] <;> rfl
  obtain ⟨h10, h⟩ := F_gd h
  obtain ⟨h11, h⟩ := F_gd h
  try simp only[push_cast,seval] at h11
  obtain ⟨h12, h⟩ := F_gd h
  try simp only[push_cast,seval] at h12
  obtain ⟨h13, h⟩ := F_gd h
  obtain ⟨h14, h⟩ := F_gd h
  obtain ⟨h15, h⟩ := F_gd h
  obtain rfl := Option.some.inj h
  simp only[push_cast,seval,h1,h2,h3,h5,h7,h8,h10,h11,h12,h13,h14,h15]
  refine e_ret (.inr rfl) ?_
  simp only[push_cast,seval,aret,aresults,aresult,h1,h2,h3,h5,h7,h8,h10,h11,h12,h13,h14,h15]
  refine ⟨_, rfl, ?_⟩
  first | (simp only[push_cast,seval,h1,h2,h3,h5,h7,h8,h10,h11,h12,h13,h14,h15] <;> rfl) | rfl
 rcases F_if h with ⟨h16, h⟩ | ⟨h16, h⟩
 ·try simp only[push_cast,seval] at h16
  rcases F_if h with ⟨h17, h⟩ | ⟨h17, h⟩
  ·try simp only[push_cast,seval] at h17
   obtain ⟨h18, h⟩ := F_gd h
   obtain ⟨h19, h⟩ := F_gd h
   obtain ⟨h20, h⟩ := F_gd h
   obtain rfl := Option.some.inj h
   simp only[push_cast,seval,h1,h2,h3,h5,h7,h8,h16,h17,h18,h19,h20]
   refine e_ret (.inr rfl) ?_
   simp only[push_cast,seval,aret,aresults,aresult,h1,h2,h3,h5,h7,h8,h16,h17,h18,h19,h20]
   refine ⟨_, rfl, ?_⟩
   first | (simp only[push_cast,seval,h1,h2,h3,h5,h7,h8,h16,h17,h18,h19,h20] <;> rfl) | rfl
  try simp only[push_cast,seval] at h17
  obtain ⟨h21, h⟩ := F_gd h
  obtain ⟨h22, h⟩ := F_gd h
  rcases F_if h with ⟨h23, h⟩ | ⟨h23, h⟩
  rotate_left
  ·obtain ⟨h24, h⟩ := F_gd h
   obtain rfl := Option.some.inj h
   simp only[push_cast,seval,h1,h2,h3,h5,h7,h8,h16,h17,h21,h22,h23,h24]
   refine e_ret (.inr rfl) ?_
   simp only[push_cast,seval,aret,aresults,aresult,h1,h2,h3,h5,h7,h8,h16,h17,h21,h22,h23,h24]
   refine ⟨_, rfl, ?_⟩
   first | (simp only[push_cast,seval,h1,h2,h3,h5,h7,h8,h16,h17,h21,h22,h23,h24] <;> rfl) | rfl
  obtain ⟨v4, h25, h⟩ := F_bd h
  simp only[push_cast,seval,h1,h2,h3,h5,h7,h8,h16,h17,h21,h22,h23]
  refine call_flat (by rfl) (c_merkle_Leaf N _ _ h25) ?_ (by simp [AV.flat, AV.flatL, flatL_aI, flatL_app, DV.flat]) ?_
  ·simp only[push_cast,seval,h1,h2,h3,h5,h7,h8,h16,h17,h21,h22,h23] <;> rfl
  obtain ⟨v5, h26, h⟩ := F_bd h
  simp only[push_cast,seval,h1,h2,h3,h5,h7,h8,h16,h17,h21,h22,h23]
  refine call_flat (by rfl) (c_merkle_CheckInclusion N _ _ _ _ _ _ h26) ?_ rfl ?_
  ·simp only[push_cast,seval,h1,h2,h3,h5,h7,h8,h16,h17,h21,h22,h23] <;> rfl
  obtain ⟨h27, h⟩ := F_gd h
  obtain rfl := Option.some.inj h
  simp only[push_cast,seval,h1,h2,h3,h5,h7,h8,h16,h17,h21,h22,h23,h27]
  refine e_ret (.inr rfl) ?_
  simp only[push_cast,seval,aret,aresults,aresult,h1,h2,h3,h5,h7,h8,h16,h17,h21,h22,h23,h27]
  refine ⟨_, rfl, ?_⟩
  first | (simp only[push_cast,seval,h1,h2,h3,h5,h7,h8,h16,h17,h21,h22,h23,h27] <;> rfl) | rfl
 try simp only[push_cast,seval] at h16
 rcases F_if h with ⟨h28, h⟩ | ⟨h28, h⟩
 ·try simp only[push_cast,seval] at h28
  obtain ⟨h29, h⟩ := F_gd h
  obtain ⟨h30, h⟩ := F_gd h
  obtain ⟨v6, h31, h⟩ := F_bd h
  simp only[push_cast,seval,h1,h2,h3,h5,h7,h8,h16,h28,h29,h30]
  refine call_flat (by rfl) (c_merkle_Leaf N _ _ h31) ?_ (by simp [AV.flat, AV.flatL, flatL_aI, flatL_app, DV.flat]) ?_
  ·simp only[push_cast,seval,h1,h2,h3,h5,h7,h8,h16,h28,h29,h30] <;> rfl
  obtain ⟨h32, h⟩ := F_ck h
  try simp only[push_cast,seval] at h32
  obtain ⟨v7, h33, h⟩ := F_bd h
  simp only[push_cast,seval,h1,h2,h3,h5,h7,h8,h16,h28,h29,h30,h32]
  refine call_flat (by rfl) (c_merkle_CheckInclusion N _ _ _ _ _ _ h33) ?_ rfl ?_
  ·simp only[push_cast,seval,h1,h2,h3,h5,h7,h8,h16,h28,h29,h30,h32] <;> rfl
  obtain ⟨h34, h⟩ := F_gd h
  obtain ⟨h35, h⟩ := F_gd h
  obtain rfl := Option.some.inj h
  simp only[push_cast,seval,h1,h2,h3,h5,h7,h8,h16,h28,h29,h30,h32,h34,h35]
  refine e_ret (.inr rfl) ?_
  simp only[push_cast,seval,aret,aresults,aresult,h1,h2,h3,h5,h7,h8,h16,h28,h29,h30,h32,h34,h35]
  refine ⟨_, rfl, ?_⟩
  first | (simp only[push_cast,seval,h1,h2,h3,h5,h7,h8,h16,h28,h29,h30,h32,h34,h35] <;> rfl) | rfl
 try simp only[push_cast,seval] at h28
 obtain ⟨h36, h⟩ := F_gd h
 obtain ⟨h37, h⟩ := F_gd h
 obtain ⟨v8, h38, h⟩ := F_bd h
 simp only[push_cast,seval,h1,h2,h3,h5,h7,h8,h16,h28,h36,h37]
 refine call_flat (by rfl) (c_merkle_Leaf N _ _ h38) ?_ (by simp [AV.flat, AV.flatL, flatL_aI, flatL_app, DV.flat]) ?_
 ·simp only[push_cast,seval,h1,h2,h3,h5,h7,h8,h16,h28,h36,h37] <;> rfl
 obtain ⟨h39, h⟩ := F_ck h
 try simp only[push_cast,seval] at h39
 obtain ⟨v9, h40, h⟩ := F_bd h
 simp only[push_cast,seval,h1,h2,h3,h5,h7,h8,h16,h28,h36,h37,h39]
 refine call_flat (by rfl) (c_merkle_CheckInclusion N _ _ _ _ _ _ h40) ?_ rfl ?_
 ·simp only[push_cast,seval,h1,h2,h3,h5,h7,h8,h16,h28,h36,h37,h39] <;> rfl
 obtain ⟨h41, h⟩ := F_gd h
 rcases F_if h with ⟨h42, h⟩ | ⟨h42, h⟩
 rotate_left
 ·obtain ⟨h43, h⟩ := F_gd h
  obtain rfl := Option.some.inj h
  simp only[push_cast,seval,h1,h2,h3,h5,h7,h8,h16,h28,h36,h37,h39,h41,h42,h43]
  refine e_ret (.inr rfl) ?_
  simp only[push_cast,seval,aret,aresults,aresult,h1,h2,h3,h5,h7,h8,h16,h28,h36,h37,h39,h41,h42,h43]
  refine ⟨_, rfl, ?_⟩
  first | (simp only[push_cast,seval,h1,h2,h3,h5,h7,h8,h16,h28,h36,h37,h39,h41,h42,h43] <;> rfl) | rfl
 obtain ⟨v10, h44, h⟩ := F_bd h
 simp only[push_cast,seval,h1,h2,h3,h5,h7,h8,h16,h28,h36,h37,h39,h41,h42]
 refine call_flat (by rfl) (c_merkle_Leaf N _ _ h44) ?_ (by simp [AV.flat, AV.flatL, flatL_aI, flatL_app, DV.flat]) ?_
 ·simp only[push_cast,seval,h1,h2,h3,h5,h7,h8,h16,h28,h36,h37,h39,h41,h42] <;> rfl
 obtain ⟨v11, h45, h⟩ := F_bd h
 simp only[push_cast,seval,h1,h2,h3,h5,h7,h8,h16,h28,h36,h37,h39,h41,h42]
 refine call_flat (by rfl) (c_merkle_CheckInclusion N _ _ _ _ _ _ h45) ?_ rfl ?_
 ·simp only[push_cast,seval,h1,h2,h3,h5,h7,h8,h16,h28,h36,h37,h39,h41,h42] <;> rfl
 obtain ⟨h46, h⟩ := F_gd h
 obtain rfl := Option.some.inj h
 simp only[push_cast,seval,h1,h2,h3,h5,h7,h8,h16,h28,h36,h37,h39,h41,h42,h46]
 refine e_ret (.inr rfl) ?_
 simp only[push_cast,seval,aret,aresults,aresult,h1,h2,h3,h5,h7,h8,h16,h28,h36,h37,h39,h41,h42,h46]
 refine ⟨_, rfl, ?_⟩
 first | (simp only[push_cast,seval,h1,h2,h3,h5,h7,h8,h16,h28,h36,h37,h39,h41,h42,h46] <;> rfl) | rfl

end Go.Proofs.Tryd
