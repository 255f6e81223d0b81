/- Printed by a program: what the functions compute, and that they do (part 1). -/
import Derived.Test.YtjhhgpencphgoaaDoorProg
import Derived.Test.YtjhhgpencphgoaaDoorE26b
import Derived.Test.YtjhhgpencphgoaaDoorGlb
import Derived.Test.YtjhhgpencphgoaaDoorE31
set_option linter.unusedSimpArgs false
set_option linter.unusedVariables false
set_option maxRecDepth 8000
namespace Go.Proofs.Tryd
open Go.Eng Go.RowKit
def kstr0 : Str := [0, 1, 2, 2, 3, 3, 3, 3, 4, 4, 4, 4, 4, 4, 4, 4, 5, 5, 5, 5, 5, 5, 5, 5, 5, 5, 5, 5, 5, 5, 5, 5, 6, 6, 6, 6, 6, 6, 6, 6, 6, 6, 6, 6, 6, 6, 6, 6, 6, 6, 6, 6, 6, 6, 6, 6, 6, 6, 6, 6, 6, 6, 6, 6, 7, 7, 7, 7, 7, 7, 7, 7, 7, 7, 7, 7, 7, 7, 7, 7, 7, 7, 7, 7, 7, 7, 7, 7, 7, 7, 7, 7, 7, 7, 7, 7, 7, 7, 7, 7, 7, 7, 7, 7, 7, 7, 7, 7, 7, 7, 7, 7, 7, 7, 7, 7, 7, 7, 7, 7, 7, 7, 7, 7, 7, 7, 7, 7, 8, 8, 8, 8, 8, 8, 8, 8, 8, 8, 8, 8, 8, 8, 8, 8, 8, 8, 8, 8, 8, 8, 8, 8, 8, 8, 8, 8, 8, 8, 8, 8, 8, 8, 8, 8, 8, 8, 8, 8, 8, 8, 8, 8, 8, 8, 8, 8, 8, 8, 8, 8, 8, 8, 8, 8, 8, 8, 8, 8, 8, 8, 8, 8, 8, 8, 8, 8, 8, 8, 8, 8, 8, 8, 8, 8, 8, 8, 8, 8, 8, 8, 8, 8, 8, 8, 8, 8, 8, 8, 8, 8, 8, 8, 8, 8, 8, 8, 8, 8, 8, 8, 8, 8, 8, 8, 8, 8, 8, 8, 8, 8, 8, 8, 8, 8, 8, 8, 8, 8, 8, 8, 8, 8, 8, 8, 8, 8]
structure HashStream where
  state : (Arr 8)
  block : (Arr 64)
  n : Int
  deriving DecidableEq, Inhabited
def HashStream.row (x : HashStream) : List DV := (x.state.l.map (DV.I .u32)) ++ ((x.block.l.map (DV.I .u8)) ++ ([.I .u64 x.n]))
theorem HashStream.uni {xs : List HashStream} : Uni 73 (xs.map HashStream.row) = True := uni_map (f := HashStream.row) fun x => by simp [HashStream.row, Arr.len]
theorem HashStream.one {xs : List HashStream} : oneL (xs.map HashStream.row) = true := one_map (f := HashStream.row) fun x => by simp [HashStream.row, List.all_append, all_I, DV.one]
attribute [push_cast] HashStream.row HashStream.uni HashStream.one
attribute [simp] HashStream.uni HashStream.one
structure Peaks where
  Size : Int
  Tops : (List (Arr 16))
  deriving DecidableEq, Inhabited
def Peaks.row (x : Peaks) : List DV := [.I .i64 x.Size, .L (x.Tops.map (rA .u8))]
theorem Peaks.uni {xs : List Peaks} : Uni 2 (xs.map Peaks.row) = True := uni_map (f := Peaks.row) fun _ => rfl
theorem Peaks.one {xs : List Peaks} : oneL (xs.map Peaks.row) = true := one_map (f := Peaks.row) fun _ => rfl
attribute [push_cast] Peaks.row Peaks.uni Peaks.one
attribute [simp] Peaks.uni Peaks.one
structure Merklepath where
  l : (List (Arr 16))
  short : Bool
  deriving DecidableEq, Inhabited
def Merklepath.row (x : Merklepath) : List DV := [.L (x.l.map (rA .u8)), .B x.short]
theorem Merklepath.uni {xs : List Merklepath} : Uni 2 (xs.map Merklepath.row) = True := uni_map (f := Merklepath.row) fun _ => rfl
theorem Merklepath.one {xs : List Merklepath} : oneL (xs.map Merklepath.row) = true := one_map (f := Merklepath.row) fun _ => rfl
attribute [push_cast] Merklepath.row Merklepath.uni Merklepath.one
attribute [simp] Merklepath.uni Merklepath.one
structure A2Arr16 where
  f0 : (Arr 16)
  f1 : (Arr 16)
  deriving DecidableEq, Inhabited
def A2Arr16.row (x : A2Arr16) : List DV := (x.f0.l.map (DV.I .u8)) ++ (x.f1.l.map (DV.I .u8))
theorem A2Arr16.uni {xs : List A2Arr16} : Uni 32 (xs.map A2Arr16.row) = True := uni_map (f := A2Arr16.row) fun x => by simp [A2Arr16.row, Arr.len]
theorem A2Arr16.one {xs : List A2Arr16} : oneL (xs.map A2Arr16.row) = true := one_map (f := A2Arr16.row) fun x => by simp [A2Arr16.row, List.all_append, all_I, DV.one]
attribute [push_cast] A2Arr16.row A2Arr16.uni A2Arr16.one
attribute [simp] A2Arr16.uni A2Arr16.one
def f116g0 : List RO := [o_ 0 (.newR (((Arr.zero 8).l.map (aI .u32)) ++ (((Arr.zero 64).l.map (aI .u8)) ++ [(.D (.I .u64 0))])))]
def f116g1 : List RO := [o_ 1 (.build [(.D (.I .u32 0)), (.D (.I .u32 0)), (.D (.I .u32 0)), (.D (.I .u32 0)), (.D (.I .u32 0)), (.D (.I .u32 0)), (.D (.I .u32 0)), (.D (.I .u32 0))] [(0, (1, (.const (.int .u32 1779033703)))), (1, (1, (.const (.int .u32 3144134277)))), (2, (1, (.const (.int .u32 1013904242)))), (3, (1, (.const (.int .u32 2773480762)))), (4, (1, (.const (.int .u32 1359893119)))), (5, (1, (.const (.int .u32 2600822924)))), (6, (1, (.const (.int .u32 528734635)))), (7, (1, (.const (.int .u32 1541459225))))]), o_ 2 (.build [(.D (.I .u32 0)), (.D (.I .u32 0)), (.D (.I .u32 0)), (.D (.I .u32 0)), (.D (.I .u32 0)), (.D (.I .u32 0)), (.D (.I .u32 0)), (.D (.I .u32 0)), (.D (.I .u8 0)), (.D (.I .u8 0)), (.D (.I .u8 0)), (.D (.I .u8 0)), (.D (.I .u8 0)), (.D (.I .u8 0)), (.D (.I .u8 0)), (.D (.I .u8 0)), (.D (.I .u8 0)), (.D (.I .u8 0)), (.D (.I .u8 0)), (.D (.I .u8 0)), (.D (.I .u8 0)), (.D (.I .u8 0)), (.D (.I .u8 0)), (.D (.I .u8 0)), (.D (.I .u8 0)), (.D (.I .u8 0)), (.D (.I .u8 0)), (.D (.I .u8 0)), (.D (.I .u8 0)), (.D (.I .u8 0)), (.D (.I .u8 0)), (.D (.I .u8 0)), (.D (.I .u8 0)), (.D (.I .u8 0)), (.D (.I .u8 0)), (.D (.I .u8 0)), (.D (.I .u8 0)), (.D (.I .u8 0)), (.D (.I .u8 0)), (.D (.I .u8 0)), (.D (.I .u8 0)), (.D (.I .u8 0)), (.D (.I .u8 0)), (.D (.I .u8 0)), (.D (.I .u8 0)), (.D (.I .u8 0)), (.D (.I .u8 0)), (.D (.I .u8 0)), (.D (.I .u8 0)), (.D (.I .u8 0)), (.D (.I .u8 0)), (.D (.I .u8 0)), (.D (.I .u8 0)), (.D (.I .u8 0)), (.D (.I .u8 0)), (.D (.I .u8 0)), (.D (.I .u8 0)), (.D (.I .u8 0)), (.D (.I .u8 0)), (.D (.I .u8 0)), (.D (.I .u8 0)), (.D (.I .u8 0)), (.D (.I .u8 0)), (.D (.I .u8 0)), (.D (.I .u8 0)), (.D (.I .u8 0)), (.D (.I .u8 0)), (.D (.I .u8 0)), (.D (.I .u8 0)), (.D (.I .u8 0)), (.D (.I .u8 0)), (.D (.I .u8 0)), (.D (.I .u64 0))] [(0, (8, (t_ 1)))]), n_ (.store 73 (t_ 0) (t_ 2))]
def f116c : RCode := (.seq (.reg .false f116g0) (.seq (.reg .false f116g1) .ret))
def f116r : List RRes := [(.cell (.some 73) 0)]
attribute [push_cast] f116g0 f116g1
def F_hash_Begin (N : Nat) : Option HashStream := some ((HashStream.mk (Arr.of [1779033703, 3144134277, 1013904242, 2773480762, 1359893119, 2600822924, 528734635, 1541459225] rfl) (Arr.zero 64) 0))
theorem c_hash_Begin (N : Nat) (r : HashStream) (h : F_hash_Begin N = some r) : ACall Tryd.prog 116 [] [] (.agg ((r.state.l.map (aI .u32)) ++ ((r.block.l.map (aI .u8)) ++ ([.D (.I .u64 r.n)])))) [] [] := by
  refine ACall.of_bodyW [] (fn := Tryd.f116) (rc := f116c) (rs := f116r) Tryd.func116 rfl rfl (by kernel_rfl) (by kernel_rfl) (by kernel_rfl) (by rw [Tryd.ntmps116]; simp) ?_
  unfold F_hash_Begin at h
  unfold f116c f116r
  rw [entry_eq _ _]
  obtain rfl := Option.some.inj h
  simp (disch := first | assumption | (simp; done) | omega | (simp; omega)) only [push_cast, seval]
  refine e_ret (.inr rfl) ?_
  simp (disch := first | assumption | (simp; done) | omega | (simp; omega)) only [push_cast, seval, aret, aresults, aresult]
  refine ⟨_, rfl, ?_⟩
  first | (simp (disch := first | assumption | (simp; done) | omega | (simp; omega)) only [push_cast, seval] <;> rfl) | rfl

def f165g0 : List RO := [o_ 4 (.mv (.const (.int .u32 0)))]
def f165g1 : List RO := [o_ 6 (.mv (t_ 1)), o_ 7 (.cvI .u64 (t_ 6)), o_ 8 (.bin .and (t_ 7) (.const (.int .u64 31))), o_ 5 (.mv (t_ 8))]
def f165g2 : List RO := [o_ 9 (.mv (t_ 0)), o_ 10 (.mv (t_ 5)), o_ 11 (.bin .shl (t_ 9) (t_ 10)), o_ 12 (.mv (t_ 0)), o_ 13 (.mv (t_ 5)), o_ 14 (.bin .sub (.const (.int .u64 32)) (t_ 13)), o_ 15 (.bin .shr (t_ 12) (t_ 14)), o_ 16 (.bin .or (t_ 11) (t_ 15)), o_ 4 (.mv (t_ 16))]
def f165c : RCode := (.seq (.reg .false f165g0) (.seq (.reg .false f165g1) (.seq (.reg .false f165g2) .ret)))
def f165r : List RRes := [(.tmp 4)]
attribute [push_cast] f165g0 f165g1 f165g2
def F_bits_RotateLeft32 (N : Nat) (p0 : Int) (p1 : Int) : Option Int := gd? (0 ≤ (bits .and .u64 (IntKind.wrap .u64 (p1)) 31)) (gd? ((bits .and .u64 (IntKind.wrap .u64 (p1)) 31) ≤ (IntKind.bits .u32 : Int)) (gd? (0 ≤ (IntKind.wrap .u64 (32 - (bits .and .u64 (IntKind.wrap .u64 (p1)) 31)))) (gd? ((IntKind.wrap .u64 (32 - (bits .and .u64 (IntKind.wrap .u64 (p1)) 31))) ≤ (IntKind.bits .u32 : Int)) (some ((bits .or .u32 (IntKind.wrap .u32 (p0 * 2 ^ (bits .and .u64 (IntKind.wrap .u64 (p1)) 31).toNat)) (p0 / 2 ^ (IntKind.wrap .u64 (32 - (bits .and .u64 (IntKind.wrap .u64 (p1)) 31))).toNat)))))))
theorem c_bits_RotateLeft32 (N : Nat) (p0 : Int) (p1 : Int) (r : Int) (h : F_bits_RotateLeft32 N p0 p1 = some r) : ACall Tryd.prog 165 [.D (.I .u32 p0), .D (.I .i64 p1)] [] (.D (.I .u32 r)) [] [] := by
  refine ACall.of_bodyW [] (fn := Tryd.f165) (rc := f165c) (rs := f165r) Tryd.func165 rfl rfl (by kernel_rfl) (by kernel_rfl) (by kernel_rfl) (by rw [Tryd.ntmps165]; simp) ?_
  unfold F_bits_RotateLeft32 at h
  unfold f165c f165r
  rw [entry_eq _ _]
  obtain ⟨h5, h⟩ := F_gd h
  try simp (disch := first | assumption | (simp; done) | omega | (simp; omega)) only [push_cast, seval] at h5
  obtain ⟨h6, h⟩ := F_gd h
  try simp (disch := first | assumption | (simp; done) | omega | (simp; omega)) only [push_cast, seval] at h6
  obtain ⟨h7, h⟩ := F_gd h
  try simp (disch := first | assumption | (simp; done) | omega | (simp; omega)) only [push_cast, seval] at h7
  obtain ⟨h8, h⟩ := F_gd h
  try simp (disch := first | assumption | (simp; done) | omega | (simp; omega)) only [push_cast, seval] at h8
  obtain rfl := Option.some.inj h
  simp (disch := first | assumption | (simp; done) | omega | (simp; omega)) only [push_cast, seval, h5, h6, h7, h8]
  refine e_ret (.inr rfl) ?_
  simp (disch := first | assumption | (simp; done) | omega | (simp; omega)) only [push_cast, seval, aret, aresults, aresult, h5, h6, h7, h8]
  refine ⟨_, rfl, ?_⟩
  first | (simp (disch := first | assumption | (simp; done) | omega | (simp; omega)) only [push_cast, seval, h5, h6, h7, h8] <;> rfl) | rfl

def f158g0 : List RO := [o_ 2 (.newR ((Arr.zero 64).l.map (aI .u32)))]
def f158g1 : List RO := [o_ 3 (.newR ((Arr.zero 64).l.map (aI .u32)))]
def f158g2 : List RO := [o_ 11 (.mv (.const (.int .i64 0)))]
def f158g3 : List RO := [o_ 12 (.bin .lss (t_ 11) (.const (.int .i64 64)))]
def f158g4 : List RO := [o_ 13 (.mv (t_ 11)), o_ 4 (.mv (t_ 13))]
def f158g5 : List RO := [o_ 14 (.mv (t_ 4)), o_ 15 (.bin .lss (t_ 14) (.const (.int .i64 16)))]
def f158g6 : List RO := [o_ 16 (.mv (t_ 0)), o_ 17 (.mv (t_ 4)), o_ 18 (.bin .mul (.const (.int .i64 4)) (t_ 17)), o_ 19 (.mv (t_ 4)), o_ 20 (.bin .mul (.const (.int .i64 4)) (t_ 19)), o_ 21 (.bin .add (t_ 20) (.const (.int .i64 4))), o_ 22 (.sll 1 (t_ 16) (.some (t_ 18)) (.some (t_ 21)) .none), o_ 23 (.len .false (t_ 22)), o_ 24 (.mv (.const (.int .i64 0)))]
def f158g7 : List RO := [o_ 25 (.bin .lss (t_ 24) (t_ 23))]
def f158g8 : List RO := [o_ 26 (.iaddr 1 (t_ 22) (t_ 24)), o_ 27 (.load .none (t_ 26)), o_ 6 (.mv (t_ 27))]
def f158g9 : List RO := [o_ 28 (.mv (t_ 4)), o_ 29 (.mv (t_ 4)), o_ 30 (.iaddrA 64 1 (t_ 3) (t_ 29)), o_ 31 (.load .none (t_ 30)), o_ 32 (.bin .shl (t_ 31) (.const (.int .u64 8))), o_ 33 (.mv (t_ 6)), o_ 34 (.cvI .u32 (t_ 33)), o_ 35 (.bin .or (t_ 32) (t_ 34)), o_ 36 (.iaddrA 64 1 (t_ 3) (t_ 28)), n_ (.store 1 (t_ 36) (t_ 35))]
def f158g10 : List RO := [o_ 37 (.bin .add (t_ 24) (.const (.int .i64 1))), o_ 24 (.mv (t_ 37))]
def f158b11 : RCode := (.seq (.reg .false f158g7) (.seq (.cond (t_ 25) .skip (.exit 2)) (.seq (.block 3 (.seq (.reg .false f158g8) (.reg .false f158g9))) (.reg .false f158g10))))
def f158g12 : List RO := [o_ 38 (.mv (t_ 4)), o_ 39 (.bin .sub (t_ 38) (.const (.int .i64 15))), o_ 40 (.iaddrA 64 1 (t_ 3) (t_ 39)), o_ 41 (.load .none (t_ 40)), o_ 42 (.mv (t_ 4)), o_ 43 (.bin .sub (t_ 42) (.const (.int .i64 2))), o_ 44 (.iaddrA 64 1 (t_ 3) (t_ 43)), o_ 45 (.load .none (t_ 44)), o_ 7 (.mv (t_ 41)), o_ 8 (.mv (t_ 45))]
def f158g13 : List RO := [o_ 46 (.mv (t_ 7)), o_ 47 (.call (.func 165) [(t_ 46), (.const (.int .i64 (-7)))]), o_ 48 (.mv (t_ 7)), o_ 49 (.call (.func 165) [(t_ 48), (.const (.int .i64 (-18)))]), o_ 50 (.bin .xor (t_ 47) (t_ 49)), o_ 51 (.mv (t_ 7)), o_ 52 (.bin .shr (t_ 51) (.const (.int .u64 3))), o_ 53 (.bin .xor (t_ 50) (t_ 52)), o_ 9 (.mv (t_ 53))]
def f158g14 : List RO := [o_ 54 (.mv (t_ 8)), o_ 55 (.call (.func 165) [(t_ 54), (.const (.int .i64 (-17)))]), o_ 56 (.mv (t_ 8)), o_ 57 (.call (.func 165) [(t_ 56), (.const (.int .i64 (-19)))]), o_ 58 (.bin .xor (t_ 55) (t_ 57)), o_ 59 (.mv (t_ 8)), o_ 60 (.bin .shr (t_ 59) (.const (.int .u64 10))), o_ 61 (.bin .xor (t_ 58) (t_ 60)), o_ 10 (.mv (t_ 61))]
def f158g15 : List RO := [o_ 62 (.mv (t_ 4)), o_ 63 (.mv (t_ 4)), o_ 64 (.bin .sub (t_ 63) (.const (.int .i64 16))), o_ 65 (.iaddrA 64 1 (t_ 3) (t_ 64)), o_ 66 (.load .none (t_ 65)), o_ 67 (.mv (t_ 9)), o_ 68 (.bin .add (t_ 66) (t_ 67)), o_ 69 (.mv (t_ 4)), o_ 70 (.bin .sub (t_ 69) (.const (.int .i64 7))), o_ 71 (.iaddrA 64 1 (t_ 3) (t_ 70)), o_ 72 (.load .none (t_ 71)), o_ 73 (.bin .add (t_ 68) (t_ 72)), o_ 74 (.mv (t_ 10)), o_ 75 (.bin .add (t_ 73) (t_ 74)), o_ 76 (.iaddrA 64 1 (t_ 3) (t_ 62)), n_ (.store 1 (t_ 76) (t_ 75))]
def f158g16 : List RO := [o_ 77 (.bin .add (t_ 11) (.const (.int .i64 1))), o_ 11 (.mv (t_ 77))]
def f158b17 : RCode := (.seq (.reg .false f158g3) (.seq (.cond (t_ 12) .skip (.exit 0)) (.seq (.block 1 (.seq (.reg .false f158g4) (.seq (.seq (.reg .false f158g5) (.cond (t_ 15) (.seq (.seq (.reg .false f158g6) (.block 2 (.loop f158b11))) (.exit 1)) .skip)) (.seq (.reg .true f158g12) (.seq (.reg .false f158g13) (.seq (.reg .false f158g14) (.reg .true f158g15))))))) (.reg .false f158g16))))
def f158g18 : List RO := [o_ 78 (.load (.some 64) (t_ 3)), n_ (.store 64 (t_ 2) (t_ 78))]
def f158c : RCode := (.seq (.reg .false f158g0) (.seq (.reg .false f158g1) (.seq (.seq (.reg .false f158g2) (.block 0 (.loop f158b17))) (.seq (.reg .false f158g18) .ret))))
def f158r : List RRes := [(.cell (.some 64) 2)]
attribute [push_cast] f158g0 f158g1 f158g2 f158g3 f158g4 f158g5 f158g6 f158g7 f158g8 f158g9 f158g10 f158g12 f158g13 f158g14 f158g15 f158g16 f158g18
def L_hash_schedule_1 (N : Nat) (k0 : Int → (Arr 64) → (Arr 64) → Option (Arr 64)) (p0 : (List Int)) (a1 : Int) (a2 : (Arr 64)) : Nat → Int → (Arr 64) → Option (Arr 64)
  | 0, _, _ => none
  | m2+1, a4, a5 => if? (decide (a4 < (((p0.drop (4 * a1).toNat).take (((4 * a1) + 4).toNat - (4 * a1).toNat)).length : Int))) (get? ((p0.drop (4 * a1).toNat).take (((4 * a1) + 4).toNat - (4 * a1).toNat)) (a4) fun x6 => gd? (0 ≤ a1) (gd? (a1 < 64) (get? a5.l (a1) fun x7 => ck .i64 (a4 + 1) (L_hash_schedule_1 N k0 p0 a1 a2 m2 (a4 + 1) (a5.set a1.toNat (bits .or .u32 (IntKind.wrap .u32 (x7 * 2 ^ (8 : Int).toNat)) (IntKind.wrap .u32 (x6)))))))) (ck .i64 (a1 + 1) (k0 (a1 + 1) a2 a5))
def I_hash_schedule_1 (N : Nat) (k0 : Int → (Arr 64) → (Arr 64) → Option (Arr 64)) (p0 : (List Int)) (a1 : Int) (a2 : (Arr 64)) (r : (Arr 64)) (n : Nat) (s : AState) : Prop := ∃ (a4 : Int) (a5 : (Arr 64)), L_hash_schedule_1 N k0 p0 a1 a2 n a4 a5 = some r ∧ s = ⟨envL [(0, .D (.L (p0.map (rI .u8)))), (2, .eptr (.O 0) 1 0 0), (3, .eptr (.O 1) 1 0 0), (4, .D (.I .i64 a1)), (11, .D (.I .i64 a1)), (22, .D (.L (((p0.drop (4 * a1).toNat).take (((4 * a1) + 4).toNat - (4 * a1).toNat)).map (rI .u8)))), (23, .D (.I .i64 (((p0.drop (4 * a1).toNat).take (((4 * a1) + 4).toNat - (4 * a1).toNat)).length : Int))), (24, .D (.I .i64 a4))], ownL [], ownL [some (.row true 1 (a2.l.map (rI .u32))), some (.row true 1 (a5.l.map (rI .u32)))], 2⟩
def L_hash_schedule_0 (N : Nat) (p0 : (List Int)) : Nat → Int → (Arr 64) → (Arr 64) → Option (Arr 64)
  | 0, _, _, _ => none
  | m1+1, a1, a2, a3 => if? (decide (a1 < 64)) (if? (decide (a1 < 16)) (ck .i64 (4 * a1) (ck .i64 ((4 * a1) + 4) (gd? (0 ≤ (4 * a1)) (gd? (0 ≤ ((4 * a1) + 4)) (gd? ((4 * a1).toNat ≤ ((4 * a1) + 4).toNat) (gd? (((4 * a1) + 4).toNat ≤ p0.length) (L_hash_schedule_1 N (L_hash_schedule_0 N p0 m1) p0 a1 a2 N 0 a3))))))) (ck .i64 (a1 - 15) (gd? (0 ≤ (a1 - 15)) (gd? ((a1 - 15) < 64) (get? a3.l ((a1 - 15)) fun x8 => ck .i64 (a1 - 2) (gd? (0 ≤ (a1 - 2)) (gd? ((a1 - 2) < 64) (get? a3.l ((a1 - 2)) fun x9 => bd? (F_bits_RotateLeft32 N x8 (-7)) fun v10 => bd? (F_bits_RotateLeft32 N x8 (-18)) fun v11 => bd? (F_bits_RotateLeft32 N x9 (-17)) fun v12 => bd? (F_bits_RotateLeft32 N x9 (-19)) fun v13 => ck .i64 (a1 - 16) (gd? (0 ≤ (a1 - 16)) (gd? ((a1 - 16) < 64) (get? a3.l ((a1 - 16)) fun x14 => ck .i64 (a1 - 7) (gd? (0 ≤ (a1 - 7)) (gd? ((a1 - 7) < 64) (get? a3.l ((a1 - 7)) fun x15 => gd? (0 ≤ a1) (gd? (a1 < 64) (ck .i64 (a1 + 1) (L_hash_schedule_0 N p0 m1 (a1 + 1) a2 (a3.set a1.toNat (IntKind.wrap .u32 ((IntKind.wrap .u32 ((IntKind.wrap .u32 (x14 + (bits .xor .u32 (bits .xor .u32 v10 v11) (x8 / 2 ^ (3 : Int).toNat)))) + x15)) + (bits .xor .u32 (bits .xor .u32 v12 v13) (x9 / 2 ^ (10 : Int).toNat)))))))))))))))))))))) (some (a3))
def I_hash_schedule_0 (N : Nat) (p0 : (List Int)) (r : (Arr 64)) (n : Nat) (s : AState) : Prop := ∃ (a1 : Int) (a2 : (Arr 64)) (a3 : (Arr 64)), L_hash_schedule_0 N p0 n a1 a2 a3 = some r ∧ s = ⟨envL [(0, .D (.L (p0.map (rI .u8)))), (2, .eptr (.O 0) 1 0 0), (3, .eptr (.O 1) 1 0 0), (11, .D (.I .i64 a1))], ownL [], ownL [some (.row true 1 (a2.l.map (rI .u32))), some (.row true 1 (a3.l.map (rI .u32)))], 2⟩
def F_hash_schedule (N : Nat) (p0 : (List Int)) : Option (Arr 64) := L_hash_schedule_0 N p0 N 0 (Arr.zero 64) (Arr.zero 64)
theorem c_hash_schedule (N : Nat) (p0 : (List Int)) (r : (Arr 64)) (h : F_hash_schedule N p0 = some r) : ACall Tryd.prog 158 [.D (.L (p0.map (rI .u8)))] [] (.agg (r.l.map (aI .u32))) [] [] := by
  refine ACall.of_bodyW [] (fn := Tryd.f158) (rc := f158c) (rs := f158r) Tryd.func158 rfl rfl (by kernel_rfl) (by kernel_rfl) (by kernel_rfl) (by rw [Tryd.ntmps158]; simp) ?_
  unfold F_hash_schedule at h
  unfold f158c f158r
  rw [entry_eq _ _]
  simp (disch := first | assumption | (simp; done) | omega | (simp; omega)) only [push_cast, seval]
  refine loop_of (I_hash_schedule_0 N p0 _) N [0, 2, 3, 11] [0, 1] (by decide) ⟨0, (Arr.zero 64), (Arr.zero 64), h, ?_⟩ ?_
  · rw [wk_mk]
    simp (disch := first | assumption | (simp; done) | omega | (simp; omega)) only [push_cast, seval] <;> rfl
  rintro n s ⟨a1, a2, a3, h, rfl⟩
  rcases n with _ | m1
  · exact absurd h (by simp [L_hash_schedule_0])
  rw [L_hash_schedule_0] at h
  unfold f158b17
  rcases F_if h with ⟨h67, h⟩ | ⟨h67, h⟩
  rotate_left
  · obtain rfl := Option.some.inj h
    simp (disch := first | assumption | (simp; done) | omega | (simp; omega)) only [push_cast, seval, h67]
    refine e_ret (.inr rfl) ?_
    simp (disch := first | assumption | (simp; done) | omega | (simp; omega)) only [push_cast, seval, aret, aresults, aresult, h67]
    refine ⟨_, rfl, ?_⟩
    first | (simp (disch := first | assumption | (simp; done) | omega | (simp; omega)) only [push_cast, seval, h67] <;> rfl) | rfl
  rcases F_if h with ⟨h68, h⟩ | ⟨h68, h⟩
  · obtain ⟨h69, h⟩ := F_ck h
    try simp (disch := first | assumption | (simp; done) | omega | (simp; omega)) only [push_cast, seval] at h69
    obtain ⟨h70, h⟩ := F_ck h
    try simp (disch := first | assumption | (simp; done) | omega | (simp; omega)) only [push_cast, seval] at h70
    obtain ⟨h71, h⟩ := F_gd h
    try simp (disch := first | assumption | (simp; done) | omega | (simp; omega)) only [push_cast, seval] at h71
    obtain ⟨h72, h⟩ := F_gd h
    try simp (disch := first | assumption | (simp; done) | omega | (simp; omega)) only [push_cast, seval] at h72
    obtain ⟨h73, h⟩ := F_gd h
    try simp (disch := first | assumption | (simp; done) | omega | (simp; omega)) only [push_cast, seval] at h73
    obtain ⟨h74, h⟩ := F_gd h
    try simp (disch := first | assumption | (simp; done) | omega | (simp; omega)) only [push_cast, seval] at h74
    simp (disch := first | assumption | (simp; done) | omega | (simp; omega)) only [push_cast, seval, h67, h68, h69, h70, h71, h72, h73, h74]
    refine loop_of (I_hash_schedule_1 N (L_hash_schedule_0 N p0 m1) p0 a1 a2 _) N [0, 2, 3, 4, 11, 22, 23, 24] [0, 1] (by decide) ⟨0, a3, h, ?_⟩ ?_
    · rw [wk_mk]
      simp (disch := first | assumption | (simp; done) | omega | (simp; omega)) only [push_cast, seval, h67, h68, h69, h70, h71, h72, h73, h74] <;> rfl
    rintro n s ⟨a4, a5, h, rfl⟩
    rcases n with _ | m2
    · exact absurd h (by simp [L_hash_schedule_1])
    rw [L_hash_schedule_1] at h
    unfold f158b11
    rcases F_if h with ⟨h75, h⟩ | ⟨h75, h⟩
    rotate_left
    · try simp (disch := first | assumption | (simp; done) | omega | (simp; omega)) only [push_cast, seval] at h75
      obtain ⟨h88, h⟩ := F_ck h
      try simp (disch := first | assumption | (simp; done) | omega | (simp; omega)) only [push_cast, seval] at h88
      simp (disch := first | assumption | (simp; done) | omega | (simp; omega)) only [push_cast, seval, h67, h68, h69, h70, h71, h72, h73, h74, h75, h88]
      refine lpK_of m1 [0, 2, 3, 11] [0, 1] (by omega) (by decide) ⟨(a1 + 1), a2, a5, (by first | exact h | simpa only [*] using h), ?_⟩
      rw [wk_mk]
      simp (disch := first | assumption | (simp; done) | omega | (simp; omega)) only [push_cast, seval, h67, h68, h69, h70, h71, h72, h73, h74, h75, h88] <;> rfl
    try simp (disch := first | assumption | (simp; done) | omega | (simp; omega)) only [push_cast, seval] at h75
    obtain ⟨x6, h76, h77, h⟩ := F_get h
    have h79 := get_lt h76 h77
    have h78 := map_get (rI .u8) h77
    try simp (disch := first | assumption | (simp; done) | omega | (simp; omega)) only [push_cast, seval] at h78
    try simp (disch := first | assumption | (simp; done) | omega | (simp; omega)) only [push_cast, seval] at h76
    try simp (disch := first | assumption | (simp; done) | omega | (simp; omega)) only [push_cast, seval] at h79
    obtain ⟨h80, h⟩ := F_gd h
    obtain ⟨h81, h⟩ := F_gd h
    obtain ⟨x7, h82, h83, h⟩ := F_get h
    have h85 := get_lt h82 h83
    have h84 := map_getG (rI .u32) h83
    try simp (disch := first | assumption | (simp; done) | omega | (simp; omega)) only [push_cast, seval] at h84
    have h86 := arr_get (rI .u32) a5 (i := a1.toNat) (by omega)
    try simp (disch := first | assumption | (simp; done) | omega | (simp; omega)) only [push_cast, seval] at h86
    obtain ⟨h87, h⟩ := F_ck h
    try simp (disch := first | assumption | (simp; done) | omega | (simp; omega)) only [push_cast, seval] at h87
    simp (disch := first | assumption | (simp; done) | omega | (simp; omega)) only [push_cast, seval, h67, h68, h69, h70, h71, h72, h73, h74, h75, h76, h78, h79, h80, h81, h82, h84, h85, h86, h87]
    refine lpK_of m2 [0, 2, 3, 4, 11, 22, 23, 24] [0, 1] (by omega) (by decide) ⟨(a4 + 1), (a5.set a1.toNat (bits .or .u32 (IntKind.wrap .u32 (x7 * 2 ^ (8 : Int).toNat)) (IntKind.wrap .u32 (x6)))), (by first | exact h | simpa only [*] using h), ?_⟩
    rw [wk_mk]
    simp (disch := first | assumption | (simp; done) | omega | (simp; omega)) only [push_cast, seval, h67, h68, h69, h70, h71, h72, h73, h74, h75, h76, h78, h79, h80, h81, h82, h84, h85, h86, h87] <;> rfl
  obtain ⟨h89, h⟩ := F_ck h
  try simp (disch := first | assumption | (simp; done) | omega | (simp; omega)) only [push_cast, seval] at h89
  obtain ⟨h90, h⟩ := F_gd h
  try simp (disch := first | assumption | (simp; done) | omega | (simp; omega)) only [push_cast, seval] at h90
  obtain ⟨h91, h⟩ := F_gd h
  try simp (disch := first | assumption | (simp; done) | omega | (simp; omega)) only [push_cast, seval] at h91
  obtain ⟨x8, h92, h93, h⟩ := F_get h
  have h95 := get_lt h92 h93
  have h94 := map_getG (rI .u32) h93
  try simp (disch := first | assumption | (simp; done) | omega | (simp; omega)) only [push_cast, seval] at h94
  try simp (disch := first | assumption | (simp; done) | omega | (simp; omega)) only [push_cast, seval] at h92
  try simp (disch := first | assumption | (simp; done) | omega | (simp; omega)) only [push_cast, seval] at h95
  obtain ⟨h96, h⟩ := F_ck h
  try simp (disch := first | assumption | (simp; done) | omega | (simp; omega)) only [push_cast, seval] at h96
  obtain ⟨h97, h⟩ := F_gd h
  try simp (disch := first | assumption | (simp; done) | omega | (simp; omega)) only [push_cast, seval] at h97
  obtain ⟨h98, h⟩ := F_gd h
  try simp (disch := first | assumption | (simp; done) | omega | (simp; omega)) only [push_cast, seval] at h98
  obtain ⟨x9, h99, h100, h⟩ := F_get h
  have h102 := get_lt h99 h100
  have h101 := map_getG (rI .u32) h100
  try simp (disch := first | assumption | (simp; done) | omega | (simp; omega)) only [push_cast, seval] at h101
  try simp (disch := first | assumption | (simp; done) | omega | (simp; omega)) only [push_cast, seval] at h99
  try simp (disch := first | assumption | (simp; done) | omega | (simp; omega)) only [push_cast, seval] at h102
  obtain ⟨v10, h103, h⟩ := F_bd h
  simp (disch := first | assumption | (simp; done) | omega | (simp; omega)) only [push_cast, seval, h67, h68, h89, h90, h91, h92, h94, h95, h96, h97, h98, h99, h101, h102]
  refine call_flat (by rfl) (c_bits_RotateLeft32 N _ _ _ h103) ?_ rfl ?_
  · simp (disch := first | assumption | (simp; done) | omega | (simp; omega)) only [push_cast, seval, h67, h68, h89, h90, h91, h92, h94, h95, h96, h97, h98, h99, h101, h102] <;> rfl
  obtain ⟨v11, h104, h⟩ := F_bd h
  simp (disch := first | assumption | (simp; done) | omega | (simp; omega)) only [push_cast, seval, h67, h68, h89, h90, h91, h92, h94, h95, h96, h97, h98, h99, h101, h102]
  refine call_flat (by rfl) (c_bits_RotateLeft32 N _ _ _ h104) ?_ rfl ?_
  · simp (disch := first | assumption | (simp; done) | omega | (simp; omega)) only [push_cast, seval, h67, h68, h89, h90, h91, h92, h94, h95, h96, h97, h98, h99, h101, h102] <;> rfl
  obtain ⟨v12, h105, h⟩ := F_bd h
  simp (disch := first | assumption | (simp; done) | omega | (simp; omega)) only [push_cast, seval, h67, h68, h89, h90, h91, h92, h94, h95, h96, h97, h98, h99, h101, h102]
  refine call_flat (by rfl) (c_bits_RotateLeft32 N _ _ _ h105) ?_ rfl ?_
  · simp (disch := first | assumption | (simp; done) | omega | (simp; omega)) only [push_cast, seval, h67, h68, h89, h90, h91, h92, h94, h95, h96, h97, h98, h99, h101, h102] <;> rfl
  obtain ⟨v13, h106, h⟩ := F_bd h
  simp (disch := first | assumption | (simp; done) | omega | (simp; omega)) only [push_cast, seval, h67, h68, h89, h90, h91, h92, h94, h95, h96, h97, h98, h99, h101, h102]
  refine call_flat (by rfl) (c_bits_RotateLeft32 N _ _ _ h106) ?_ rfl ?_
  · simp (disch := first | assumption | (simp; done) | omega | (simp; omega)) only [push_cast, seval, h67, h68, h89, h90, h91, h92, h94, h95, h96, h97, h98, h99, h101, h102] <;> rfl
  obtain ⟨h107, h⟩ := F_ck h
  try simp (disch := first | assumption | (simp; done) | omega | (simp; omega)) only [push_cast, seval] at h107
  obtain ⟨h108, h⟩ := F_gd h
  try simp (disch := first | assumption | (simp; done) | omega | (simp; omega)) only [push_cast, seval] at h108
  obtain ⟨h109, h⟩ := F_gd h
  try simp (disch := first | assumption | (simp; done) | omega | (simp; omega)) only [push_cast, seval] at h109
  obtain ⟨x14, h110, h111, h⟩ := F_get h
  have h113 := get_lt h110 h111
  have h112 := map_getG (rI .u32) h111
  try simp (disch := first | assumption | (simp; done) | omega | (simp; omega)) only [push_cast, seval] at h112
  try simp (disch := first | assumption | (simp; done) | omega | (simp; omega)) only [push_cast, seval] at h110
  try simp (disch := first | assumption | (simp; done) | omega | (simp; omega)) only [push_cast, seval] at h113
  obtain ⟨h114, h⟩ := F_ck h
  try simp (disch := first | assumption | (simp; done) | omega | (simp; omega)) only [push_cast, seval] at h114
  obtain ⟨h115, h⟩ := F_gd h
  try simp (disch := first | assumption | (simp; done) | omega | (simp; omega)) only [push_cast, seval] at h115
  obtain ⟨h116, h⟩ := F_gd h
  try simp (disch := first | assumption | (simp; done) | omega | (simp; omega)) only [push_cast, seval] at h116
  obtain ⟨x15, h117, h118, h⟩ := F_get h
  have h120 := get_lt h117 h118
  have h119 := map_getG (rI .u32) h118
  try simp (disch := first | assumption | (simp; done) | omega | (simp; omega)) only [push_cast, seval] at h119
  try simp (disch := first | assumption | (simp; done) | omega | (simp; omega)) only [push_cast, seval] at h117
  try simp (disch := first | assumption | (simp; done) | omega | (simp; omega)) only [push_cast, seval] at h120
  obtain ⟨h121, h⟩ := F_gd h
  obtain ⟨h122, h⟩ := F_gd h
  have h123 := arr_get (rI .u32) a3 (i := a1.toNat) (by omega)
  try simp (disch := first | assumption | (simp; done) | omega | (simp; omega)) only [push_cast, seval] at h123
  obtain ⟨h124, h⟩ := F_ck h
  try simp (disch := first | assumption | (simp; done) | omega | (simp; omega)) only [push_cast, seval] at h124
  simp (disch := first | assumption | (simp; done) | omega | (simp; omega)) only [push_cast, seval, h67, h68, h89, h90, h91, h92, h94, h95, h96, h97, h98, h99, h101, h102, h107, h108, h109, h110, h112, h113, h114, h115, h116, h117, h119, h120, h121, h122, h123, h124]
  refine lpK_of m1 [0, 2, 3, 11] [0, 1] (by omega) (by decide) ⟨(a1 + 1), a2, (a3.set a1.toNat (IntKind.wrap .u32 ((IntKind.wrap .u32 ((IntKind.wrap .u32 (x14 + (bits .xor .u32 (bits .xor .u32 v10 v11) (x8 / 2 ^ (3 : Int).toNat)))) + x15)) + (bits .xor .u32 (bits .xor .u32 v12 v13) (x9 / 2 ^ (10 : Int).toNat))))), (by first | exact h | simpa only [*] using h), ?_⟩
  rw [wk_mk]
  simp (disch := first | assumption | (simp; done) | omega | (simp; omega)) only [push_cast, seval, h67, h68, h89, h90, h91, h92, h94, h95, h96, h97, h98, h99, h101, h102, h107, h108, h109, h110, h112, h113, h114, h115, h116, h117, h119, h120, h121, h122, h123, h124] <;> rfl

def f159g0 : List RO := [o_ 8 (.mv (.const (.int .u32 0)))]
def f159g1 : List RO := [o_ 9 (.mv (t_ 0)), o_ 10 (.mv (t_ 1)), o_ 11 (.un .neg (t_ 10)), o_ 12 (.call (.func 165) [(t_ 9), (t_ 11)]), o_ 13 (.mv (t_ 0)), o_ 14 (.mv (t_ 2)), o_ 15 (.un .neg (t_ 14)), o_ 16 (.call (.func 165) [(t_ 13), (t_ 15)]), o_ 17 (.bin .xor (t_ 12) (t_ 16)), o_ 18 (.mv (t_ 0)), o_ 19 (.mv (t_ 3)), o_ 20 (.un .neg (t_ 19)), o_ 21 (.call (.func 165) [(t_ 18), (t_ 20)]), o_ 22 (.bin .xor (t_ 17) (t_ 21)), o_ 8 (.mv (t_ 22))]
def f159c : RCode := (.seq (.reg .false f159g0) (.seq (.reg .false f159g1) .ret))
def f159r : List RRes := [(.tmp 8)]
attribute [push_cast] f159g0 f159g1
def F_hash_mix (N : Nat) (p0 : Int) (p1 : Int) (p2 : Int) (p3 : Int) : Option Int := ck .i64 (-p1) (bd? (F_bits_RotateLeft32 N p0 (-p1)) fun v1 => ck .i64 (-p2) (bd? (F_bits_RotateLeft32 N p0 (-p2)) fun v2 => ck .i64 (-p3) (bd? (F_bits_RotateLeft32 N p0 (-p3)) fun v3 => some ((bits .xor .u32 (bits .xor .u32 v1 v2) v3)))))
theorem c_hash_mix (N : Nat) (p0 : Int) (p1 : Int) (p2 : Int) (p3 : Int) (r : Int) (h : F_hash_mix N p0 p1 p2 p3 = some r) : ACall Tryd.prog 159 [.D (.I .u32 p0), .D (.I .i64 p1), .D (.I .i64 p2), .D (.I .i64 p3)] [] (.D (.I .u32 r)) [] [] := by
  refine ACall.of_bodyW [] (fn := Tryd.f159) (rc := f159c) (rs := f159r) Tryd.func159 rfl rfl (by kernel_rfl) (by kernel_rfl) (by kernel_rfl) (by rw [Tryd.ntmps159]; simp) ?_
  unfold F_hash_mix at h
  unfold f159c f159r
  rw [entry_eq _ _]
  obtain ⟨h131, h⟩ := F_ck h
  try simp (disch := first | assumption | (simp; done) | omega | (simp; omega)) only [push_cast, seval] at h131
  obtain ⟨v1, h132, h⟩ := F_bd h
  simp (disch := first | assumption | (simp; done) | omega | (simp; omega)) only [push_cast, seval, h131]
  refine call_flat (by rfl) (c_bits_RotateLeft32 N _ _ _ h132) ?_ rfl ?_
  · simp (disch := first | assumption | (simp; done) | omega | (simp; omega)) only [push_cast, seval, h131] <;> rfl
  obtain ⟨h133, h⟩ := F_ck h
  try simp (disch := first | assumption | (simp; done) | omega | (simp; omega)) only [push_cast, seval] at h133
  obtain ⟨v2, h134, h⟩ := F_bd h
  simp (disch := first | assumption | (simp; done) | omega | (simp; omega)) only [push_cast, seval, h131, h133]
  refine call_flat (by rfl) (c_bits_RotateLeft32 N _ _ _ h134) ?_ rfl ?_
  · simp (disch := first | assumption | (simp; done) | omega | (simp; omega)) only [push_cast, seval, h131, h133] <;> rfl
  obtain ⟨h135, h⟩ := F_ck h
  try simp (disch := first | assumption | (simp; done) | omega | (simp; omega)) only [push_cast, seval] at h135
  obtain ⟨v3, h136, h⟩ := F_bd h
  simp (disch := first | assumption | (simp; done) | omega | (simp; omega)) only [push_cast, seval, h131, h133, h135]
  refine call_flat (by rfl) (c_bits_RotateLeft32 N _ _ _ h136) ?_ rfl ?_
  · simp (disch := first | assumption | (simp; done) | omega | (simp; omega)) only [push_cast, seval, h131, h133, h135] <;> rfl
  obtain rfl := Option.some.inj h
  simp (disch := first | assumption | (simp; done) | omega | (simp; omega)) only [push_cast, seval, h131, h133, h135]
  refine e_ret (.inr rfl) ?_
  simp (disch := first | assumption | (simp; done) | omega | (simp; omega)) only [push_cast, seval, aret, aresults, aresult, h131, h133, h135]
  refine ⟨_, rfl, ?_⟩
  first | (simp (disch := first | assumption | (simp; done) | omega | (simp; omega)) only [push_cast, seval, h131, h133, h135] <;> rfl) | rfl

def f144g0 : List RO := [o_ 2 (.boxR (t_ 0)), o_ 4 (.newR ((Arr.zero 8).l.map (aI .u32)))]
def f144g1 : List RO := [o_ 13 (.mv (t_ 1)), o_ 14 (.call (.func 158) [(t_ 13)]), o_ 5 (.newR ((Arr.zero 64).l.map (aI .u32))), n_ (.store 64 (t_ 5) (t_ 14))]
def f144g2 : List RO := [o_ 15 (.slsA 8 (t_ 2) .none (.some (.const (.int .i64 4)))), o_ 16 (.arrP 4 (t_ 15)), o_ 17 (.loadS (.some 4) (t_ 16)), o_ 18 (.slsA 8 (t_ 2) (.some (.const (.int .i64 4))) .none), o_ 19 (.arrP 4 (t_ 18)), o_ 20 (.loadS (.some 4) (t_ 19)), o_ 6 (.newR ((Arr.zero 4).l.map (aI .u32))), o_ 7 (.newR ((Arr.zero 4).l.map (aI .u32))), n_ (.store 4 (t_ 6) (t_ 17)), n_ (.store 4 (t_ 7) (t_ 20))]
def f144g3 : List RO := [o_ 21 (.load (.some 64) (.global 3)), o_ 22 (.mv (.const (.int .i64 0)))]
def f144g4 : List RO := [o_ 23 (.bin .lss (t_ 22) (.const (.int .i64 64)))]
def f144g5 : List RO := [o_ 24 (.mv (t_ 22)), o_ 25 (.idxA 64 1 .none (t_ 21) (t_ 22)), o_ 8 (.mv (t_ 24)), o_ 9 (.mv (t_ 25))]
def f144g6 : List RO := [o_ 26 (.iaddrA 4 1 (t_ 7) (.const (.int .i64 3))), o_ 27 (.load .none (t_ 26)), o_ 28 (.iaddrA 4 1 (t_ 7) (.const (.int .i64 0))), o_ 29 (.load .none (t_ 28)), o_ 30 (.call (.func 159) [(t_ 29), (.const (.int .i64 6)), (.const (.int .i64 11)), (.const (.int .i64 25))]), o_ 31 (.bin .add (t_ 27) (t_ 30)), o_ 32 (.iaddrA 4 1 (t_ 7) (.const (.int .i64 0))), o_ 33 (.load .none (t_ 32)), o_ 34 (.iaddrA 4 1 (t_ 7) (.const (.int .i64 1))), o_ 35 (.load .none (t_ 34)), o_ 36 (.bin .and (t_ 33) (t_ 35)), o_ 37 (.iaddrA 4 1 (t_ 7) (.const (.int .i64 0))), o_ 38 (.load .none (t_ 37)), o_ 39 (.un .xor (t_ 38)), o_ 40 (.iaddrA 4 1 (t_ 7) (.const (.int .i64 2))), o_ 41 (.load .none (t_ 40)), o_ 42 (.bin .and (t_ 39) (t_ 41)), o_ 43 (.bin .xor (t_ 36) (t_ 42)), o_ 44 (.bin .add (t_ 31) (t_ 43)), o_ 45 (.mv (t_ 9)), o_ 46 (.bin .add (t_ 44) (t_ 45)), o_ 47 (.mv (t_ 8)), o_ 48 (.iaddrA 64 1 (t_ 5) (t_ 47)), o_ 49 (.load .none (t_ 48)), o_ 50 (.bin .add (t_ 46) (t_ 49)), o_ 10 (.mv (t_ 50))]
def f144g7 : List RO := [o_ 51 (.iaddrA 4 1 (t_ 6) (.const (.int .i64 0))), o_ 52 (.load .none (t_ 51)), o_ 53 (.call (.func 159) [(t_ 52), (.const (.int .i64 2)), (.const (.int .i64 13)), (.const (.int .i64 22))]), o_ 54 (.iaddrA 4 1 (t_ 6) (.const (.int .i64 0))), o_ 55 (.load .none (t_ 54)), o_ 56 (.iaddrA 4 1 (t_ 6) (.const (.int .i64 1))), o_ 57 (.load .none (t_ 56)), o_ 58 (.bin .and (t_ 55) (t_ 57)), o_ 59 (.iaddrA 4 1 (t_ 6) (.const (.int .i64 0))), o_ 60 (.load .none (t_ 59)), o_ 61 (.iaddrA 4 1 (t_ 6) (.const (.int .i64 2))), o_ 62 (.load .none (t_ 61)), o_ 63 (.bin .and (t_ 60) (t_ 62)), o_ 64 (.bin .xor (t_ 58) (t_ 63)), o_ 65 (.iaddrA 4 1 (t_ 6) (.const (.int .i64 1))), o_ 66 (.load .none (t_ 65)), o_ 67 (.iaddrA 4 1 (t_ 6) (.const (.int .i64 2))), o_ 68 (.load .none (t_ 67)), o_ 69 (.bin .and (t_ 66) (t_ 68)), o_ 70 (.bin .xor (t_ 64) (t_ 69)), o_ 71 (.bin .add (t_ 53) (t_ 70)), o_ 11 (.mv (t_ 71))]
def f144g8 : List RO := [o_ 72 (.iaddrA 4 1 (t_ 6) (.const (.int .i64 3))), o_ 73 (.load .none (t_ 72)), o_ 74 (.mv (t_ 10)), o_ 75 (.bin .add (t_ 73) (t_ 74)), o_ 76 (.iaddrA 4 1 (t_ 7) (.const (.int .i64 0))), o_ 77 (.load .none (t_ 76)), o_ 78 (.iaddrA 4 1 (t_ 7) (.const (.int .i64 1))), o_ 79 (.load .none (t_ 78)), o_ 80 (.iaddrA 4 1 (t_ 7) (.const (.int .i64 2))), o_ 81 (.load .none (t_ 80)), o_ 82 (.build [(.D (.I .u32 0)), (.D (.I .u32 0)), (.D (.I .u32 0)), (.D (.I .u32 0))] [(0, (1, (t_ 75))), (1, (1, (t_ 77))), (2, (1, (t_ 79))), (3, (1, (t_ 81)))]), n_ (.store 4 (t_ 7) (t_ 82))]
def f144g9 : List RO := [o_ 83 (.mv (t_ 10)), o_ 84 (.mv (t_ 11)), o_ 85 (.bin .add (t_ 83) (t_ 84)), o_ 86 (.iaddrA 4 1 (t_ 6) (.const (.int .i64 0))), o_ 87 (.load .none (t_ 86)), o_ 88 (.iaddrA 4 1 (t_ 6) (.const (.int .i64 1))), o_ 89 (.load .none (t_ 88)), o_ 90 (.iaddrA 4 1 (t_ 6) (.const (.int .i64 2))), o_ 91 (.load .none (t_ 90)), o_ 92 (.build [(.D (.I .u32 0)), (.D (.I .u32 0)), (.D (.I .u32 0)), (.D (.I .u32 0))] [(0, (1, (t_ 85))), (1, (1, (t_ 87))), (2, (1, (t_ 89))), (3, (1, (t_ 91)))]), n_ (.store 4 (t_ 6) (t_ 92))]
def f144g10 : List RO := [o_ 93 (.bin .add (t_ 22) (.const (.int .i64 1))), o_ 22 (.mv (t_ 93))]
def f144b11 : RCode := (.seq (.reg .false f144g4) (.seq (.cond (t_ 23) .skip (.exit 0)) (.seq (.block 1 (.seq (.reg .false f144g5) (.seq (.reg .true f144g6) (.seq (.reg .true f144g7) (.seq (.reg .false f144g8) (.reg .false f144g9)))))) (.reg .false f144g10))))
def f144g12 : List RO := [o_ 94 (.mv (.const (.int .i64 0)))]
def f144g13 : List RO := [o_ 95 (.bin .lss (t_ 94) (.const (.int .i64 4)))]
def f144g14 : List RO := [o_ 96 (.mv (t_ 94)), o_ 12 (.mv (t_ 96))]
def f144g15 : List RO := [o_ 97 (.mv (t_ 12)), o_ 98 (.iaddrA 8 1 (t_ 2) (t_ 97)), o_ 99 (.load .none (t_ 98)), o_ 100 (.mv (t_ 12)), o_ 101 (.iaddrA 4 1 (t_ 6) (t_ 100)), o_ 102 (.load .none (t_ 101)), o_ 103 (.bin .add (t_ 99) (t_ 102)), o_ 104 (.iaddrA 8 1 (t_ 2) (t_ 97)), n_ (.store 1 (t_ 104) (t_ 103))]
def f144g16 : List RO := [o_ 105 (.mv (t_ 12)), o_ 106 (.bin .add (t_ 105) (.const (.int .i64 4))), o_ 107 (.iaddrA 8 1 (t_ 2) (t_ 106)), o_ 108 (.load .none (t_ 107)), o_ 109 (.mv (t_ 12)), o_ 110 (.iaddrA 4 1 (t_ 7) (t_ 109)), o_ 111 (.load .none (t_ 110)), o_ 112 (.bin .add (t_ 108) (t_ 111)), o_ 113 (.iaddrA 8 1 (t_ 2) (t_ 106)), n_ (.store 1 (t_ 113) (t_ 112))]
def f144g17 : List RO := [o_ 114 (.bin .add (t_ 94) (.const (.int .i64 1))), o_ 94 (.mv (t_ 114))]
def f144b18 : RCode := (.seq (.reg .false f144g13) (.seq (.cond (t_ 95) .skip (.exit 2)) (.seq (.block 3 (.seq (.reg .false f144g14) (.seq (.reg .true f144g15) (.reg .true f144g16)))) (.reg .false f144g17))))
def f144g19 : List RO := [o_ 115 (.load (.some 8) (t_ 2)), n_ (.store 8 (t_ 4) (t_ 115))]
def f144c : RCode := (.seq (.reg .false f144g0) (.seq (.reg .false f144g1) (.seq (.regS f144g2) (.seq (.seq (.reg .false f144g3) (.block 0 (.loop f144b11))) (.seq (.seq (.reg .false f144g12) (.block 2 (.loop f144b18))) (.seq (.reg .false f144g19) .ret))))))
def f144r : List RRes := [(.cell (.some 8) 4)]
attribute [push_cast] f144g0 f144g1 f144g2 f144g3 f144g4 f144g5 f144g6 f144g7 f144g8 f144g9 f144g10 f144g12 f144g13 f144g14 f144g15 f144g16 f144g17 f144g19
def L_hash_compress_1 (N : Nat) (a3 : (Arr 4)) (a4 : (Arr 4)) : Nat → Int → (Arr 8) → Option (Arr 8)
  | 0, _, _ => none
  | m3+1, a17, a18 => if? (decide (a17 < 4)) (gd? (0 ≤ a17) (gd? (a17 < 8) (get? a18.l (a17) fun x19 => gd? (a17 < 4) (get? a3.l (a17) fun x20 => ck .i64 (a17 + 4) (gd? (0 ≤ (a17 + 4)) (gd? ((a17 + 4) < 8) (get? ((a18.set a17.toNat (IntKind.wrap .u32 (x19 + x20))).l) ((a17 + 4)) fun x21 => get? a4.l (a17) fun x22 => ck .i64 (a17 + 1) (L_hash_compress_1 N a3 a4 m3 (a17 + 1) ((a18.set a17.toNat (IntKind.wrap .u32 (x19 + x20))).set (a17 + 4).toNat (IntKind.wrap .u32 (x21 + x22))))))))))) (some (a18))
def I_hash_compress_1 (N : Nat) (a3 : (Arr 4)) (a4 : (Arr 4)) (r : (Arr 8)) (n : Nat) (s : AState) : Prop := ∃ (a17 : Int) (a18 : (Arr 8)), L_hash_compress_1 N a3 a4 n a17 a18 = some r ∧ s = ⟨envL [(2, .eptr (.O 0) 1 0 0), (4, .eptr (.O 1) 1 0 0), (6, .eptr (.O 2) 1 0 0), (7, .eptr (.O 3) 1 0 0), (94, .D (.I .i64 a17))], ownL [], ownL [some (.row true 1 (a18.l.map (rI .u32))), some (.row true 1 ((Arr.zero 8).l.map (rI .u32))), some (.row true 1 (a3.l.map (rI .u32))), some (.row true 1 (a4.l.map (rI .u32)))], 4⟩
def L_hash_compress_0 (N : Nat) (p0 : (Arr 8)) (v1 : (Arr 64)) : Nat → Int → (Arr 4) → (Arr 4) → Option (Arr 8)
  | 0, _, _, _ => none
  | m1+1, a2, a3, a4 => if? (decide (a2 < 64)) (gd? (0 ≤ a2) (gd? (a2 < 64) (get? gA3.l (a2) fun x5 => get? a4.l (3) fun x6 => get? a4.l (0) fun x7 => bd? (F_hash_mix N x7 6 11 25) fun v8 => get? a4.l (1) fun x9 => get? a4.l (2) fun x10 => get? v1.l (a2) fun x11 => get? a3.l (0) fun x12 => bd? (F_hash_mix N x12 2 13 22) fun v13 => get? a3.l (1) fun x14 => get? a3.l (2) fun x15 => get? a3.l (3) fun x16 => ck .i64 (a2 + 1) (L_hash_compress_0 N p0 v1 m1 (a2 + 1) (Arr.of [(IntKind.wrap .u32 ((IntKind.wrap .u32 ((IntKind.wrap .u32 ((IntKind.wrap .u32 ((IntKind.wrap .u32 (x6 + v8)) + (bits .xor .u32 (bits .and .u32 x7 x9) (bits .and .u32 (bits .xor .u32 4294967295 x7) x10)))) + x5)) + x11)) + (IntKind.wrap .u32 (v13 + (bits .xor .u32 (bits .xor .u32 (bits .and .u32 x12 x14) (bits .and .u32 x12 x15)) (bits .and .u32 x14 x15)))))), x12, x14, x15] rfl) (Arr.of [(IntKind.wrap .u32 (x16 + (IntKind.wrap .u32 ((IntKind.wrap .u32 ((IntKind.wrap .u32 ((IntKind.wrap .u32 (x6 + v8)) + (bits .xor .u32 (bits .and .u32 x7 x9) (bits .and .u32 (bits .xor .u32 4294967295 x7) x10)))) + x5)) + x11)))), x7, x9, x10] rfl))))) (L_hash_compress_1 N a3 a4 N 0 p0)
def I_hash_compress_0 (N : Nat) (p0 : (Arr 8)) (v1 : (Arr 64)) (r : (Arr 8)) (n : Nat) (s : AState) : Prop := ∃ (a2 : Int) (a3 : (Arr 4)) (a4 : (Arr 4)), L_hash_compress_0 N p0 v1 n a2 a3 a4 = some r ∧ s = ⟨envL [(2, .eptr (.O 0) 1 0 0), (4, .eptr (.O 1) 1 0 0), (5, .eptr (.O 2) 1 0 0), (6, .eptr (.O 3) 1 0 0), (7, .eptr (.O 4) 1 0 0), (21, .agg (gA3.l.map (aI .u32))), (22, .D (.I .i64 a2))], ownL [], ownL [some (.row true 1 (p0.l.map (rI .u32))), some (.row true 1 ((Arr.zero 8).l.map (rI .u32))), some (.row true 1 (v1.l.map (rI .u32))), some (.row true 1 (a3.l.map (rI .u32))), some (.row true 1 (a4.l.map (rI .u32)))], 5⟩
def F_hash_compress (N : Nat) (p0 : (Arr 8)) (p1 : (List Int)) : Option (Arr 8) := bd? (F_hash_schedule N p1) fun v1 => L_hash_compress_0 N p0 v1 N 0 (p0.part 0 4) (p0.part 4 4)
theorem c_hash_compress (N : Nat) (p0 : (Arr 8)) (p1 : (List Int)) (r : (Arr 8)) (h : F_hash_compress N p0 p1 = some r) : ACall Tryd.prog 144 [.agg (p0.l.map (aI .u32)), .D (.L (p1.map (rI .u8)))] [] (.agg (r.l.map (aI .u32))) [] [] := by
  refine ACall.of_bodyW [17, 20] (fn := Tryd.f144) (rc := f144c) (rs := f144r) Tryd.func144 rfl rfl (by kernel_rfl) (by kernel_rfl) (by kernel_rfl) (by rw [Tryd.ntmps144]; simp) ?_
  unfold F_hash_compress at h
  unfold f144c f144r
  rw [entry_eq _ _]
  obtain ⟨v1, h210, h⟩ := F_bd h
  simp (disch := first | assumption | (simp; done) | omega | (simp; omega)) only [push_cast, seval]
  refine call_flat (by rfl) (c_hash_schedule N _ _ h210) ?_ (by simp [AV.flat, AV.flatL, flatL_aI, flatL_app, DV.flat]) ?_
  · simp (disch := first | assumption | (simp; done) | omega | (simp; omega)) only [push_cast, seval] <;> rfl
  simp (disch := first | assumption | (simp; done) | omega | (simp; omega)) only [push_cast, seval]
  refine regS_of true [.O 0] (by rfl) ?_
  simp (disch := first | assumption | (simp; done) | omega | (simp; omega)) only [push_cast, seval]
  refine loop_of (I_hash_compress_0 N p0 v1 _) N [2, 4, 5, 6, 7, 21, 22] [0, 1, 2, 3, 4] (by decide) ⟨0, (p0.part 0 4), (p0.part 4 4), h, ?_⟩ ?_
  · rw [wk_mk]
    simp (disch := first | assumption | (simp; done) | omega | (simp; omega)) only [push_cast, seval] <;> rfl
  rintro n s ⟨a2, a3, a4, h, rfl⟩
  rcases n with _ | m1
  · exact absurd h (by simp [L_hash_compress_0])
  rw [L_hash_compress_0] at h
  unfold f144b11
  rcases F_if h with ⟨h211, h⟩ | ⟨h211, h⟩
  rotate_left
  · simp (disch := first | assumption | (simp; done) | omega | (simp; omega)) only [push_cast, seval, h211]
    refine loop_of (I_hash_compress_1 N a3 a4 _) N [2, 4, 6, 7, 94] [0, 1, 3, 4] (by decide) ⟨0, p0, h, ?_⟩ ?_
    · rw [wk_mk]
      simp (disch := first | assumption | (simp; done) | omega | (simp; omega)) only [push_cast, seval, h211] <;> rfl
    rintro n s ⟨a17, a18, h, rfl⟩
    rcases n with _ | m3
    · exact absurd h (by simp [L_hash_compress_1])
    rw [L_hash_compress_1] at h
    unfold f144b18
    rcases F_if h with ⟨h257, h⟩ | ⟨h257, h⟩
    rotate_left
    · obtain rfl := Option.some.inj h
      simp (disch := first | assumption | (simp; done) | omega | (simp; omega)) only [push_cast, seval, h211, h257]
      refine e_ret (.inr rfl) ?_
      simp (disch := first | assumption | (simp; done) | omega | (simp; omega)) only [push_cast, seval, aret, aresults, aresult, h211, h257]
      refine ⟨_, rfl, ?_⟩
      first | (simp (disch := first | assumption | (simp; done) | omega | (simp; omega)) only [push_cast, seval, h211, h257] <;> rfl) | rfl
    obtain ⟨h258, h⟩ := F_gd h
    obtain ⟨h259, h⟩ := F_gd h
    obtain ⟨x19, h260, h261, h⟩ := F_get h
    have h263 := get_lt h260 h261
    have h262 := map_getG (rI .u32) h261
    try simp (disch := first | assumption | (simp; done) | omega | (simp; omega)) only [push_cast, seval] at h262
    obtain ⟨h264, h⟩ := F_gd h
    obtain ⟨x20, h265, h266, h⟩ := F_get h
    have h268 := get_lt h265 h266
    have h267 := map_getG (rI .u32) h266
    try simp (disch := first | assumption | (simp; done) | omega | (simp; omega)) only [push_cast, seval] at h267
    have h269 := arr_get (rI .u32) a18 (i := a17.toNat) (by omega)
    try simp (disch := first | assumption | (simp; done) | omega | (simp; omega)) only [push_cast, seval] at h269
    obtain ⟨h270, h⟩ := F_ck h
    try simp (disch := first | assumption | (simp; done) | omega | (simp; omega)) only [push_cast, seval] at h270
    obtain ⟨h271, h⟩ := F_gd h
    try simp (disch := first | assumption | (simp; done) | omega | (simp; omega)) only [push_cast, seval] at h271
    obtain ⟨h272, h⟩ := F_gd h
    try simp (disch := first | assumption | (simp; done) | omega | (simp; omega)) only [push_cast, seval] at h272
    obtain ⟨x21, h273, h274, h⟩ := F_get h
    have h276 := get_lt h273 h274
    have h275 := map_getG (rI .u32) h274
    try simp (disch := first | assumption | (simp; done) | omega | (simp; omega)) only [push_cast, seval] at h275
    try simp (disch := first | assumption | (simp; done) | omega | (simp; omega)) only [push_cast, seval] at h273
    try simp (disch := first | assumption | (simp; done) | omega | (simp; omega)) only [push_cast, seval] at h276
    obtain ⟨x22, h277, h278, h⟩ := F_get h
    have h280 := get_lt h277 h278
    have h279 := map_getG (rI .u32) h278
    try simp (disch := first | assumption | (simp; done) | omega | (simp; omega)) only [push_cast, seval] at h279
    have h281 := arr_get (rI .u32) (a18.set a17.toNat (IntKind.wrap .u32 (x19 + x20))) (i := (a17 + 4).toNat) (by omega)
    try simp (disch := first | assumption | (simp; done) | omega | (simp; omega)) only [push_cast, seval] at h281
    obtain ⟨h282, h⟩ := F_ck h
    try simp (disch := first | assumption | (simp; done) | omega | (simp; omega)) only [push_cast, seval] at h282
    simp (disch := first | assumption | (simp; done) | omega | (simp; omega)) only [push_cast, seval, h211, h257, h258, h259, h260, h262, h263, h264, h265, h267, h268, h269, h270, h271, h272, h273, h275, h276, h277, h279, h280, h281, h282]
    refine lpK_of m3 [2, 4, 6, 7, 94] [0, 1, 2, 3] (by omega) (by decide) ⟨(a17 + 1), ((a18.set a17.toNat (IntKind.wrap .u32 (x19 + x20))).set (a17 + 4).toNat (IntKind.wrap .u32 (x21 + x22))), (by first | exact h | simpa only [*] using h), ?_⟩
    rw [wk_mk]
    simp (disch := first | assumption | (simp; done) | omega | (simp; omega)) only [push_cast, seval, h211, h257, h258, h259, h260, h262, h263, h264, h265, h267, h268, h269, h270, h271, h272, h273, h275, h276, h277, h279, h280, h281, h282] <;> rfl
  obtain ⟨h212, h⟩ := F_gd h
  obtain ⟨h213, h⟩ := F_gd h
  obtain ⟨x5, h214, h215, h⟩ := F_get h
  have h217 := get_lt h214 h215
  have h216 := map_getG (aI .u32) h215
  try simp (disch := first | assumption | (simp; done) | omega | (simp; omega)) only [push_cast, seval] at h216
  obtain ⟨x6, h218, h219, h⟩ := F_get h
  have h221 := get_lt h218 h219
  have h220 := map_getG (rI .u32) h219
  try simp (disch := first | assumption | (simp; done) | omega | (simp; omega)) only [push_cast, seval] at h220
  obtain ⟨x7, h222, h223, h⟩ := F_get h
  have h225 := get_lt h222 h223
  have h224 := map_getG (rI .u32) h223
  try simp (disch := first | assumption | (simp; done) | omega | (simp; omega)) only [push_cast, seval] at h224
  obtain ⟨v8, h226, h⟩ := F_bd h
  simp (disch := first | assumption | (simp; done) | omega | (simp; omega)) only [push_cast, seval, h211, h212, h213, h214, h216, h217, h218, h220, h221, h222, h224, h225]
  refine call_flat (by rfl) (c_hash_mix N _ _ _ _ _ h226) ?_ rfl ?_
  · simp (disch := first | assumption | (simp; done) | omega | (simp; omega)) only [push_cast, seval, h211, h212, h213, h214, h216, h217, h218, h220, h221, h222, h224, h225] <;> rfl
  obtain ⟨x9, h227, h228, h⟩ := F_get h
  have h230 := get_lt h227 h228
  have h229 := map_getG (rI .u32) h228
  try simp (disch := first | assumption | (simp; done) | omega | (simp; omega)) only [push_cast, seval] at h229
  obtain ⟨x10, h231, h232, h⟩ := F_get h
  have h234 := get_lt h231 h232
  have h233 := map_getG (rI .u32) h232
  try simp (disch := first | assumption | (simp; done) | omega | (simp; omega)) only [push_cast, seval] at h233
  obtain ⟨x11, h235, h236, h⟩ := F_get h
  have h238 := get_lt h235 h236
  have h237 := map_getG (rI .u32) h236
  try simp (disch := first | assumption | (simp; done) | omega | (simp; omega)) only [push_cast, seval] at h237
  obtain ⟨x12, h239, h240, h⟩ := F_get h
  have h242 := get_lt h239 h240
  have h241 := map_getG (rI .u32) h240
  try simp (disch := first | assumption | (simp; done) | omega | (simp; omega)) only [push_cast, seval] at h241
  obtain ⟨v13, h243, h⟩ := F_bd h
  simp (disch := first | assumption | (simp; done) | omega | (simp; omega)) only [push_cast, seval, h211, h212, h213, h214, h216, h217, h218, h220, h221, h222, h224, h225, h227, h229, h230, h231, h233, h234, h235, h237, h238, h239, h241, h242]
  refine call_flat (by rfl) (c_hash_mix N _ _ _ _ _ h243) ?_ rfl ?_
  · simp (disch := first | assumption | (simp; done) | omega | (simp; omega)) only [push_cast, seval, h211, h212, h213, h214, h216, h217, h218, h220, h221, h222, h224, h225, h227, h229, h230, h231, h233, h234, h235, h237, h238, h239, h241, h242] <;> rfl
  obtain ⟨x14, h244, h245, h⟩ := F_get h
  have h247 := get_lt h244 h245
  have h246 := map_getG (rI .u32) h245
  try simp (disch := first | assumption | (simp; done) | omega | (simp; omega)) only [push_cast, seval] at h246
  obtain ⟨x15, h248, h249, h⟩ := F_get h
  have h251 := get_lt h248 h249
  have h250 := map_getG (rI .u32) h249
  try simp (disch := first | assumption | (simp; done) | omega | (simp; omega)) only [push_cast, seval] at h250
  obtain ⟨x16, h252, h253, h⟩ := F_get h
  have h255 := get_lt h252 h253
  have h254 := map_getG (rI .u32) h253
  try simp (disch := first | assumption | (simp; done) | omega | (simp; omega)) only [push_cast, seval] at h254
  obtain ⟨h256, h⟩ := F_ck h
  try simp (disch := first | assumption | (simp; done) | omega | (simp; omega)) only [push_cast, seval] at h256
  simp (disch := first | assumption | (simp; done) | omega | (simp; omega)) only [push_cast, seval, h211, h212, h213, h214, h216, h217, h218, h220, h221, h222, h224, h225, h227, h229, h230, h231, h233, h234, h235, h237, h238, h239, h241, h242, h244, h246, h247, h248, h250, h251, h252, h254, h255, h256]
  refine lpK_of m1 [2, 4, 5, 6, 7, 21, 22] [0, 1, 2, 3, 4] (by omega) (by decide) ⟨(a2 + 1), (Arr.of [(IntKind.wrap .u32 ((IntKind.wrap .u32 ((IntKind.wrap .u32 ((IntKind.wrap .u32 ((IntKind.wrap .u32 (x6 + v8)) + (bits .xor .u32 (bits .and .u32 x7 x9) (bits .and .u32 (bits .xor .u32 4294967295 x7) x10)))) + x5)) + x11)) + (IntKind.wrap .u32 (v13 + (bits .xor .u32 (bits .xor .u32 (bits .and .u32 x12 x14) (bits .and .u32 x12 x15)) (bits .and .u32 x14 x15)))))), x12, x14, x15] rfl), (Arr.of [(IntKind.wrap .u32 (x16 + (IntKind.wrap .u32 ((IntKind.wrap .u32 ((IntKind.wrap .u32 ((IntKind.wrap .u32 (x6 + v8)) + (bits .xor .u32 (bits .and .u32 x7 x9) (bits .and .u32 (bits .xor .u32 4294967295 x7) x10)))) + x5)) + x11)))), x7, x9, x10] rfl), (by first | exact h | simpa only [*] using h), ?_⟩
  rw [wk_mk]
  simp (disch := first | assumption | (simp; done) | omega | (simp; omega)) only [push_cast, seval, h211, h212, h213, h214, h216, h217, h218, h220, h221, h222, h224, h225, h227, h229, h230, h231, h233, h234, h235, h237, h238, h239, h241, h242, h244, h246, h247, h248, h250, h251, h252, h254, h255, h256] <;> rfl

def f117g0 : List RO := [o_ 2 (.boxR (t_ 0)), o_ 4 (.newR (((Arr.zero 8).l.map (aI .u32)) ++ (((Arr.zero 64).l.map (aI .u8)) ++ [(.D (.I .u64 0))])))]
def f117g1 : List RO := [o_ 7 (.mv (t_ 1)), o_ 8 (.bin .neq (t_ 7) (.const (.string ⟨#[]⟩)))]
def f117g2 : List RO := [o_ 9 (.faddr 72 (t_ 2)), o_ 10 (.load .none (t_ 9)), o_ 11 (.bin .rem (t_ 10) (.const (.int .u64 64))), o_ 12 (.cvI .i64 (t_ 11)), o_ 5 (.mv (t_ 12))]
def f117g3 : List RO := [o_ 13 (.faddr 8 (t_ 2)), o_ 14 (.mv (t_ 5)), o_ 15 (.slsA 64 (t_ 13) (.some (t_ 14)) .none), o_ 16 (.mv (t_ 1)), o_ 17 (.cpy 1 (t_ 15) (t_ 16)), o_ 6 (.mv (t_ 17))]
def f117g4 : List RO := [o_ 18 (.mv (t_ 1)), o_ 19 (.mv (t_ 6)), o_ 20 (.sls (t_ 18) (.some (t_ 19)) .none), o_ 1 (.mv (t_ 20))]
def f117g5 : List RO := [o_ 21 (.faddr 72 (t_ 2)), o_ 22 (.load .none (t_ 21)), o_ 23 (.mv (t_ 6)), o_ 24 (.cvI .u64 (t_ 23)), o_ 25 (.bin .add (t_ 22) (t_ 24)), o_ 26 (.faddr 72 (t_ 2)), n_ (.store 1 (t_ 26) (t_ 25))]
def f117g6 : List RO := [o_ 27 (.mv (t_ 5)), o_ 28 (.mv (t_ 6)), o_ 29 (.bin .add (t_ 27) (t_ 28)), o_ 30 (.bin .eql (t_ 29) (.const (.int .i64 64)))]
def f117g7 : List RO := [o_ 31 (.faddr 0 (t_ 2)), o_ 32 (.load (.some 8) (t_ 31)), o_ 33 (.faddr 8 (t_ 2)), o_ 34 (.slsA 64 (t_ 33) .none .none), o_ 35 (.call (.func 144) [(t_ 32), (t_ 34)]), o_ 36 (.faddr 0 (t_ 2)), n_ (.store 8 (t_ 36) (t_ 35))]
def f117b8 : RCode := (.seq (.seq (.reg .false f117g1) (.cond (t_ 8) .skip (.exit 0))) (.block 1 (.seq (.reg .false f117g2) (.seq (.reg .false f117g3) (.seq (.reg .false f117g4) (.seq (.reg .false f117g5) (.seq (.reg .false f117g6) (.cond (t_ 30) (.regS f117g7) .skip))))))))
def f117g9 : List RO := [o_ 37 (.load (.some 73) (t_ 2)), n_ (.store 73 (t_ 4) (t_ 37))]
def f117c : RCode := (.seq (.reg .false f117g0) (.seq (.block 0 (.loop f117b8)) (.seq (.reg .false f117g9) .ret)))
def f117r : List RRes := [(.cell (.some 73) 4)]
attribute [push_cast] f117g0 f117g1 f117g2 f117g3 f117g4 f117g5 f117g6 f117g7 f117g9
def L_hash_Stream_Add_0 (N : Nat) : Nat → Str → (Arr 8) → (Arr 64) → Int → Option HashStream
  | 0, _, _, _, _ => none
  | m1+1, a1, a2, a3, a4 => if? ((a1 == ([] : Str))) (some ((HashStream.mk a2 a3 a4))) (ck .i64 ((Int.tmod a4 64)) (gd? (0 ≤ ((Int.tmod a4 64))) (gd? (((Int.tmod a4 64)).toNat ≤ 64) (gd? (0 ≤ (((min a1.length (64 - ((Int.tmod a4 64)).toNat)) : Nat) : Int)) (gd? ((((min a1.length (64 - ((Int.tmod a4 64)).toNat)) : Nat) : Int).toNat ≤ a1.length) (ck .i64 (((Int.tmod a4 64)) + (((min a1.length (64 - ((Int.tmod a4 64)).toNat)) : Nat) : Int)) (if? (((((Int.tmod a4 64)) + (((min a1.length (64 - ((Int.tmod a4 64)).toNat)) : Nat) : Int)) == 64)) (bd? (F_hash_compress N a2 ((a3.put (((Int.tmod a4 64)).toNat) ((intsS a1).take (min a1.length (64 - ((Int.tmod a4 64)).toNat)))).l)) fun v5 => L_hash_Stream_Add_0 N m1 ((a1.drop (((min a1.length (64 - ((Int.tmod a4 64)).toNat)) : Nat) : Int).toNat).take (a1.length - (((min a1.length (64 - ((Int.tmod a4 64)).toNat)) : Nat) : Int).toNat)) v5 (a3.put (((Int.tmod a4 64)).toNat) ((intsS a1).take (min a1.length (64 - ((Int.tmod a4 64)).toNat)))) (IntKind.wrap .u64 (a4 + (IntKind.wrap .u64 ((((min a1.length (64 - ((Int.tmod a4 64)).toNat)) : Nat) : Int)))))) (L_hash_Stream_Add_0 N m1 ((a1.drop (((min a1.length (64 - ((Int.tmod a4 64)).toNat)) : Nat) : Int).toNat).take (a1.length - (((min a1.length (64 - ((Int.tmod a4 64)).toNat)) : Nat) : Int).toNat)) a2 (a3.put (((Int.tmod a4 64)).toNat) ((intsS a1).take (min a1.length (64 - ((Int.tmod a4 64)).toNat)))) (IntKind.wrap .u64 (a4 + (IntKind.wrap .u64 ((((min a1.length (64 - ((Int.tmod a4 64)).toNat)) : Nat) : Int)))))))))))))
def I_hash_Stream_Add_0 (N : Nat) (r : HashStream) (n : Nat) (s : AState) : Prop := ∃ (a1 : Str) (a2 : (Arr 8)) (a3 : (Arr 64)) (a4 : Int), L_hash_Stream_Add_0 N n a1 a2 a3 a4 = some r ∧ s = ⟨envL [(1, .D (.S a1)), (2, .eptr (.O 0) 1 0 0), (4, .eptr (.O 1) 1 0 0)], ownL [], ownL [some (.row true 1 ((a2.l.map (rI .u32)) ++ ((a3.l.map (rI .u8)) ++ ([[.I .u64 a4]])))), some (.row true 1 (((Arr.zero 8).l.map (rI .u32)) ++ (((Arr.zero 64).l.map (rI .u8)) ++ ([[.I .u64 0]]))))], 2⟩
def F_hash_Stream_Add (N : Nat) (p0 : HashStream) (p1 : Str) : Option HashStream := L_hash_Stream_Add_0 N N p1 p0.state p0.block p0.n
theorem c_hash_Stream_Add (N : Nat) (p0 : HashStream) (p1 : Str) (r : HashStream) (h : F_hash_Stream_Add N p0 p1 = some r) : ACall Tryd.prog 117 [.agg ((p0.state.l.map (aI .u32)) ++ ((p0.block.l.map (aI .u8)) ++ ([.D (.I .u64 p0.n)]))), .D (.S p1)] [] (.agg ((r.state.l.map (aI .u32)) ++ ((r.block.l.map (aI .u8)) ++ ([.D (.I .u64 r.n)])))) [] [] := by
  refine ACall.of_bodyW [] (fn := Tryd.f117) (rc := f117c) (rs := f117r) Tryd.func117 rfl rfl (by kernel_rfl) (by kernel_rfl) (by kernel_rfl) (by rw [Tryd.ntmps117]; simp) ?_
  unfold F_hash_Stream_Add at h
  unfold f117c f117r
  rw [entry_eq _ _]
  simp (disch := first | assumption | (simp; done) | omega | (simp; omega)) only [push_cast, seval]
  refine loop_of (I_hash_Stream_Add_0 N _) N [1, 2, 4] [0, 1] (by decide) ⟨p1, p0.state, p0.block, p0.n, h, ?_⟩ ?_
  · rw [wk_mk]
    simp (disch := first | assumption | (simp; done) | omega | (simp; omega)) only [push_cast, seval] <;> rfl
  rintro n s ⟨a1, a2, a3, a4, h, rfl⟩
  rcases n with _ | m1
  · exact absurd h (by simp [L_hash_Stream_Add_0])
  rw [L_hash_Stream_Add_0] at h
  unfold f117b8
  rcases F_if h with ⟨h293, h⟩ | ⟨h293, h⟩
  · try simp (disch := first | assumption | (simp; done) | omega | (simp; omega)) only [push_cast, seval] at h293
    obtain rfl := Option.some.inj h
    simp (disch := first | assumption | (simp; done) | omega | (simp; omega)) only [push_cast, seval, h293]
    refine e_ret (.inr rfl) ?_
    simp (disch := first | assumption | (simp; done) | omega | (simp; omega)) only [push_cast, seval, aret, aresults, aresult, h293]
    refine ⟨_, rfl, ?_⟩
    first | (simp (disch := first | assumption | (simp; done) | omega | (simp; omega)) only [push_cast, seval, h293] <;> rfl) | rfl
  try simp (disch := first | assumption | (simp; done) | omega | (simp; omega)) only [push_cast, seval] at h293
  obtain ⟨h294, h⟩ := F_ck h
  try simp (disch := first | assumption | (simp; done) | omega | (simp; omega)) only [push_cast, seval] at h294
  obtain ⟨h295, h⟩ := F_gd h
  try simp (disch := first | assumption | (simp; done) | omega | (simp; omega)) only [push_cast, seval] at h295
  obtain ⟨h296, h⟩ := F_gd h
  try simp (disch := first | assumption | (simp; done) | omega | (simp; omega)) only [push_cast, seval] at h296
  have h297 := (by omega : 8 + ((Int.tmod a4 64)).toNat + (64 - ((Int.tmod a4 64)).toNat) ≤ 73)
  try simp (disch := first | assumption | (simp; done) | omega | (simp; omega)) only [push_cast, seval] at h297
  obtain ⟨h298, h⟩ := F_gd h
  try simp (disch := first | assumption | (simp; done) | omega | (simp; omega)) only [push_cast, seval] at h298
  obtain ⟨h299, h⟩ := F_gd h
  try simp (disch := first | assumption | (simp; done) | omega | (simp; omega)) only [push_cast, seval] at h299
  obtain ⟨h300, h⟩ := F_ck h
  try simp (disch := first | assumption | (simp; done) | omega | (simp; omega)) only [push_cast, seval] at h300
  rcases F_if h with ⟨h301, h⟩ | ⟨h301, h⟩
  rotate_left
  · try simp (disch := first | assumption | (simp; done) | omega | (simp; omega)) only [push_cast, seval] at h301
    simp (disch := first | assumption | (simp; done) | omega | (simp; omega)) only [push_cast, seval, h293, h294, h295, h296, h297, h298, h299, h300, h301]
    refine lpK_of m1 [1, 2, 4] [0, 1] (by omega) (by decide) ⟨((a1.drop (((min a1.length (64 - ((Int.tmod a4 64)).toNat)) : Nat) : Int).toNat).take (a1.length - (((min a1.length (64 - ((Int.tmod a4 64)).toNat)) : Nat) : Int).toNat)), a2, (a3.put (((Int.tmod a4 64)).toNat) ((intsS a1).take (min a1.length (64 - ((Int.tmod a4 64)).toNat)))), (IntKind.wrap .u64 (a4 + (IntKind.wrap .u64 ((((min a1.length (64 - ((Int.tmod a4 64)).toNat)) : Nat) : Int))))), (by first | exact h | simpa only [*] using h), ?_⟩
    rw [wk_mk]
    simp (disch := first | assumption | (simp; done) | omega | (simp; omega)) only [push_cast, seval, h293, h294, h295, h296, h297, h298, h299, h300, h301] <;> rfl
  try simp (disch := first | assumption | (simp; done) | omega | (simp; omega)) only [push_cast, seval] at h301
  simp (disch := first | assumption | (simp; done) | omega | (simp; omega)) only [push_cast, seval, h293, h294, h295, h296, h297, h298, h299, h300, h301]
  refine regS_of false [.O 0] (by rfl) ?_
  obtain ⟨v5, h302, h⟩ := F_bd h
  simp (disch := first | assumption | (simp; done) | omega | (simp; omega)) only [push_cast, seval, h293, h294, h295, h296, h297, h298, h299, h300, h301]
  refine call_flat (by rfl) (c_hash_compress N _ _ _ h302) ?_ (by simp [AV.flat, AV.flatL, flatL_aI, flatL_app, DV.flat]) ?_
  · simp (disch := first | assumption | (simp; done) | omega | (simp; omega)) only [push_cast, seval, h293, h294, h295, h296, h297, h298, h299, h300, h301] <;> rfl
  simp (disch := first | assumption | (simp; done) | omega | (simp; omega)) only [push_cast, seval, h293, h294, h295, h296, h297, h298, h299, h300, h301]
  refine lpK_of m1 [1, 2, 4] [0, 1] (by omega) (by decide) ⟨((a1.drop (((min a1.length (64 - ((Int.tmod a4 64)).toNat)) : Nat) : Int).toNat).take (a1.length - (((min a1.length (64 - ((Int.tmod a4 64)).toNat)) : Nat) : Int).toNat)), v5, (a3.put (((Int.tmod a4 64)).toNat) ((intsS a1).take (min a1.length (64 - ((Int.tmod a4 64)).toNat)))), (IntKind.wrap .u64 (a4 + (IntKind.wrap .u64 ((((min a1.length (64 - ((Int.tmod a4 64)).toNat)) : Nat) : Int))))), (by first | exact h | simpa only [*] using h), ?_⟩
  rw [wk_mk]
  simp (disch := first | assumption | (simp; done) | omega | (simp; omega)) only [push_cast, seval, h293, h294, h295, h296, h297, h298, h299, h300, h301] <;> rfl

def f107g0 : List RO := [o_ 2 (.mv (.const (.slice .none 0 0)))]
def f107g1 : List RO := [o_ 5 (.mv (t_ 0)), o_ 6 (.cvI .u64 (t_ 5)), o_ 7 (.bin .shl (t_ 6) (.const (.int .u64 1))), o_ 8 (.mv (t_ 0)), o_ 9 (.bin .shr (t_ 8) (.const (.int .u64 63))), o_ 10 (.cvI .u64 (t_ 9)), o_ 11 (.bin .xor (t_ 7) (t_ 10)), o_ 3 (.mv (t_ 11))]
def f107g2 : List RO := [o_ 4 (.mv (.const (.slice .none 0 0)))]
def f107g3 : List RO := [o_ 12 (.mv (t_ 3)), o_ 13 (.bin .gtr (t_ 12) (.const (.int .u64 127)))]
def f107g4 : List RO := [o_ 16 (.mv (t_ 4)), o_ 17 (.mv (t_ 3)), o_ 18 (.cvI .u8 (t_ 17)), o_ 19 (.bin .or (t_ 18) (.const (.int .u8 128))), o_ 20 (.bslice 1 [(t_ 19)]), o_ 21 (.appE 1 1 (t_ 16) (t_ 20)), o_ 4 (.mv (t_ 21))]
def f107g5 : List RO := [o_ 14 (.mv (t_ 3)), o_ 15 (.bin .shr (t_ 14) (.const (.int .u64 7))), o_ 3 (.mv (t_ 15))]
def f107b6 : RCode := (.seq (.seq (.reg .false f107g3) (.cond (t_ 13) .skip (.exit 0))) (.seq (.block 1 (.reg .false f107g4)) (.reg .false f107g5)))
def f107g7 : List RO := [o_ 22 (.mv (t_ 4)), o_ 23 (.mv (t_ 3)), o_ 24 (.cvI .u8 (t_ 23)), o_ 25 (.bslice 1 [(t_ 24)]), o_ 26 (.appE 1 1 (t_ 22) (t_ 25)), o_ 2 (.mv (t_ 26))]
def f107c : RCode := (.seq (.reg .false f107g0) (.seq (.reg .false f107g1) (.seq (.reg .false f107g2) (.seq (.block 0 (.loop f107b6)) (.seq (.reg .false f107g7) .ret)))))
def f107r : List RRes := [(.tmp 2)]
attribute [push_cast] f107g0 f107g1 f107g2 f107g3 f107g4 f107g5 f107g7
def L_wire_Int_0 (N : Nat) : Nat → Int → (List Int) → Option (List Int)
  | 0, _, _ => none
  | m1+1, a1, a2 => if? (decide (a1 > 127)) (gd? ((a2.length + [(bits .or .u8 (IntKind.wrap .u8 (a1)) 128)].length) * 1 ≤ 140737488355328) (L_wire_Int_0 N m1 (a1 / 2 ^ (7 : Int).toNat) (a2 ++ [(bits .or .u8 (IntKind.wrap .u8 (a1)) 128)]))) (gd? ((a2.length + [(IntKind.wrap .u8 (a1))].length) * 1 ≤ 140737488355328) (some ((a2 ++ [(IntKind.wrap .u8 (a1))]))))
def I_wire_Int_0 (N : Nat) (r : (List Int)) (n : Nat) (s : AState) : Prop := ∃ (a1 : Int) (a2 : (List Int)), L_wire_Int_0 N n a1 a2 = some r ∧ s = ⟨envL [(3, .D (.I .u64 a1)), (4, .sl (.O 0) 1 0 a2.length)], ownL [], ownL [some (.row true 1 (a2.map (rI .u8)))], 1⟩
def F_wire_Int (N : Nat) (p0 : Int) : Option (List Int) := L_wire_Int_0 N N (bits .xor .u64 (IntKind.wrap .u64 ((IntKind.wrap .u64 (p0)) * 2 ^ (1 : Int).toNat)) (IntKind.wrap .u64 ((p0 / 2 ^ (63 : Int).toNat)))) []
theorem c_wire_Int (N : Nat) (p0 : Int) (r : (List Int)) (h : F_wire_Int N p0 = some r) : ACall Tryd.prog 107 [.D (.I .i64 p0)] [] (.sl (.O 0) 1 0 r.length) [] [.row true 1 (r.map (rI .u8))] := by
  refine ACall.of_bodyW [21, 26] (fn := Tryd.f107) (rc := f107c) (rs := f107r) Tryd.func107 rfl rfl (by kernel_rfl) (by kernel_rfl) (by kernel_rfl) (by rw [Tryd.ntmps107]; simp) ?_
  unfold F_wire_Int at h
  unfold f107c f107r
  rw [entry_eq _ _]
  simp (disch := first | assumption | (simp; done) | omega | (simp; omega)) only [push_cast, seval]
  refine loop_own0 4 1 rfl ?_
  simp (disch := first | assumption | (simp; done) | omega | (simp; omega)) only [push_cast, seval]
  refine loop_of (I_wire_Int_0 N _) N [3, 4] [0] (by decide) ⟨(bits .xor .u64 (IntKind.wrap .u64 ((IntKind.wrap .u64 (p0)) * 2 ^ (1 : Int).toNat)) (IntKind.wrap .u64 ((p0 / 2 ^ (63 : Int).toNat)))), [], h, ?_⟩ ?_
  · rw [wk_mk]
    simp (disch := first | assumption | (simp; done) | omega | (simp; omega)) only [push_cast, seval] <;> rfl
  rintro n s ⟨a1, a2, h, rfl⟩
  rcases n with _ | m1
  · exact absurd h (by simp [L_wire_Int_0])
  rw [L_wire_Int_0] at h
  unfold f107b6
  rcases F_if h with ⟨h306, h⟩ | ⟨h306, h⟩
  · obtain ⟨h307, h⟩ := F_gd h
    try simp (disch := first | assumption | (simp; done) | omega | (simp; omega)) only [push_cast, seval] at h307
    simp (disch := first | assumption | (simp; done) | omega | (simp; omega)) only [push_cast, seval, h306, h307]
    refine lpK_of m1 [3, 4] [2] (by omega) (by decide) ⟨(a1 / 2 ^ (7 : Int).toNat), (a2 ++ [(bits .or .u8 (IntKind.wrap .u8 (a1)) 128)]), (by first | exact h | simpa only [*] using h), ?_⟩
    rw [wk_mk]
    simp (disch := first | assumption | (simp; done) | omega | (simp; omega)) only [push_cast, seval, h306, h307] <;> rfl
  obtain ⟨h308, h⟩ := F_gd h
  try simp (disch := first | assumption | (simp; done) | omega | (simp; omega)) only [push_cast, seval] at h308
  obtain rfl := Option.some.inj h
  simp (disch := first | assumption | (simp; done) | omega | (simp; omega)) only [push_cast, seval, h306, h308]
  refine AEndW.of [2] (.inr rfl) (by decide) rfl ?_ rfl ?_
  · simp (disch := first | assumption | (simp; done) | omega | (simp; omega)) only [push_cast, seval, h306, h308] <;> rfl
  · simp (disch := first | assumption | (simp; done) | omega | (simp; omega)) only [push_cast, seval, h306, h308] <;> rfl

def f118g0 : List RO := [o_ 2 (.mv (.const (.slice .none 0 0)))]
def f118g1 : List RO := [o_ 3 (.mv (t_ 0)), o_ 4 (.len .true (t_ 3)), o_ 5 (.call (.func 107) [(t_ 4)]), o_ 6 (.mv (t_ 0)), o_ 7 (.appE 1 1 (t_ 5) (t_ 6)), o_ 2 (.mv (t_ 7))]
def f118c : RCode := (.seq (.reg .false f118g0) (.seq (.reg .false f118g1) .ret))
def f118r : List RRes := [(.tmp 2)]
attribute [push_cast] f118g0 f118g1
def F_wire_Bytes (N : Nat) (p0 : Str) : Option (List Int) := bd? (F_wire_Int N (p0.length : Int)) fun v1 => gd? ((v1.length + (intsS p0).length) * 1 ≤ 140737488355328) (some ((v1 ++ (intsS p0))))
theorem c_wire_Bytes (N : Nat) (p0 : Str) (r : (List Int)) (h : F_wire_Bytes N p0 = some r) : ACall Tryd.prog 118 [.D (.S p0)] [] (.sl (.O 0) 1 0 r.length) [] [.row true 1 (r.map (rI .u8))] := by
  refine ACall.of_bodyW [7] (fn := Tryd.f118) (rc := f118c) (rs := f118r) Tryd.func118 rfl rfl (by kernel_rfl) (by kernel_rfl) (by kernel_rfl) (by rw [Tryd.ntmps118]; simp) ?_
  unfold F_wire_Bytes at h
  unfold f118c f118r
  rw [entry_eq _ _]
  obtain ⟨v1, h311, h⟩ := F_bd h
  simp (disch := first | assumption | (simp; done) | omega | (simp; omega)) only [push_cast, seval]
  refine call_new (by rfl) (c_wire_Int N _ _ h311) ?_ rfl ?_
  · simp (disch := first | assumption | (simp; done) | omega | (simp; omega)) only [push_cast, seval] <;> rfl
  obtain ⟨h312, h⟩ := F_gd h
  try simp (disch := first | assumption | (simp; done) | omega | (simp; omega)) only [push_cast, seval] at h312
  obtain rfl := Option.some.inj h
  simp (disch := first | assumption | (simp; done) | omega | (simp; omega)) only [push_cast, seval, h312]
  refine AEndW.of [1] (.inr rfl) (by decide) rfl ?_ rfl ?_
  · simp (disch := first | assumption | (simp; done) | omega | (simp; omega)) only [push_cast, seval, h312] <;> rfl
  · simp (disch := first | assumption | (simp; done) | omega | (simp; omega)) only [push_cast, seval, h312] <;> rfl

def f119g0 : List RO := [o_ 1 (.boxR (t_ 0)), o_ 2 (.newR ((Arr.zero 32).l.map (aI .u8)))]
def f119g1 : List RO := [o_ 8 (.faddr 72 (t_ 1)), o_ 9 (.load .none (t_ 8)), o_ 10 (.bin .mul (.const (.int .u64 8)) (t_ 9)), o_ 3 (.mv (t_ 10))]
def f119g2 : List RO := [o_ 11 (.bslice 1 [(.const (.int .u8 128))]), o_ 4 (.mv (t_ 11))]
def f119g3 : List RO := [o_ 12 (.faddr 72 (t_ 1)), o_ 13 (.load .none (t_ 12)), o_ 14 (.cvI .i64 (t_ 13)), o_ 15 (.mv (t_ 4)), o_ 16 (.len .false (t_ 15)), o_ 17 (.bin .add (t_ 14) (t_ 16)), o_ 18 (.bin .rem (t_ 17) (.const (.int .i64 64))), o_ 19 (.bin .neq (t_ 18) (.const (.int .i64 56)))]
def f119g4 : List RO := [o_ 20 (.mv (t_ 4)), o_ 21 (.bslice 1 [(.const (.int .u8 0))]), o_ 22 (.appE 1 1 (t_ 20) (t_ 21)), o_ 4 (.mv (t_ 22))]
def f119b5 : RCode := (.seq (.seq (.reg .false f119g3) (.cond (t_ 19) .skip (.exit 0))) (.block 1 (.reg .false f119g4)))
def f119g6 : List RO := [o_ 23 (.mv (.const (.int .i64 0)))]
def f119g7 : List RO := [o_ 24 (.bin .lss (t_ 23) (.const (.int .i64 8)))]
def f119g8 : List RO := [o_ 25 (.mv (t_ 23)), o_ 5 (.mv (t_ 25))]
def f119g9 : List RO := [o_ 26 (.mv (t_ 4)), o_ 27 (.mv (t_ 3)), o_ 28 (.mv (t_ 5)), o_ 29 (.bin .mul (.const (.int .i64 8)) (t_ 28)), o_ 30 (.bin .sub (.const (.int .i64 56)) (t_ 29)), o_ 31 (.bin .shr (t_ 27) (t_ 30)), o_ 32 (.cvI .u8 (t_ 31)), o_ 33 (.bslice 1 [(t_ 32)]), o_ 34 (.appE 1 1 (t_ 26) (t_ 33)), o_ 4 (.mv (t_ 34))]
def f119g10 : List RO := [o_ 35 (.bin .add (t_ 23) (.const (.int .i64 1))), o_ 23 (.mv (t_ 35))]
def f119b11 : RCode := (.seq (.reg .false f119g7) (.seq (.cond (t_ 24) .skip (.exit 2)) (.seq (.block 3 (.seq (.reg .false f119g8) (.reg .false f119g9))) (.reg .false f119g10))))
def f119g12 : List RO := [o_ 36 (.load (.some 73) (t_ 1)), o_ 37 (.mv (t_ 4)), o_ 38 (.cvS (t_ 37)), o_ 39 (.call (.func 117) [(t_ 36), (t_ 38)]), n_ (.store 73 (t_ 1) (t_ 39))]
def f119g13 : List RO := [o_ 6 (.newR ((Arr.zero 32).l.map (aI .u8)))]
def f119g14 : List RO := [o_ 40 (.mv (.const (.int .i64 0)))]
def f119g15 : List RO := [o_ 41 (.bin .lss (t_ 40) (.const (.int .i64 32)))]
def f119g16 : List RO := [o_ 42 (.mv (t_ 40)), o_ 7 (.mv (t_ 42))]
def f119g17 : List RO := [o_ 43 (.mv (t_ 7)), o_ 44 (.mv (t_ 7)), o_ 45 (.bin .quo (t_ 44) (.const (.int .i64 4))), o_ 46 (.faddr 0 (t_ 1)), o_ 47 (.iaddrA 8 1 (t_ 46) (t_ 45)), o_ 48 (.load .none (t_ 47)), o_ 49 (.mv (t_ 7)), o_ 50 (.bin .rem (t_ 49) (.const (.int .i64 4))), o_ 51 (.bin .mul (.const (.int .i64 8)) (t_ 50)), o_ 52 (.bin .sub (.const (.int .i64 24)) (t_ 51)), o_ 53 (.bin .shr (t_ 48) (t_ 52)), o_ 54 (.cvI .u8 (t_ 53)), o_ 55 (.iaddrA 32 1 (t_ 6) (t_ 43)), n_ (.store 1 (t_ 55) (t_ 54))]
def f119g18 : List RO := [o_ 56 (.bin .add (t_ 40) (.const (.int .i64 1))), o_ 40 (.mv (t_ 56))]
def f119b19 : RCode := (.seq (.reg .false f119g15) (.seq (.cond (t_ 41) .skip (.exit 4)) (.seq (.block 5 (.seq (.reg .false f119g16) (.reg .false f119g17))) (.reg .false f119g18))))
def f119g20 : List RO := [o_ 57 (.load (.some 32) (t_ 6)), n_ (.store 32 (t_ 2) (t_ 57))]
def f119c : RCode := (.seq (.reg .false f119g0) (.seq (.reg .false f119g1) (.seq (.reg .false f119g2) (.seq (.block 0 (.loop f119b5)) (.seq (.seq (.reg .false f119g6) (.block 2 (.loop f119b11))) (.seq (.reg .false f119g12) (.seq (.reg .false f119g13) (.seq (.seq (.reg .false f119g14) (.block 4 (.loop f119b19))) (.seq (.reg .false f119g20) .ret)))))))))
def f119r : List RRes := [(.cell (.some 32) 2)]
attribute [push_cast] f119g0 f119g1 f119g2 f119g3 f119g4 f119g6 f119g7 f119g8 f119g9 f119g10 f119g12 f119g13 f119g14 f119g15 f119g16 f119g17 f119g18 f119g20
def L_hash_Stream_Sum_2 (N : Nat) (v4 : HashStream) : Nat → Int → (Arr 32) → Option (Arr 32)
  | 0, _, _ => none
  | m5+1, a5, a6 => if? (decide (a5 < 32)) (ck .i64 (Int.tdiv a5 4) (gd? (0 ≤ (Int.tdiv a5 4)) (gd? ((Int.tdiv a5 4) < 8) (get? v4.state.l ((Int.tdiv a5 4)) fun x7 => ck .i64 (8 * (Int.tmod a5 4)) (ck .i64 (24 - (8 * (Int.tmod a5 4))) (gd? (0 ≤ (24 - (8 * (Int.tmod a5 4)))) (gd? ((24 - (8 * (Int.tmod a5 4))) ≤ (IntKind.bits .u32 : Int)) (gd? (0 ≤ a5) (gd? (a5 < 32) (ck .i64 (a5 + 1) (L_hash_Stream_Sum_2 N v4 m5 (a5 + 1) (a6.set a5.toNat (IntKind.wrap .u8 ((x7 / 2 ^ (24 - (8 * (Int.tmod a5 4))).toNat))))))))))))))) (some (a6))
def I_hash_Stream_Sum_2 (N : Nat) (v4 : HashStream) (r : (Arr 32)) (n : Nat) (s : AState) : Prop := ∃ (a5 : Int) (a6 : (Arr 32)), L_hash_Stream_Sum_2 N v4 n a5 a6 = some r ∧ s = ⟨envL [(1, .eptr (.O 0) 1 0 0), (2, .eptr (.O 1) 1 0 0), (6, .eptr (.O 2) 1 0 0), (40, .D (.I .i64 a5))], ownL [], ownL [some (.row true 1 ((v4.state.l.map (rI .u32)) ++ ((v4.block.l.map (rI .u8)) ++ ([[.I .u64 v4.n]])))), some (.row true 1 ((Arr.zero 32).l.map (rI .u8))), some (.row true 1 (a6.l.map (rI .u8)))], 3⟩
def L_hash_Stream_Sum_1 (N : Nat) (p0 : HashStream) : Nat → Int → (List Int) → Option (Arr 32)
  | 0, _, _ => none
  | m3+1, a2, a3 => if? (decide (a2 < 8)) (ck .i64 (8 * a2) (ck .i64 (56 - (8 * a2)) (gd? (0 ≤ (56 - (8 * a2))) (gd? ((56 - (8 * a2)) ≤ (IntKind.bits .u64 : Int)) (gd? ((a3.length + [(IntKind.wrap .u8 (((IntKind.wrap .u64 (8 * p0.n)) / 2 ^ (56 - (8 * a2)).toNat)))].length) * 1 ≤ 140737488355328) (ck .i64 (a2 + 1) (L_hash_Stream_Sum_1 N p0 m3 (a2 + 1) (a3 ++ [(IntKind.wrap .u8 (((IntKind.wrap .u64 (8 * p0.n)) / 2 ^ (56 - (8 * a2)).toNat)))])))))))) (bd? (F_hash_Stream_Add N p0 (bytesI a3)) fun v4 => L_hash_Stream_Sum_2 N v4 N 0 (Arr.zero 32))
def I_hash_Stream_Sum_1 (N : Nat) (p0 : HashStream) (r : (Arr 32)) (n : Nat) (s : AState) : Prop := ∃ (a2 : Int) (a3 : (List Int)), L_hash_Stream_Sum_1 N p0 n a2 a3 = some r ∧ s = ⟨envL [(1, .eptr (.O 0) 1 0 0), (2, .eptr (.O 1) 1 0 0), (3, .D (.I .u64 (IntKind.wrap .u64 (8 * p0.n)))), (4, .sl (.O 2) 1 0 a3.length), (23, .D (.I .i64 a2))], ownL [], ownL [some (.row true 1 ((p0.state.l.map (rI .u32)) ++ ((p0.block.l.map (rI .u8)) ++ ([[.I .u64 p0.n]])))), some (.row true 1 ((Arr.zero 32).l.map (rI .u8))), some (.row true 1 (a3.map (rI .u8)))], 3⟩
def L_hash_Stream_Sum_0 (N : Nat) (p0 : HashStream) : Nat → (List Int) → Option (Arr 32)
  | 0, _ => none
  | m1+1, a1 => ck .i64 (p0.n) (ck .i64 ((p0.n) + (a1.length : Int)) (if? (((Int.tmod ((p0.n) + (a1.length : Int)) 64) != 56)) (gd? ((a1.length + [0].length) * 1 ≤ 140737488355328) (L_hash_Stream_Sum_0 N p0 m1 (a1 ++ [0]))) (L_hash_Stream_Sum_1 N p0 N 0 a1)))
def I_hash_Stream_Sum_0 (N : Nat) (p0 : HashStream) (r : (Arr 32)) (n : Nat) (s : AState) : Prop := ∃ (a1 : (List Int)), L_hash_Stream_Sum_0 N p0 n a1 = some r ∧ s = ⟨envL [(1, .eptr (.O 0) 1 0 0), (2, .eptr (.O 1) 1 0 0), (3, .D (.I .u64 (IntKind.wrap .u64 (8 * p0.n)))), (4, .sl (.O 2) 1 0 a1.length)], ownL [], ownL [some (.row true 1 ((p0.state.l.map (rI .u32)) ++ ((p0.block.l.map (rI .u8)) ++ ([[.I .u64 p0.n]])))), some (.row true 1 ((Arr.zero 32).l.map (rI .u8))), some (.row true 1 (a1.map (rI .u8)))], 3⟩
def F_hash_Stream_Sum (N : Nat) (p0 : HashStream) : Option (Arr 32) := L_hash_Stream_Sum_0 N p0 N [128]
theorem c_hash_Stream_Sum (N : Nat) (p0 : HashStream) (r : (Arr 32)) (h : F_hash_Stream_Sum N p0 = some r) : ACall Tryd.prog 119 [.agg ((p0.state.l.map (aI .u32)) ++ ((p0.block.l.map (aI .u8)) ++ ([.D (.I .u64 p0.n)])))] [] (.agg (r.l.map (aI .u8))) [] [] := by
  refine ACall.of_bodyW [22, 34] (fn := Tryd.f119) (rc := f119c) (rs := f119r) Tryd.func119 rfl rfl (by kernel_rfl) (by kernel_rfl) (by kernel_rfl) (by rw [Tryd.ntmps119]; simp) ?_
  unfold F_hash_Stream_Sum at h
  unfold f119c f119r
  rw [entry_eq _ _]
  simp (disch := first | assumption | (simp; done) | omega | (simp; omega)) only [push_cast, seval]
  refine loop_of (I_hash_Stream_Sum_0 N p0 _) N [1, 2, 3, 4] [0, 1, 2] (by decide) ⟨[128], h, ?_⟩ ?_
  · rw [wk_mk]
    simp (disch := first | assumption | (simp; done) | omega | (simp; omega)) only [push_cast, seval] <;> rfl
  rintro n s ⟨a1, h, rfl⟩
  rcases n with _ | m1
  · exact absurd h (by simp [L_hash_Stream_Sum_0])
  rw [L_hash_Stream_Sum_0] at h
  unfold f119b5
  obtain ⟨h341, h⟩ := F_ck h
  try simp (disch := first | assumption | (simp; done) | omega | (simp; omega)) only [push_cast, seval] at h341
  obtain ⟨h342, h⟩ := F_ck h
  try simp (disch := first | assumption | (simp; done) | omega | (simp; omega)) only [push_cast, seval] at h342
  rcases F_if h with ⟨h343, h⟩ | ⟨h343, h⟩
  · try simp (disch := first | assumption | (simp; done) | omega | (simp; omega)) only [push_cast, seval] at h343
    obtain ⟨h344, h⟩ := F_gd h
    try simp (disch := first | assumption | (simp; done) | omega | (simp; omega)) only [push_cast, seval] at h344
    simp (disch := first | assumption | (simp; done) | omega | (simp; omega)) only [push_cast, seval, h341, h342, h343, h344]
    refine lpK_of m1 [1, 2, 3, 4] [0, 1, 4] (by omega) (by decide) ⟨(a1 ++ [0]), (by first | exact h | simpa only [*] using h), ?_⟩
    rw [wk_mk]
    simp (disch := first | assumption | (simp; done) | omega | (simp; omega)) only [push_cast, seval, h341, h342, h343, h344] <;> rfl
  try simp (disch := first | assumption | (simp; done) | omega | (simp; omega)) only [push_cast, seval] at h343
  simp (disch := first | assumption | (simp; done) | omega | (simp; omega)) only [push_cast, seval, h341, h342, h343]
  refine loop_of (I_hash_Stream_Sum_1 N p0 _) N [1, 2, 3, 4, 23] [0, 1, 2] (by decide) ⟨0, a1, h, ?_⟩ ?_
  · rw [wk_mk]
    simp (disch := first | assumption | (simp; done) | omega | (simp; omega)) only [push_cast, seval, h341, h342, h343] <;> rfl
  rintro n s ⟨a2, a3, h, rfl⟩
  rcases n with _ | m3
  · exact absurd h (by simp [L_hash_Stream_Sum_1])
  rw [L_hash_Stream_Sum_1] at h
  unfold f119b11
  rcases F_if h with ⟨h345, h⟩ | ⟨h345, h⟩
  · obtain ⟨h346, h⟩ := F_ck h
    try simp (disch := first | assumption | (simp; done) | omega | (simp; omega)) only [push_cast, seval] at h346
    obtain ⟨h347, h⟩ := F_ck h
    try simp (disch := first | assumption | (simp; done) | omega | (simp; omega)) only [push_cast, seval] at h347
    obtain ⟨h348, h⟩ := F_gd h
    try simp (disch := first | assumption | (simp; done) | omega | (simp; omega)) only [push_cast, seval] at h348
    obtain ⟨h349, h⟩ := F_gd h
    try simp (disch := first | assumption | (simp; done) | omega | (simp; omega)) only [push_cast, seval] at h349
    obtain ⟨h350, h⟩ := F_gd h
    try simp (disch := first | assumption | (simp; done) | omega | (simp; omega)) only [push_cast, seval] at h350
    obtain ⟨h351, h⟩ := F_ck h
    try simp (disch := first | assumption | (simp; done) | omega | (simp; omega)) only [push_cast, seval] at h351
    simp (disch := first | assumption | (simp; done) | omega | (simp; omega)) only [push_cast, seval, h341, h342, h343, h345, h346, h347, h348, h349, h350, h351]
    refine lpK_of m3 [1, 2, 3, 4, 23] [0, 1, 4] (by omega) (by decide) ⟨(a2 + 1), (a3 ++ [(IntKind.wrap .u8 (((IntKind.wrap .u64 (8 * p0.n)) / 2 ^ (56 - (8 * a2)).toNat)))]), (by first | exact h | simpa only [*] using h), ?_⟩
    rw [wk_mk]
    simp (disch := first | assumption | (simp; done) | omega | (simp; omega)) only [push_cast, seval, h341, h342, h343, h345, h346, h347, h348, h349, h350, h351] <;> rfl
  obtain ⟨v4, h352, h⟩ := F_bd h
  simp (disch := first | assumption | (simp; done) | omega | (simp; omega)) only [push_cast, seval, h341, h342, h343, h345]
  refine call_flat (by rfl) (c_hash_Stream_Add N _ _ _ h352) ?_ (by simp [AV.flat, AV.flatL, flatL_aI, flatL_app, DV.flat]) ?_
  · simp (disch := first | assumption | (simp; done) | omega | (simp; omega)) only [push_cast, seval, h341, h342, h343, h345] <;> rfl
  simp (disch := first | assumption | (simp; done) | omega | (simp; omega)) only [push_cast, seval, h341, h342, h343, h345]
  refine loop_of (I_hash_Stream_Sum_2 N v4 _) N [1, 2, 6, 40] [0, 1, 3] (by decide) ⟨0, (Arr.zero 32), h, ?_⟩ ?_
  · rw [wk_mk]
    simp (disch := first | assumption | (simp; done) | omega | (simp; omega)) only [push_cast, seval, h341, h342, h343, h345] <;> rfl
  rintro n s ⟨a5, a6, h, rfl⟩
  rcases n with _ | m5
  · exact absurd h (by simp [L_hash_Stream_Sum_2])
  rw [L_hash_Stream_Sum_2] at h
  unfold f119b19
  rcases F_if h with ⟨h353, h⟩ | ⟨h353, h⟩
  rotate_left
  · obtain rfl := Option.some.inj h
    simp (disch := first | assumption | (simp; done) | omega | (simp; omega)) only [push_cast, seval, h341, h342, h343, h345, h353]
    refine e_ret (.inr rfl) ?_
    simp (disch := first | assumption | (simp; done) | omega | (simp; omega)) only [push_cast, seval, aret, aresults, aresult, h341, h342, h343, h345, h353]
    refine ⟨_, rfl, ?_⟩
    first | (simp (disch := first | assumption | (simp; done) | omega | (simp; omega)) only [push_cast, seval, h341, h342, h343, h345, h353] <;> rfl) | rfl
  obtain ⟨h354, h⟩ := F_ck h
  try simp (disch := first | assumption | (simp; done) | omega | (simp; omega)) only [push_cast, seval] at h354
  obtain ⟨h355, h⟩ := F_gd h
  try simp (disch := first | assumption | (simp; done) | omega | (simp; omega)) only [push_cast, seval] at h355
  obtain ⟨h356, h⟩ := F_gd h
  try simp (disch := first | assumption | (simp; done) | omega | (simp; omega)) only [push_cast, seval] at h356
  obtain ⟨x7, h357, h358, h⟩ := F_get h
  have h360 := get_lt h357 h358
  have h359 := map_getG (rI .u32) h358
  try simp (disch := first | assumption | (simp; done) | omega | (simp; omega)) only [push_cast, seval] at h359
  try simp (disch := first | assumption | (simp; done) | omega | (simp; omega)) only [push_cast, seval] at h357
  try simp (disch := first | assumption | (simp; done) | omega | (simp; omega)) only [push_cast, seval] at h360
  obtain ⟨h361, h⟩ := F_ck h
  try simp (disch := first | assumption | (simp; done) | omega | (simp; omega)) only [push_cast, seval] at h361
  obtain ⟨h362, h⟩ := F_ck h
  try simp (disch := first | assumption | (simp; done) | omega | (simp; omega)) only [push_cast, seval] at h362
  obtain ⟨h363, h⟩ := F_gd h
  try simp (disch := first | assumption | (simp; done) | omega | (simp; omega)) only [push_cast, seval] at h363
  obtain ⟨h364, h⟩ := F_gd h
  try simp (disch := first | assumption | (simp; done) | omega | (simp; omega)) only [push_cast, seval] at h364
  obtain ⟨h365, h⟩ := F_gd h
  obtain ⟨h366, h⟩ := F_gd h
  have h367 := arr_get (rI .u8) a6 (i := a5.toNat) (by omega)
  try simp (disch := first | assumption | (simp; done) | omega | (simp; omega)) only [push_cast, seval] at h367
  obtain ⟨h368, h⟩ := F_ck h
  try simp (disch := first | assumption | (simp; done) | omega | (simp; omega)) only [push_cast, seval] at h368
  simp (disch := first | assumption | (simp; done) | omega | (simp; omega)) only [push_cast, seval, h341, h342, h343, h345, h353, h354, h355, h356, h357, h359, h360, h361, h362, h363, h364, h365, h366, h367, h368]
  refine lpK_of m5 [1, 2, 6, 40] [0, 1, 2] (by omega) (by decide) ⟨(a5 + 1), (a6.set a5.toNat (IntKind.wrap .u8 ((x7 / 2 ^ (24 - (8 * (Int.tmod a5 4))).toNat)))), (by first | exact h | simpa only [*] using h), ?_⟩
  rw [wk_mk]
  simp (disch := first | assumption | (simp; done) | omega | (simp; omega)) only [push_cast, seval, h341, h342, h343, h345, h353, h354, h355, h356, h357, h359, h360, h361, h362, h363, h364, h365, h366, h367, h368] <;> rfl

def f65g0 : List RO := [o_ 4 (.newR ((Arr.zero 16).l.map (aI .u8)))]
def f65g1 : List RO := [o_ 9 (.call (.func 116) []), o_ 10 (.mv (t_ 0)), o_ 11 (.cvI .u8 (t_ 10)), o_ 12 (.bslice 1 [(t_ 11)]), o_ 13 (.cvS (t_ 12)), o_ 14 (.call (.func 117) [(t_ 9), (t_ 13)]), o_ 5 (.newR (((Arr.zero 8).l.map (aI .u32)) ++ (((Arr.zero 64).l.map (aI .u8)) ++ [(.D (.I .u64 0))]))), n_ (.store 73 (t_ 5) (t_ 14))]
def f65g2 : List RO := [o_ 15 (.mv (t_ 1)), o_ 16 (.len .false (t_ 15)), o_ 17 (.mv (.const (.int .i64 0)))]
def f65g3 : List RO := [o_ 18 (.bin .lss (t_ 17) (t_ 16))]
def f65g4 : List RO := [o_ 19 (.iaddr 1 (t_ 15) (t_ 17)), o_ 20 (.load .none (t_ 19)), o_ 7 (.mv (t_ 20))]
def f65g5 : List RO := [o_ 21 (.load (.some 73) (t_ 5)), o_ 22 (.mv (t_ 7)), o_ 23 (.call (.func 118) [(t_ 22)]), o_ 24 (.cvS (t_ 23)), o_ 25 (.call (.func 117) [(t_ 21), (t_ 24)]), n_ (.store 73 (t_ 5) (t_ 25))]
def f65g6 : List RO := [o_ 26 (.bin .add (t_ 17) (.const (.int .i64 1))), o_ 17 (.mv (t_ 26))]
def f65b7 : RCode := (.seq (.reg .false f65g3) (.seq (.cond (t_ 18) .skip (.exit 0)) (.seq (.block 1 (.seq (.reg .false f65g4) (.reg .true f65g5))) (.reg .false f65g6))))
def f65g8 : List RO := [o_ 27 (.load (.some 73) (t_ 5)), o_ 28 (.call (.func 119) [(t_ 27)]), o_ 8 (.newR ((Arr.zero 32).l.map (aI .u8))), n_ (.store 32 (t_ 8) (t_ 28))]
def f65g9 : List RO := [o_ 29 (.slsA 32 (t_ 8) .none (.some (.const (.int .i64 16)))), o_ 30 (.arrP 16 (t_ 29)), o_ 31 (.load (.some 16) (t_ 30)), n_ (.store 16 (t_ 4) (t_ 31))]
def f65c : RCode := (.seq (.reg .false f65g0) (.seq (.reg .true f65g1) (.seq (.seq (.reg .false f65g2) (.block 0 (.loop f65b7))) (.seq (.reg .false f65g8) (.seq (.reg .false f65g9) .ret)))))
def f65r : List RRes := [(.cell (.some 16) 4)]
attribute [push_cast] f65g0 f65g1 f65g2 f65g3 f65g4 f65g5 f65g6 f65g8 f65g9
def L_hash_Of_0 (N : Nat) (p1 : (List Str)) : Nat → Int → (Arr 8) → (Arr 64) → Int → Option (Arr 16)
  | 0, _, _, _, _ => none
  | m1+1, a3, a4, a5, a6 => if? (decide (a3 < (p1.length : Int))) (get? p1 (a3) fun x7 => bd? (F_wire_Bytes N x7) fun v8 => bd? (F_hash_Stream_Add N (HashStream.mk a4 a5 a6) (bytesI v8)) fun v9 => ck .i64 (a3 + 1) (L_hash_Of_0 N p1 m1 (a3 + 1) v9.state v9.block v9.n)) (bd? (F_hash_Stream_Sum N (HashStream.mk a4 a5 a6)) fun v10 => some ((v10.part 0 16)))
def I_hash_Of_0 (N : Nat) (p1 : (List Str)) (r : (Arr 16)) (n : Nat) (s : AState) : Prop := ∃ (a3 : Int) (a4 : (Arr 8)) (a5 : (Arr 64)) (a6 : Int), L_hash_Of_0 N p1 n a3 a4 a5 a6 = some r ∧ s = ⟨envL [(4, .eptr (.O 0) 1 0 0), (5, .eptr (.O 1) 1 0 0), (15, .D (.L (p1.map rS))), (16, .D (.I .i64 (p1.length : Int))), (17, .D (.I .i64 a3))], ownL [], ownL [some (.row true 1 ((Arr.zero 16).l.map (rI .u8))), some (.row true 1 ((a4.l.map (rI .u32)) ++ ((a5.l.map (rI .u8)) ++ ([[.I .u64 a6]]))))], 2⟩
def F_hash_Of (N : Nat) (p0 : Int) (p1 : (List Str)) : Option (Arr 16) := bd? (F_hash_Begin N ) fun v1 => bd? (F_hash_Stream_Add N v1 (bytesI [(IntKind.wrap .u8 (p0))])) fun v2 => L_hash_Of_0 N p1 N 0 v2.state v2.block v2.n
theorem c_hash_Of (N : Nat) (p0 : Int) (p1 : (List Str)) (r : (Arr 16)) (h : F_hash_Of N p0 p1 = some r) : ACall Tryd.prog 65 [.D (.I .i64 p0), .D (.L (p1.map rS))] [] (.agg (r.l.map (aI .u8))) [] [] := by
  refine ACall.of_bodyW [] (fn := Tryd.f65) (rc := f65c) (rs := f65r) Tryd.func65 rfl rfl (by kernel_rfl) (by kernel_rfl) (by kernel_rfl) (by rw [Tryd.ntmps65]; simp) ?_
  unfold F_hash_Of at h
  unfold f65c f65r
  rw [entry_eq _ _]
  obtain ⟨v1, h380, h⟩ := F_bd h
  simp (disch := first | assumption | (simp; done) | omega | (simp; omega)) only [push_cast, seval]
  refine call_flat (by rfl) (c_hash_Begin N _ h380) ?_ (by simp [AV.flat, AV.flatL, flatL_aI, flatL_app, DV.flat]) ?_
  · simp (disch := first | assumption | (simp; done) | omega | (simp; omega)) only [push_cast, seval] <;> rfl
  obtain ⟨v2, h381, h⟩ := F_bd h
  simp (disch := first | assumption | (simp; done) | omega | (simp; omega)) only [push_cast, seval]
  refine call_flat (by rfl) (c_hash_Stream_Add N _ _ _ h381) ?_ (by simp [AV.flat, AV.flatL, flatL_aI, flatL_app, DV.flat]) ?_
  · simp (disch := first | assumption | (simp; done) | omega | (simp; omega)) only [push_cast, seval] <;> rfl
  simp (disch := first | assumption | (simp; done) | omega | (simp; omega)) only [push_cast, seval]
  refine loop_of (I_hash_Of_0 N p1 _) N [4, 5, 15, 16, 17] [0, 2] (by decide) ⟨0, v2.state, v2.block, v2.n, h, ?_⟩ ?_
  · rw [wk_mk]
    simp (disch := first | assumption | (simp; done) | omega | (simp; omega)) only [push_cast, seval] <;> rfl
  rintro n s ⟨a3, a4, a5, a6, h, rfl⟩
  rcases n with _ | m1
  · exact absurd h (by simp [L_hash_Of_0])
  rw [L_hash_Of_0] at h
  unfold f65b7
  rcases F_if h with ⟨h382, h⟩ | ⟨h382, h⟩
  rotate_left
  · obtain ⟨v10, h390, h⟩ := F_bd h
    simp (disch := first | assumption | (simp; done) | omega | (simp; omega)) only [push_cast, seval, h382]
    refine call_flat (by rfl) (c_hash_Stream_Sum N _ _ h390) ?_ (by simp [AV.flat, AV.flatL, flatL_aI, flatL_app, DV.flat]) ?_
    · simp (disch := first | assumption | (simp; done) | omega | (simp; omega)) only [push_cast, seval, h382] <;> rfl
    obtain rfl := Option.some.inj h
    simp (disch := first | assumption | (simp; done) | omega | (simp; omega)) only [push_cast, seval, h382]
    refine e_ret (.inr rfl) ?_
    simp (disch := first | assumption | (simp; done) | omega | (simp; omega)) only [push_cast, seval, aret, aresults, aresult, h382]
    refine ⟨_, rfl, ?_⟩
    first | (simp (disch := first | assumption | (simp; done) | omega | (simp; omega)) only [push_cast, seval, h382] <;> rfl) | rfl
  obtain ⟨x7, h383, h384, h⟩ := F_get h
  have h386 := get_lt h383 h384
  have h385 := map_get rS h384
  try simp (disch := first | assumption | (simp; done) | omega | (simp; omega)) only [push_cast, seval] at h385
  obtain ⟨v8, h387, h⟩ := F_bd h
  simp (disch := first | assumption | (simp; done) | omega | (simp; omega)) only [push_cast, seval, h382, h383, h385, h386]
  refine call_new (by rfl) (c_wire_Bytes N _ _ h387) ?_ rfl ?_
  · simp (disch := first | assumption | (simp; done) | omega | (simp; omega)) only [push_cast, seval, h382, h383, h385, h386] <;> rfl
  obtain ⟨v9, h388, h⟩ := F_bd h
  simp (disch := first | assumption | (simp; done) | omega | (simp; omega)) only [push_cast, seval, h382, h383, h385, h386]
  refine call_flat (by rfl) (c_hash_Stream_Add N _ _ _ h388) ?_ (by simp [AV.flat, AV.flatL, flatL_aI, flatL_app, DV.flat]) ?_
  · simp (disch := first | assumption | (simp; done) | omega | (simp; omega)) only [push_cast, seval, h382, h383, h385, h386] <;> rfl
  obtain ⟨h389, h⟩ := F_ck h
  try simp (disch := first | assumption | (simp; done) | omega | (simp; omega)) only [push_cast, seval] at h389
  simp (disch := first | assumption | (simp; done) | omega | (simp; omega)) only [push_cast, seval, h382, h383, h385, h386, h389]
  refine lpK_of m1 [4, 5, 15, 16, 17] [0, 1] (by omega) (by decide) ⟨(a3 + 1), v9.state, v9.block, v9.n, (by first | exact h | simpa only [*] using h), ?_⟩
  rw [wk_mk]
  simp (disch := first | assumption | (simp; done) | omega | (simp; omega)) only [push_cast, seval, h382, h383, h385, h386, h389] <;> rfl

def f17g0 : List RO := [o_ 2 (.newR ((Arr.zero 16).l.map (aI .u8)))]
def f17g1 : List RO := [o_ 3 (.mv (t_ 0)), o_ 4 (.bslice 1 [(t_ 3)]), o_ 5 (.call (.func 65) [(.const (.int .i64 30)), (t_ 4)]), n_ (.store 16 (t_ 2) (t_ 5))]
def f17c : RCode := (.seq (.reg .false f17g0) (.seq (.reg .false f17g1) .ret))
def f17r : List RRes := [(.cell (.some 16) 2)]
attribute [push_cast] f17g0 f17g1
def F_merkle_Leaf (N : Nat) (p0 : Str) : Option (Arr 16) := bd? (F_hash_Of N 30 [p0]) fun v1 => some (v1)
theorem c_merkle_Leaf (N : Nat) (p0 : Str) (r : (Arr 16)) (h : F_merkle_Leaf N p0 = some r) : ACall Tryd.prog 17 [.D (.S p0)] [] (.agg (r.l.map (aI .u8))) [] [] := by
  refine ACall.of_bodyW [] (fn := Tryd.f17) (rc := f17c) (rs := f17r) Tryd.func17 rfl rfl (by kernel_rfl) (by kernel_rfl) (by kernel_rfl) (by rw [Tryd.ntmps17]; simp) ?_
  unfold F_merkle_Leaf at h
  unfold f17c f17r
  rw [entry_eq _ _]
  obtain ⟨v1, h392, h⟩ := F_bd h
  simp (disch := first | assumption | (simp; done) | omega | (simp; omega)) only [push_cast, seval]
  refine call_flat (by rfl) (c_hash_Of N _ _ _ h392) ?_ (by simp [AV.flat, AV.flatL, flatL_aI, flatL_app, DV.flat]) ?_
  · simp (disch := first | assumption | (simp; done) | omega | (simp; omega)) only [push_cast, seval] <;> rfl
  obtain rfl := Option.some.inj h
  simp (disch := first | assumption | (simp; done) | omega | (simp; omega)) only [push_cast, seval]
  refine e_ret (.inr rfl) ?_
  simp (disch := first | assumption | (simp; done) | omega | (simp; omega)) only [push_cast, seval, aret, aresults, aresult]
  refine ⟨_, rfl, ?_⟩
  first | (simp (disch := first | assumption | (simp; done) | omega | (simp; omega)) only [push_cast, seval] <;> rfl) | rfl

def f22g0 : List RO := [o_ 2 (.boxR (t_ 0)), o_ 3 (.boxR (t_ 1)), o_ 4 (.newR ((Arr.zero 16).l.map (aI .u8)))]
def f22g1 : List RO := [o_ 5 (.slsA 16 (t_ 2) .none .none), o_ 6 (.cvS (t_ 5)), o_ 7 (.slsA 16 (t_ 3) .none .none), o_ 8 (.cvS (t_ 7)), o_ 9 (.bslice 1 [(t_ 6), (t_ 8)]), o_ 10 (.call (.func 65) [(.const (.int .i64 31)), (t_ 9)]), n_ (.store 16 (t_ 4) (t_ 10))]
def f22c : RCode := (.seq (.reg .false f22g0) (.seq (.regS f22g1) .ret))
def f22r : List RRes := [(.cell (.some 16) 4)]
attribute [push_cast] f22g0 f22g1
def F_merkle_Node (N : Nat) (p0 : (Arr 16)) (p1 : (Arr 16)) : Option (Arr 16) := bd? (F_hash_Of N 31 [(bytesI p0.l), (bytesI p1.l)]) fun v1 => some (v1)
theorem c_merkle_Node (N : Nat) (p0 : (Arr 16)) (p1 : (Arr 16)) (r : (Arr 16)) (h : F_merkle_Node N p0 p1 = some r) : ACall Tryd.prog 22 [.agg (p0.l.map (aI .u8)), .agg (p1.l.map (aI .u8))] [] (.agg (r.l.map (aI .u8))) [] [] := by
  refine ACall.of_bodyW [] (fn := Tryd.f22) (rc := f22c) (rs := f22r) Tryd.func22 rfl rfl (by kernel_rfl) (by kernel_rfl) (by kernel_rfl) (by rw [Tryd.ntmps22]; simp) ?_
  unfold F_merkle_Node at h
  unfold f22c f22r
  rw [entry_eq _ _]
  simp (disch := first | assumption | (simp; done) | omega | (simp; omega)) only [push_cast, seval]
  refine regS_of false [.O 0, .O 1] (by rfl) ?_
  obtain ⟨v1, h394, h⟩ := F_bd h
  simp (disch := first | assumption | (simp; done) | omega | (simp; omega)) only [push_cast, seval]
  refine call_flat (by rfl) (c_hash_Of N _ _ _ h394) ?_ (by simp [AV.flat, AV.flatL, flatL_aI, flatL_app, DV.flat]) ?_
  · simp (disch := first | assumption | (simp; done) | omega | (simp; omega)) only [push_cast, seval] <;> rfl
  obtain rfl := Option.some.inj h
  simp (disch := first | assumption | (simp; done) | omega | (simp; omega)) only [push_cast, seval]
  refine e_ret (.inr rfl) ?_
  simp (disch := first | assumption | (simp; done) | omega | (simp; omega)) only [push_cast, seval, aret, aresults, aresult]
  refine ⟨_, rfl, ?_⟩
  first | (simp (disch := first | assumption | (simp; done) | omega | (simp; omega)) only [push_cast, seval] <;> rfl) | rfl

def f143g0 : List RO := [o_ 2 (.mv (.const (.int .i64 0)))]
def f143g1 : List RO := [o_ 3 (.mv (t_ 0)), o_ 4 (.bin .geq (t_ 3) (.const (.int .u64 4294967296)))]
def f143g2 : List RO := [o_ 5 (.mv (t_ 0)), o_ 6 (.bin .shr (t_ 5) (.const (.int .u64 32))), o_ 0 (.mv (t_ 6))]
def f143g3 : List RO := [o_ 2 (.mv (.const (.int .i64 32)))]
def f143g4 : List RO := [o_ 7 (.mv (t_ 0)), o_ 8 (.bin .geq (t_ 7) (.const (.int .u64 65536)))]
def f143g5 : List RO := [o_ 9 (.mv (t_ 0)), o_ 10 (.bin .shr (t_ 9) (.const (.int .u64 16))), o_ 0 (.mv (t_ 10))]
def f143g6 : List RO := [o_ 11 (.mv (t_ 2)), o_ 12 (.bin .add (t_ 11) (.const (.int .i64 16))), o_ 2 (.mv (t_ 12))]
def f143g7 : List RO := [o_ 13 (.mv (t_ 0)), o_ 14 (.bin .geq (t_ 13) (.const (.int .u64 256)))]
def f143g8 : List RO := [o_ 15 (.mv (t_ 0)), o_ 16 (.bin .shr (t_ 15) (.const (.int .u64 8))), o_ 0 (.mv (t_ 16))]
def f143g9 : List RO := [o_ 17 (.mv (t_ 2)), o_ 18 (.bin .add (t_ 17) (.const (.int .i64 8))), o_ 2 (.mv (t_ 18))]
def f143g10 : List RO := [o_ 19 (.mv (t_ 2)), o_ 20 (.mv (t_ 0)), o_ 21 (.cvI .u8 (t_ 20)), o_ 22 (.ixs (.const (.string ⟨kstr0.toArray⟩)) (t_ 21)), o_ 23 (.cvI .i64 (t_ 22)), o_ 24 (.bin .add (t_ 19) (t_ 23)), o_ 2 (.mv (t_ 24))]
def f143c : RCode := (.seq (.reg .false f143g0) (.seq (.seq (.reg .false f143g1) (.cond (t_ 4) (.seq (.reg .false f143g2) (.reg .false f143g3)) .skip)) (.seq (.seq (.reg .false f143g4) (.cond (t_ 8) (.seq (.reg .false f143g5) (.reg .false f143g6)) .skip)) (.seq (.seq (.reg .false f143g7) (.cond (t_ 14) (.seq (.reg .false f143g8) (.reg .false f143g9)) .skip)) (.seq (.reg .false f143g10) .ret)))))
def f143r : List RRes := [(.tmp 2)]
attribute [push_cast] f143g0 f143g1 f143g2 f143g3 f143g4 f143g5 f143g6 f143g7 f143g8 f143g9 f143g10
def F_bits_Len64 (N : Nat) (p0 : Int) : Option Int := if? (decide (p0 ≥ 4294967296)) (if? (decide ((p0 / 2 ^ (32 : Int).toNat) ≥ 65536)) (ck .i64 (32 + 16) (if? (decide (((p0 / 2 ^ (32 : Int).toNat) / 2 ^ (16 : Int).toNat) ≥ 256)) (ck .i64 ((32 + 16) + 8) (get? kstr0 ((IntKind.wrap .u8 ((((p0 / 2 ^ (32 : Int).toNat) / 2 ^ (16 : Int).toNat) / 2 ^ (8 : Int).toNat)))) fun b1 => ck .i64 ((b1.toNat : Int)) (ck .i64 (((32 + 16) + 8) + ((b1.toNat : Int))) (some ((((32 + 16) + 8) + ((b1.toNat : Int)))))))) (get? kstr0 ((IntKind.wrap .u8 (((p0 / 2 ^ (32 : Int).toNat) / 2 ^ (16 : Int).toNat)))) fun b2 => ck .i64 ((b2.toNat : Int)) (ck .i64 ((32 + 16) + ((b2.toNat : Int))) (some (((32 + 16) + ((b2.toNat : Int))))))))) (if? (decide ((p0 / 2 ^ (32 : Int).toNat) ≥ 256)) (ck .i64 (32 + 8) (get? kstr0 ((IntKind.wrap .u8 (((p0 / 2 ^ (32 : Int).toNat) / 2 ^ (8 : Int).toNat)))) fun b3 => ck .i64 ((b3.toNat : Int)) (ck .i64 ((32 + 8) + ((b3.toNat : Int))) (some (((32 + 8) + ((b3.toNat : Int)))))))) (get? kstr0 ((IntKind.wrap .u8 ((p0 / 2 ^ (32 : Int).toNat)))) fun b4 => ck .i64 ((b4.toNat : Int)) (ck .i64 (32 + ((b4.toNat : Int))) (some ((32 + ((b4.toNat : Int))))))))) (if? (decide (p0 ≥ 65536)) (ck .i64 (0 + 16) (if? (decide ((p0 / 2 ^ (16 : Int).toNat) ≥ 256)) (ck .i64 ((0 + 16) + 8) (get? kstr0 ((IntKind.wrap .u8 (((p0 / 2 ^ (16 : Int).toNat) / 2 ^ (8 : Int).toNat)))) fun b5 => ck .i64 ((b5.toNat : Int)) (ck .i64 (((0 + 16) + 8) + ((b5.toNat : Int))) (some ((((0 + 16) + 8) + ((b5.toNat : Int)))))))) (get? kstr0 ((IntKind.wrap .u8 ((p0 / 2 ^ (16 : Int).toNat)))) fun b6 => ck .i64 ((b6.toNat : Int)) (ck .i64 ((0 + 16) + ((b6.toNat : Int))) (some (((0 + 16) + ((b6.toNat : Int))))))))) (if? (decide (p0 ≥ 256)) (ck .i64 (0 + 8) (get? kstr0 ((IntKind.wrap .u8 ((p0 / 2 ^ (8 : Int).toNat)))) fun b7 => ck .i64 ((b7.toNat : Int)) (ck .i64 ((0 + 8) + ((b7.toNat : Int))) (some (((0 + 8) + ((b7.toNat : Int)))))))) (get? kstr0 ((IntKind.wrap .u8 (p0))) fun b8 => ck .i64 ((b8.toNat : Int)) (ck .i64 (0 + ((b8.toNat : Int))) (some ((0 + ((b8.toNat : Int)))))))))
theorem c_bits_Len64 (N : Nat) (p0 : Int) (r : Int) (h : F_bits_Len64 N p0 = some r) : ACall Tryd.prog 143 [.D (.I .u64 p0)] [] (.D (.I .i64 r)) [] [] := by
  refine ACall.of_bodyW [] (fn := Tryd.f143) (rc := f143c) (rs := f143r) Tryd.func143 rfl rfl (by kernel_rfl) (by kernel_rfl) (by kernel_rfl) (by rw [Tryd.ntmps143]; simp) ?_
  unfold F_bits_Len64 at h
  unfold f143c f143r
  rw [entry_eq _ _]
  rcases F_if h with ⟨h456, h⟩ | ⟨h456, h⟩
  rotate_left
  · rcases F_if h with ⟨h487, h⟩ | ⟨h487, h⟩
    rotate_left
    · rcases F_if h with ⟨h503, h⟩ | ⟨h503, h⟩
      rotate_left
      · obtain ⟨b8, h511, h512, h⟩ := F_get h
        have h514 := get_lt h511 h512
        try simp (disch := first | assumption | (simp; done) | omega | (simp; omega)) only [push_cast, seval] at h512
        try simp (disch := first | assumption | (simp; done) | omega | (simp; omega)) only [push_cast, seval] at h511
        try simp (disch := first | assumption | (simp; done) | omega | (simp; omega)) only [push_cast, seval] at h514
        obtain ⟨h515, h⟩ := F_ck h
        try simp (disch := first | assumption | (simp; done) | omega | (simp; omega)) only [push_cast, seval] at h515
        obtain ⟨h516, h⟩ := F_ck h
        try simp (disch := first | assumption | (simp; done) | omega | (simp; omega)) only [push_cast, seval] at h516
        obtain rfl := Option.some.inj h
        simp (disch := first | assumption | (simp; done) | omega | (simp; omega)) only [push_cast, seval, h456, h487, h503, h511, h512, h514, h515, h516]
        refine e_ret (.inr rfl) ?_
        simp (disch := first | assumption | (simp; done) | omega | (simp; omega)) only [push_cast, seval, aret, aresults, aresult, h456, h487, h503, h511, h512, h514, h515, h516]
        refine ⟨_, rfl, ?_⟩
        first | (simp (disch := first | assumption | (simp; done) | omega | (simp; omega)) only [push_cast, seval, h456, h487, h503, h511, h512, h514, h515, h516] <;> rfl) | rfl
      obtain ⟨h504, h⟩ := F_ck h
      try simp (disch := first | assumption | (simp; done) | omega | (simp; omega)) only [push_cast, seval] at h504
      obtain ⟨b7, h505, h506, h⟩ := F_get h
      have h508 := get_lt h505 h506
      try simp (disch := first | assumption | (simp; done) | omega | (simp; omega)) only [push_cast, seval] at h506
      try simp (disch := first | assumption | (simp; done) | omega | (simp; omega)) only [push_cast, seval] at h505
      try simp (disch := first | assumption | (simp; done) | omega | (simp; omega)) only [push_cast, seval] at h508
      obtain ⟨h509, h⟩ := F_ck h
      try simp (disch := first | assumption | (simp; done) | omega | (simp; omega)) only [push_cast, seval] at h509
      obtain ⟨h510, h⟩ := F_ck h
      try simp (disch := first | assumption | (simp; done) | omega | (simp; omega)) only [push_cast, seval] at h510
      obtain rfl := Option.some.inj h
      simp (disch := first | assumption | (simp; done) | omega | (simp; omega)) only [push_cast, seval, h456, h487, h503, h504, h505, h506, h508, h509, h510]
      refine e_ret (.inr rfl) ?_
      simp (disch := first | assumption | (simp; done) | omega | (simp; omega)) only [push_cast, seval, aret, aresults, aresult, h456, h487, h503, h504, h505, h506, h508, h509, h510]
      refine ⟨_, rfl, ?_⟩
      first | (simp (disch := first | assumption | (simp; done) | omega | (simp; omega)) only [push_cast, seval, h456, h487, h503, h504, h505, h506, h508, h509, h510] <;> rfl) | rfl
    obtain ⟨h488, h⟩ := F_ck h
    try simp (disch := first | assumption | (simp; done) | omega | (simp; omega)) only [push_cast, seval] at h488
    rcases F_if h with ⟨h489, h⟩ | ⟨h489, h⟩
    rotate_left
    · try simp (disch := first | assumption | (simp; done) | omega | (simp; omega)) only [push_cast, seval] at h489
      obtain ⟨b6, h497, h498, h⟩ := F_get h
      have h500 := get_lt h497 h498
      try simp (disch := first | assumption | (simp; done) | omega | (simp; omega)) only [push_cast, seval] at h498
      try simp (disch := first | assumption | (simp; done) | omega | (simp; omega)) only [push_cast, seval] at h497
      try simp (disch := first | assumption | (simp; done) | omega | (simp; omega)) only [push_cast, seval] at h500
      obtain ⟨h501, h⟩ := F_ck h
      try simp (disch := first | assumption | (simp; done) | omega | (simp; omega)) only [push_cast, seval] at h501
      obtain ⟨h502, h⟩ := F_ck h
      try simp (disch := first | assumption | (simp; done) | omega | (simp; omega)) only [push_cast, seval] at h502
      obtain rfl := Option.some.inj h
      simp (disch := first | assumption | (simp; done) | omega | (simp; omega)) only [push_cast, seval, h456, h487, h488, h489, h497, h498, h500, h501, h502]
      refine e_ret (.inr rfl) ?_
      simp (disch := first | assumption | (simp; done) | omega | (simp; omega)) only [push_cast, seval, aret, aresults, aresult, h456, h487, h488, h489, h497, h498, h500, h501, h502]
      refine ⟨_, rfl, ?_⟩
      first | (simp (disch := first | assumption | (simp; done) | omega | (simp; omega)) only [push_cast, seval, h456, h487, h488, h489, h497, h498, h500, h501, h502] <;> rfl) | rfl
    try simp (disch := first | assumption | (simp; done) | omega | (simp; omega)) only [push_cast, seval] at h489
    obtain ⟨h490, h⟩ := F_ck h
    try simp (disch := first | assumption | (simp; done) | omega | (simp; omega)) only [push_cast, seval] at h490
    obtain ⟨b5, h491, h492, h⟩ := F_get h
    have h494 := get_lt h491 h492
    try simp (disch := first | assumption | (simp; done) | omega | (simp; omega)) only [push_cast, seval] at h492
    try simp (disch := first | assumption | (simp; done) | omega | (simp; omega)) only [push_cast, seval] at h491
    try simp (disch := first | assumption | (simp; done) | omega | (simp; omega)) only [push_cast, seval] at h494
    obtain ⟨h495, h⟩ := F_ck h
    try simp (disch := first | assumption | (simp; done) | omega | (simp; omega)) only [push_cast, seval] at h495
    obtain ⟨h496, h⟩ := F_ck h
    try simp (disch := first | assumption | (simp; done) | omega | (simp; omega)) only [push_cast, seval] at h496
    obtain rfl := Option.some.inj h
    simp (disch := first | assumption | (simp; done) | omega | (simp; omega)) only [push_cast, seval, h456, h487, h488, h489, h490, h491, h492, h494, h495, h496]
    refine e_ret (.inr rfl) ?_
    simp (disch := first | assumption | (simp; done) | omega | (simp; omega)) only [push_cast, seval, aret, aresults, aresult, h456, h487, h488, h489, h490, h491, h492, h494, h495, h496]
    refine ⟨_, rfl, ?_⟩
    first | (simp (disch := first | assumption | (simp; done) | omega | (simp; omega)) only [push_cast, seval, h456, h487, h488, h489, h490, h491, h492, h494, h495, h496] <;> rfl) | rfl
  rcases F_if h with ⟨h457, h⟩ | ⟨h457, h⟩
  rotate_left
  · try simp (disch := first | assumption | (simp; done) | omega | (simp; omega)) only [push_cast, seval] at h457
    rcases F_if h with ⟨h473, h⟩ | ⟨h473, h⟩
    rotate_left
    · try simp (disch := first | assumption | (simp; done) | omega | (simp; omega)) only [push_cast, seval] at h473
      obtain ⟨b4, h481, h482, h⟩ := F_get h
      have h484 := get_lt h481 h482
      try simp (disch := first | assumption | (simp; done) | omega | (simp; omega)) only [push_cast, seval] at h482
      try simp (disch := first | assumption | (simp; done) | omega | (simp; omega)) only [push_cast, seval] at h481
      try simp (disch := first | assumption | (simp; done) | omega | (simp; omega)) only [push_cast, seval] at h484
      obtain ⟨h485, h⟩ := F_ck h
      try simp (disch := first | assumption | (simp; done) | omega | (simp; omega)) only [push_cast, seval] at h485
      obtain ⟨h486, h⟩ := F_ck h
      try simp (disch := first | assumption | (simp; done) | omega | (simp; omega)) only [push_cast, seval] at h486
      obtain rfl := Option.some.inj h
      simp (disch := first | assumption | (simp; done) | omega | (simp; omega)) only [push_cast, seval, h456, h457, h473, h481, h482, h484, h485, h486]
      refine e_ret (.inr rfl) ?_
      simp (disch := first | assumption | (simp; done) | omega | (simp; omega)) only [push_cast, seval, aret, aresults, aresult, h456, h457, h473, h481, h482, h484, h485, h486]
      refine ⟨_, rfl, ?_⟩
      first | (simp (disch := first | assumption | (simp; done) | omega | (simp; omega)) only [push_cast, seval, h456, h457, h473, h481, h482, h484, h485, h486] <;> rfl) | rfl
    try simp (disch := first | assumption | (simp; done) | omega | (simp; omega)) only [push_cast, seval] at h473
    obtain ⟨h474, h⟩ := F_ck h
    try simp (disch := first | assumption | (simp; done) | omega | (simp; omega)) only [push_cast, seval] at h474
    obtain ⟨b3, h475, h476, h⟩ := F_get h
    have h478 := get_lt h475 h476
    try simp (disch := first | assumption | (simp; done) | omega | (simp; omega)) only [push_cast, seval] at h476
    try simp (disch := first | assumption | (simp; done) | omega | (simp; omega)) only [push_cast, seval] at h475
    try simp (disch := first | assumption | (simp; done) | omega | (simp; omega)) only [push_cast, seval] at h478
    obtain ⟨h479, h⟩ := F_ck h
    try simp (disch := first | assumption | (simp; done) | omega | (simp; omega)) only [push_cast, seval] at h479
    obtain ⟨h480, h⟩ := F_ck h
    try simp (disch := first | assumption | (simp; done) | omega | (simp; omega)) only [push_cast, seval] at h480
    obtain rfl := Option.some.inj h
    simp (disch := first | assumption | (simp; done) | omega | (simp; omega)) only [push_cast, seval, h456, h457, h473, h474, h475, h476, h478, h479, h480]
    refine e_ret (.inr rfl) ?_
    simp (disch := first | assumption | (simp; done) | omega | (simp; omega)) only [push_cast, seval, aret, aresults, aresult, h456, h457, h473, h474, h475, h476, h478, h479, h480]
    refine ⟨_, rfl, ?_⟩
    first | (simp (disch := first | assumption | (simp; done) | omega | (simp; omega)) only [push_cast, seval, h456, h457, h473, h474, h475, h476, h478, h479, h480] <;> rfl) | rfl
  try simp (disch := first | assumption | (simp; done) | omega | (simp; omega)) only [push_cast, seval] at h457
  obtain ⟨h458, h⟩ := F_ck h
  try simp (disch := first | assumption | (simp; done) | omega | (simp; omega)) only [push_cast, seval] at h458
  rcases F_if h with ⟨h459, h⟩ | ⟨h459, h⟩
  rotate_left
  · try simp (disch := first | assumption | (simp; done) | omega | (simp; omega)) only [push_cast, seval] at h459
    obtain ⟨b2, h467, h468, h⟩ := F_get h
    have h470 := get_lt h467 h468
    try simp (disch := first | assumption | (simp; done) | omega | (simp; omega)) only [push_cast, seval] at h468
    try simp (disch := first | assumption | (simp; done) | omega | (simp; omega)) only [push_cast, seval] at h467
    try simp (disch := first | assumption | (simp; done) | omega | (simp; omega)) only [push_cast, seval] at h470
    obtain ⟨h471, h⟩ := F_ck h
    try simp (disch := first | assumption | (simp; done) | omega | (simp; omega)) only [push_cast, seval] at h471
    obtain ⟨h472, h⟩ := F_ck h
    try simp (disch := first | assumption | (simp; done) | omega | (simp; omega)) only [push_cast, seval] at h472
    obtain rfl := Option.some.inj h
    simp (disch := first | assumption | (simp; done) | omega | (simp; omega)) only [push_cast, seval, h456, h457, h458, h459, h467, h468, h470, h471, h472]
    refine e_ret (.inr rfl) ?_
    simp (disch := first | assumption | (simp; done) | omega | (simp; omega)) only [push_cast, seval, aret, aresults, aresult, h456, h457, h458, h459, h467, h468, h470, h471, h472]
    refine ⟨_, rfl, ?_⟩
    first | (simp (disch := first | assumption | (simp; done) | omega | (simp; omega)) only [push_cast, seval, h456, h457, h458, h459, h467, h468, h470, h471, h472] <;> rfl) | rfl
  try simp (disch := first | assumption | (simp; done) | omega | (simp; omega)) only [push_cast, seval] at h459
  obtain ⟨h460, h⟩ := F_ck h
  try simp (disch := first | assumption | (simp; done) | omega | (simp; omega)) only [push_cast, seval] at h460
  obtain ⟨b1, h461, h462, h⟩ := F_get h
  have h464 := get_lt h461 h462
  try simp (disch := first | assumption | (simp; done) | omega | (simp; omega)) only [push_cast, seval] at h462
  try simp (disch := first | assumption | (simp; done) | omega | (simp; omega)) only [push_cast, seval] at h461
  try simp (disch := first | assumption | (simp; done) | omega | (simp; omega)) only [push_cast, seval] at h464
  obtain ⟨h465, h⟩ := F_ck h
  try simp (disch := first | assumption | (simp; done) | omega | (simp; omega)) only [push_cast, seval] at h465
  obtain ⟨h466, h⟩ := F_ck h
  try simp (disch := first | assumption | (simp; done) | omega | (simp; omega)) only [push_cast, seval] at h466
  obtain rfl := Option.some.inj h
  simp (disch := first | assumption | (simp; done) | omega | (simp; omega)) only [push_cast, seval, h456, h457, h458, h459, h460, h461, h462, h464, h465, h466]
  refine e_ret (.inr rfl) ?_
  simp (disch := first | assumption | (simp; done) | omega | (simp; omega)) only [push_cast, seval, aret, aresults, aresult, h456, h457, h458, h459, h460, h461, h462, h464, h465, h466]
  refine ⟨_, rfl, ?_⟩
  first | (simp (disch := first | assumption | (simp; done) | omega | (simp; omega)) only [push_cast, seval, h456, h457, h458, h459, h460, h461, h462, h464, h465, h466] <;> rfl) | rfl

def f114g0 : List RO := [o_ 2 (.mv (.const (.int .i64 0)))]
def f114g1 : List RO := [o_ 3 (.mv (t_ 0)), o_ 4 (.cvI .u32 (t_ 3)), o_ 5 (.call (.func 142) [(t_ 4)]), o_ 2 (.mv (t_ 5))]
def f114g2 : List RO := [o_ 6 (.mv (t_ 0)), o_ 7 (.call (.func 143) [(t_ 6)]), o_ 2 (.mv (t_ 7))]
def f114c : RCode := (.seq (.reg .false f114g0) (.seq (.cond (.const (.bool .false)) (.seq (.reg .false f114g1) .ret) .skip) (.seq (.reg .false f114g2) .ret)))
def f114r : List RRes := [(.tmp 2)]
attribute [push_cast] f114g0 f114g1 f114g2
def F_bits_Len (N : Nat) (p0 : Int) : Option Int := bd? (F_bits_Len64 N p0) fun v1 => some (v1)
theorem c_bits_Len (N : Nat) (p0 : Int) (r : Int) (h : F_bits_Len N p0 = some r) : ACall Tryd.prog 114 [.D (.I .u64 p0)] [] (.D (.I .i64 r)) [] [] := by
  refine ACall.of_bodyW [] (fn := Tryd.f114) (rc := f114c) (rs := f114r) Tryd.func114 rfl rfl (by kernel_rfl) (by kernel_rfl) (by kernel_rfl) (by rw [Tryd.ntmps114]; simp) ?_
  unfold F_bits_Len at h
  unfold f114c f114r
  rw [entry_eq _ _]
  obtain ⟨v1, h518, h⟩ := F_bd h
  simp (disch := first | assumption | (simp; done) | omega | (simp; omega)) only [push_cast, seval]
  refine call_flat (by rfl) (c_bits_Len64 N _ _ h518) ?_ rfl ?_
  · simp (disch := first | assumption | (simp; done) | omega | (simp; omega)) only [push_cast, seval] <;> rfl
  obtain rfl := Option.some.inj h
  simp (disch := first | assumption | (simp; done) | omega | (simp; omega)) only [push_cast, seval]
  refine e_ret (.inr rfl) ?_
  simp (disch := first | assumption | (simp; done) | omega | (simp; omega)) only [push_cast, seval, aret, aresults, aresult]
  refine ⟨_, rfl, ?_⟩
  first | (simp (disch := first | assumption | (simp; done) | omega | (simp; omega)) only [push_cast, seval] <;> rfl) | rfl

def f61g0 : List RO := [o_ 2 (.mv (.const (.int .i64 0)))]
def f61g1 : List RO := [o_ 3 (.mv (t_ 0)), o_ 4 (.bin .sub (t_ 3) (.const (.int .i64 1))), o_ 5 (.cvI .u64 (t_ 4)), o_ 6 (.call (.func 114) [(t_ 5)]), o_ 7 (.bin .sub (t_ 6) (.const (.int .i64 1))), o_ 8 (.bin .shl (.const (.int .i64 1)) (t_ 7)), o_ 2 (.mv (t_ 8))]
def f61c : RCode := (.seq (.reg .false f61g0) (.seq (.reg .false f61g1) .ret))
def f61r : List RRes := [(.tmp 2)]
attribute [push_cast] f61g0 f61g1
def F_merkle_split (N : Nat) (p0 : Int) : Option Int := ck .i64 (p0 - 1) (bd? (F_bits_Len N (IntKind.wrap .u64 ((p0 - 1)))) fun v1 => ck .i64 (v1 - 1) (gd? (0 ≤ (v1 - 1)) (gd? ((v1 - 1) ≤ (IntKind.bits .i64 : Int)) (ck .i64 (1 * 2 ^ (v1 - 1).toNat) (some ((1 * 2 ^ (v1 - 1).toNat)))))))
theorem c_merkle_split (N : Nat) (p0 : Int) (r : Int) (h : F_merkle_split N p0 = some r) : ACall Tryd.prog 61 [.D (.I .i64 p0)] [] (.D (.I .i64 r)) [] [] := by
  refine ACall.of_bodyW [] (fn := Tryd.f61) (rc := f61c) (rs := f61r) Tryd.func61 rfl rfl (by kernel_rfl) (by kernel_rfl) (by kernel_rfl) (by rw [Tryd.ntmps61]; simp) ?_
  unfold F_merkle_split at h
  unfold f61c f61r
  rw [entry_eq _ _]
  obtain ⟨h525, h⟩ := F_ck h
  try simp (disch := first | assumption | (simp; done) | omega | (simp; omega)) only [push_cast, seval] at h525
  obtain ⟨v1, h526, h⟩ := F_bd h
  simp (disch := first | assumption | (simp; done) | omega | (simp; omega)) only [push_cast, seval, h525]
  refine call_flat (by rfl) (c_bits_Len N _ _ h526) ?_ rfl ?_
  · simp (disch := first | assumption | (simp; done) | omega | (simp; omega)) only [push_cast, seval, h525] <;> rfl
  obtain ⟨h527, h⟩ := F_ck h
  try simp (disch := first | assumption | (simp; done) | omega | (simp; omega)) only [push_cast, seval] at h527
  obtain ⟨h528, h⟩ := F_gd h
  try simp (disch := first | assumption | (simp; done) | omega | (simp; omega)) only [push_cast, seval] at h528
  obtain ⟨h529, h⟩ := F_gd h
  try simp (disch := first | assumption | (simp; done) | omega | (simp; omega)) only [push_cast, seval] at h529
  obtain ⟨h530, h⟩ := F_ck h
  try simp (disch := first | assumption | (simp; done) | omega | (simp; omega)) only [push_cast, seval] at h530
  obtain rfl := Option.some.inj h
  simp (disch := first | assumption | (simp; done) | omega | (simp; omega)) only [push_cast, seval, h525, h527, h528, h529, h530]
  refine e_ret (.inr rfl) ?_
  simp (disch := first | assumption | (simp; done) | omega | (simp; omega)) only [push_cast, seval, aret, aresults, aresult, h525, h527, h528, h529, h530]
  refine ⟨_, rfl, ?_⟩
  first | (simp (disch := first | assumption | (simp; done) | omega | (simp; omega)) only [push_cast, seval, h525, h527, h528, h529, h530] <;> rfl) | rfl

def f66g0 : List RO := [o_ 0 (.newR ((Arr.zero 16).l.map (aI .u8)))]
def f66g1 : List RO := [o_ 1 (.call (.func 65) [(.const (.int .i64 32)), (.const (.slice .none 0 0))]), n_ (.store 16 (t_ 0) (t_ 1))]
def f66c : RCode := (.seq (.reg .false f66g0) (.seq (.reg .false f66g1) .ret))
def f66r : List RRes := [(.cell (.some 16) 0)]
attribute [push_cast] f66g0 f66g1
def F_merkle_empty (N : Nat) : Option (Arr 16) := bd? (F_hash_Of N 32 []) fun v1 => some (v1)
theorem c_merkle_empty (N : Nat) (r : (Arr 16)) (h : F_merkle_empty N = some r) : ACall Tryd.prog 66 [] [] (.agg (r.l.map (aI .u8))) [] [] := by
  refine ACall.of_bodyW [] (fn := Tryd.f66) (rc := f66c) (rs := f66r) Tryd.func66 rfl rfl (by kernel_rfl) (by kernel_rfl) (by kernel_rfl) (by rw [Tryd.ntmps66]; simp) ?_
  unfold F_merkle_empty at h
  unfold f66c f66r
  rw [entry_eq _ _]
  obtain ⟨v1, h532, h⟩ := F_bd h
  simp (disch := first | assumption | (simp; done) | omega | (simp; omega)) only [push_cast, seval]
  refine call_flat (by rfl) (c_hash_Of N _ _ _ h532) ?_ (by simp [AV.flat, AV.flatL, flatL_aI, flatL_app, DV.flat]) ?_
  · simp (disch := first | assumption | (simp; done) | omega | (simp; omega)) only [push_cast, seval] <;> rfl
  obtain rfl := Option.some.inj h
  simp (disch := first | assumption | (simp; done) | omega | (simp; omega)) only [push_cast, seval]
  refine e_ret (.inr rfl) ?_
  simp (disch := first | assumption | (simp; done) | omega | (simp; omega)) only [push_cast, seval, aret, aresults, aresult]
  refine ⟨_, rfl, ?_⟩
  first | (simp (disch := first | assumption | (simp; done) | omega | (simp; omega)) only [push_cast, seval] <;> rfl) | rfl

def f18g0 : List RO := [o_ 2 (.newR ((Arr.zero 16).l.map (aI .u8)))]
def f18g1 : List RO := [o_ 5 (.mv (t_ 0)), o_ 6 (.len .false (t_ 5)), o_ 3 (.mv (t_ 6))]
def f18g2 : List RO := [o_ 7 (.mv (t_ 3))]
def f18g3 : List RO := [o_ 23 (.bin .eql (t_ 7) (.const (.int .i64 0))), o_ 22 (.mv (t_ 23))]
def f18g4 : List RO := [o_ 24 (.call (.func 66) []), n_ (.store 16 (t_ 2) (t_ 24))]
def f18g5 : List RO := [o_ 26 (.bin .eql (t_ 7) (.const (.int .i64 1))), o_ 25 (.mv (t_ 26))]
def f18g6 : List RO := [o_ 27 (.mv (t_ 0)), o_ 28 (.iaddr 16 (t_ 27) (.const (.int .i64 0))), o_ 29 (.load (.some 16) (t_ 28)), n_ (.store 16 (t_ 2) (t_ 29))]
def f18g7 : List RO := [o_ 8 (.mv (t_ 3)), o_ 9 (.call (.func 61) [(t_ 8)]), o_ 4 (.mv (t_ 9))]
def f18g8 : List RO := [o_ 10 (.mv (t_ 0)), o_ 11 (.mv (t_ 4)), o_ 12 (.mv (t_ 4)), o_ 13 (.sll 16 (t_ 10) .none (.some (t_ 11)) (.some (t_ 12))), o_ 14 (.call (.func 18) [(t_ 13)]), o_ 15 (.mv (t_ 0)), o_ 16 (.mv (t_ 4)), o_ 17 (.mv (t_ 3)), o_ 18 (.mv (t_ 3)), o_ 19 (.sll 16 (t_ 15) (.some (t_ 16)) (.some (t_ 17)) (.some (t_ 18))), o_ 20 (.call (.func 18) [(t_ 19)]), o_ 21 (.call (.func 22) [(t_ 14), (t_ 20)]), n_ (.store 16 (t_ 2) (t_ 21))]
def f18c : RCode := (.seq (.reg .false f18g0) (.seq (.reg .false f18g1) (.seq (.reg .false f18g2) (.block 0 (.seq (.reg .false f18g3) (.cond (t_ 22) (.seq (.reg .false f18g4) .ret) (.seq (.reg .false f18g5) (.cond (t_ 25) (.seq (.reg .false f18g6) .ret) (.seq (.reg .false f18g7) (.seq (.reg .true f18g8) .ret))))))))))
def f18r : List RRes := [(.cell (.some 16) 2)]
attribute [push_cast] f18g0 f18g1 f18g2 f18g3 f18g4 f18g5 f18g6 f18g7 f18g8
def F_merkle_Root_r (N : Nat) : Nat → (List (Arr 16)) → Option (Arr 16)
  | 0, _ => none
  | dd + 1, p0 => if? (((p0.length : Int) == 0)) (bd? (F_merkle_empty N ) fun v1 => some (v1)) (if? (((p0.length : Int) == 1)) (get? p0 (0) fun x2 => some (x2)) (bd? (F_merkle_split N (p0.length : Int)) fun v3 => gd? (0 ≤ v3) (gd? (v3.toNat ≤ p0.length) (bd? (F_merkle_Root_r N dd (p0.take (v3.toNat - 0))) fun v4 => gd? (0 ≤ (p0.length : Int)) (gd? (v3.toNat ≤ (p0.length : Int).toNat) (gd? ((p0.length : Int).toNat ≤ p0.length) (bd? (F_merkle_Root_r N dd ((p0.drop v3.toNat).take ((p0.length : Int).toNat - v3.toNat))) fun v5 => bd? (F_merkle_Node N v4 v5) fun v6 => some (v6))))))))
def F_merkle_Root (N : Nat) (p0 : (List (Arr 16))) : Option (Arr 16) := F_merkle_Root_r N N p0
theorem c_merkle_Root_r (N dd : Nat) : ∀ (p0 : (List (Arr 16))) (r : (Arr 16)), F_merkle_Root_r N dd p0 = some r → ACall Tryd.prog 18 [.D (.L (p0.map (rA .u8)))] [] (.agg (r.l.map (aI .u8))) [] [] := by
  induction dd with
  | zero => intro p0 r h; exact absurd h (by simp [F_merkle_Root_r])
  | succ dd ih =>
  intro p0 r h
  refine ACall.of_bodyW [] (fn := Tryd.f18) (rc := f18c) (rs := f18r) Tryd.func18 rfl rfl (by kernel_rfl) (by kernel_rfl) (by kernel_rfl) (by rw [Tryd.ntmps18]; simp) ?_
  rw [F_merkle_Root_r] at h
  unfold f18c f18r
  rw [entry_eq _ _]
  rcases F_if h with ⟨h549, h⟩ | ⟨h549, h⟩
  · obtain ⟨v1, h550, h⟩ := F_bd h
    simp (disch := first | assumption | (simp; done) | omega | (simp; omega)) only [push_cast, seval, h549]
    refine call_flat (by rfl) (c_merkle_empty N _ h550) ?_ (by simp [AV.flat, AV.flatL, flatL_aI, flatL_app, DV.flat]) ?_
    · simp (disch := first | assumption | (simp; done) | omega | (simp; omega)) only [push_cast, seval, h549] <;> rfl
    obtain rfl := Option.some.inj h
    simp (disch := first | assumption | (simp; done) | omega | (simp; omega)) only [push_cast, seval, h549]
    refine e_ret (.inr rfl) ?_
    simp (disch := first | assumption | (simp; done) | omega | (simp; omega)) only [push_cast, seval, aret, aresults, aresult, h549]
    refine ⟨_, rfl, ?_⟩
    first | (simp (disch := first | assumption | (simp; done) | omega | (simp; omega)) only [push_cast, seval, h549] <;> rfl) | rfl
  rcases F_if h with ⟨h551, h⟩ | ⟨h551, h⟩
  · obtain ⟨x2, h552, h553, h⟩ := F_get h
    have h555 := get_lt h552 h553
    have h554 := map_get (rA .u8) h553
    try simp (disch := first | assumption | (simp; done) | omega | (simp; omega)) only [push_cast, seval] at h554
    obtain rfl := Option.some.inj h
    simp (disch := first | assumption | (simp; done) | omega | (simp; omega)) only [push_cast, seval, h549, h551, h552, h554, h555]
    refine e_ret (.inr rfl) ?_
    simp (disch := first | assumption | (simp; done) | omega | (simp; omega)) only [push_cast, seval, aret, aresults, aresult, h549, h551, h552, h554, h555]
    refine ⟨_, rfl, ?_⟩
    first | (simp (disch := first | assumption | (simp; done) | omega | (simp; omega)) only [push_cast, seval, h549, h551, h552, h554, h555] <;> rfl) | rfl
  obtain ⟨v3, h556, h⟩ := F_bd h
  simp (disch := first | assumption | (simp; done) | omega | (simp; omega)) only [push_cast, seval, h549, h551]
  refine call_flat (by rfl) (c_merkle_split N _ _ h556) ?_ rfl ?_
  · simp (disch := first | assumption | (simp; done) | omega | (simp; omega)) only [push_cast, seval, h549, h551] <;> rfl
  obtain ⟨h557, h⟩ := F_gd h
  obtain ⟨h558, h⟩ := F_gd h
  try simp (disch := first | assumption | (simp; done) | omega | (simp; omega)) only [push_cast, seval] at h558
  obtain ⟨v4, h559, h⟩ := F_bd h
  simp (disch := first | assumption | (simp; done) | omega | (simp; omega)) only [push_cast, seval, h549, h551, h557, h558]
  refine call_flat (by rfl) (ih _ _ h559) ?_ (by simp [AV.flat, AV.flatL, flatL_aI, flatL_app, DV.flat]) ?_
  · simp (disch := first | assumption | (simp; done) | omega | (simp; omega)) only [push_cast, seval, h549, h551, h557, h558] <;> rfl
  obtain ⟨h560, h⟩ := F_gd h
  obtain ⟨h561, h⟩ := F_gd h
  try simp (disch := first | assumption | (simp; done) | omega | (simp; omega)) only [push_cast, seval] at h561
  obtain ⟨h562, h⟩ := F_gd h
  try simp (disch := first | assumption | (simp; done) | omega | (simp; omega)) only [push_cast, seval] at h562
  obtain ⟨v5, h563, h⟩ := F_bd h
  simp (disch := first | assumption | (simp; done) | omega | (simp; omega)) only [push_cast, seval, h549, h551, h557, h558, h560, h561, h562]
  refine call_flat (by rfl) (ih _ _ h563) ?_ (by simp [AV.flat, AV.flatL, flatL_aI, flatL_app, DV.flat]) ?_
  · simp (disch := first | assumption | (simp; done) | omega | (simp; omega)) only [push_cast, seval, h549, h551, h557, h558, h560, h561, h562] <;> rfl
  obtain ⟨v6, h564, h⟩ := F_bd h
  simp (disch := first | assumption | (simp; done) | omega | (simp; omega)) only [push_cast, seval, h549, h551, h557, h558, h560, h561, h562]
  refine call_flat (by rfl) (c_merkle_Node N _ _ _ h564) ?_ (by simp [AV.flat, AV.flatL, flatL_aI, flatL_app, DV.flat]) ?_
  · simp (disch := first | assumption | (simp; done) | omega | (simp; omega)) only [push_cast, seval, h549, h551, h557, h558, h560, h561, h562] <;> rfl
  obtain rfl := Option.some.inj h
  simp (disch := first | assumption | (simp; done) | omega | (simp; omega)) only [push_cast, seval, h549, h551, h557, h558, h560, h561, h562]
  refine e_ret (.inr rfl) ?_
  simp (disch := first | assumption | (simp; done) | omega | (simp; omega)) only [push_cast, seval, aret, aresults, aresult, h549, h551, h557, h558, h560, h561, h562]
  refine ⟨_, rfl, ?_⟩
  first | (simp (disch := first | assumption | (simp; done) | omega | (simp; omega)) only [push_cast, seval, h549, h551, h557, h558, h560, h561, h562] <;> rfl) | rfl
theorem c_merkle_Root (N : Nat) (p0 : (List (Arr 16))) (r : (Arr 16)) (h : F_merkle_Root N p0 = some r) : ACall Tryd.prog 18 [.D (.L (p0.map (rA .u8)))] [] (.agg (r.l.map (aI .u8))) [] [] := c_merkle_Root_r N N p0 r h

def f60g0 : List RO := [o_ 7 (.mv (t_ 0)), o_ 8 (.len .false (t_ 7)), o_ 9 (.bin .eql (t_ 8) (.const (.int .i64 1)))]
def f60g1 : List RO := [o_ 10 (.mv (t_ 0)), o_ 11 (.len .false (t_ 10)), o_ 12 (.call (.func 61) [(t_ 11)]), o_ 6 (.mv (t_ 12))]
def f60g2 : List RO := [o_ 13 (.mv (t_ 1)), o_ 14 (.mv (t_ 6)), o_ 15 (.bin .lss (t_ 13) (t_ 14))]
def f60g3 : List RO := [o_ 16 (.load .none (t_ 2)), o_ 17 (.mv (t_ 0)), o_ 18 (.mv (t_ 6)), o_ 19 (.mv (t_ 6)), o_ 20 (.sll 16 (t_ 17) .none (.some (t_ 18)) (.some (t_ 19))), o_ 21 (.mv (t_ 1)), o_ 22 (.callE (t_ 16) [(t_ 20), (t_ 21)])]
def f60g4 : List RO := [o_ 23 (.load .none (t_ 3)), o_ 24 (.mv (t_ 0)), o_ 25 (.mv (t_ 6)), o_ 26 (.sll 16 (t_ 24) (.some (t_ 25)) .none .none), o_ 27 (.call (.func 18) [(t_ 26)]), o_ 28 (.bslice 16 [(t_ 27)]), o_ 29 (.appE 16 16 (t_ 23) (t_ 28)), n_ (.store 1 (t_ 3) (t_ 29))]
def f60g5 : List RO := [o_ 30 (.load .none (t_ 2)), o_ 31 (.mv (t_ 0)), o_ 32 (.mv (t_ 6)), o_ 33 (.sll 16 (t_ 31) (.some (t_ 32)) .none .none), o_ 34 (.mv (t_ 1)), o_ 35 (.mv (t_ 6)), o_ 36 (.bin .sub (t_ 34) (t_ 35)), o_ 37 (.callE (t_ 30) [(t_ 33), (t_ 36)])]
def f60g6 : List RO := [o_ 38 (.load .none (t_ 3)), o_ 39 (.mv (t_ 0)), o_ 40 (.mv (t_ 6)), o_ 41 (.mv (t_ 6)), o_ 42 (.sll 16 (t_ 39) .none (.some (t_ 40)) (.some (t_ 41))), o_ 43 (.call (.func 18) [(t_ 42)]), o_ 44 (.bslice 16 [(t_ 43)]), o_ 45 (.appE 16 16 (t_ 38) (t_ 44)), n_ (.store 1 (t_ 3) (t_ 45))]
def f60c : RCode := (.seq (.seq (.reg .false f60g0) (.cond (t_ 9) .ret .skip)) (.seq (.reg .false f60g1) (.seq (.reg .false f60g2) (.cond (t_ 15) (.seq (.reg .true f60g3) (.reg .true f60g4)) (.seq (.reg .true f60g5) (.reg .true f60g6))))))
def f60r : List RRes := []
attribute [push_cast] f60g0 f60g1 f60g2 f60g3 f60g4 f60g5 f60g6
def F_merkle_Inclusion_1_r (N : Nat) : Nat → (List (Arr 16)) → Int → (List (Arr 16)) → Option (List (Arr 16))
  | 0, _, _, _ => none
  | dd + 1, p0, p1, q1 => if? (((p0.length : Int) == 1)) (some (q1)) (bd? (F_merkle_split N (p0.length : Int)) fun v1 => if? (decide (p1 < v1)) (gd? (0 ≤ v1) (gd? (v1.toNat ≤ p0.length) (bd? (F_merkle_Inclusion_1_r N dd (p0.take (v1.toNat - 0)) p1 q1) fun v2 => bd? (F_merkle_Root N ((p0.drop v1.toNat).take (p0.length - v1.toNat))) fun v3 => gd? ((v2.length + [v3].length) * 16 ≤ 140737488355328) (some ((v2 ++ [v3])))))) (gd? (0 ≤ v1) (gd? (v1.toNat ≤ p0.length) (ck .i64 (p1 - v1) (bd? (F_merkle_Inclusion_1_r N dd ((p0.drop v1.toNat).take (p0.length - v1.toNat)) (p1 - v1) q1) fun v4 => bd? (F_merkle_Root N (p0.take (v1.toNat - 0))) fun v5 => gd? ((v4.length + [v5].length) * 16 ≤ 140737488355328) (some ((v4 ++ [v5]))))))))
def F_merkle_Inclusion_1 (N : Nat) (p0 : (List (Arr 16))) (p1 : Int) (q1 : (List (Arr 16))) : Option (List (Arr 16)) := F_merkle_Inclusion_1_r N N p0 p1 q1
theorem c_merkle_Inclusion_1_r (N dd : Nat) : ∀ (p0 : (List (Arr 16))) (p1 : Int) (q1 : (List (Arr 16))) (r : (List (Arr 16))), F_merkle_Inclusion_1_r N dd p0 p1 q1 = some r → ACall Tryd.prog 60 [.D (.L (p0.map (rA .u8))), .D (.I .i64 p1), .ptr (.B 0) 0, .ptr (.B 1) 0] [some (.box ([.clo 60 [.ptr (.B 0) 0, .ptr (.B 1) 0]])), some (.box ([.sl (.B 2) 16 0 q1.length])), some (.row true 16 (q1.map (rA .u8)))] (.tup []) [some (.box ([.clo 60 [.ptr (.B 0) 0, .ptr (.B 1) 0]])), some (.box ([.sl (.O 0) 16 0 r.length])), none] [.row true 16 (r.map (rA .u8))] := by
  induction dd with
  | zero => intro p0 p1 q1 r h; exact absurd h (by simp [F_merkle_Inclusion_1_r])
  | succ dd ih =>
  intro p0 p1 q1 r h
  refine ACall.of_bodyM [22, 29, 37, 45] [2] (fn := Tryd.f60) (rc := f60c) (rs := f60r) Tryd.func60 rfl rfl (by kernel_rfl) (by kernel_rfl) (by kernel_rfl) (by rw [Tryd.ntmps60]; simp) (by decide) ?_
  rw [F_merkle_Inclusion_1_r] at h
  unfold f60c f60r
  rw [entryM_eq _ _ _ _ _ (by simp (disch := first | assumption | (simp; done) | omega | (simp; omega)) only [push_cast, seval] <;> rfl) (by simp (maxSteps := 999999) (disch := first | assumption | (simp; done) | omega | (simp; omega)) only [push_cast, seval] <;> rfl)]
  rcases F_if h with ⟨h579, h⟩ | ⟨h579, h⟩
  · obtain rfl := Option.some.inj h
    simp (disch := first | assumption | (simp; done) | omega | (simp; omega)) only [push_cast, seval, h579]
    refine AEndW.of [0] (.inr rfl) (by decide) rfl ?_ ?_ ?_
    · simp (disch := first | assumption | (simp; done) | omega | (simp; omega)) only [push_cast, seval, h579] <;> rfl
    · simp (disch := first | assumption | (simp; done) | omega | (simp; omega)) only [push_cast, seval, h579] <;> rfl
    · simp (disch := first | assumption | (simp; done) | omega | (simp; omega)) only [push_cast, seval, h579] <;> rfl
  obtain ⟨v1, h580, h⟩ := F_bd h
  simp (disch := first | assumption | (simp; done) | omega | (simp; omega)) only [push_cast, seval, h579]
  refine call_flat (by rfl) (c_merkle_split N _ _ h580) ?_ rfl ?_
  · simp (disch := first | assumption | (simp; done) | omega | (simp; omega)) only [push_cast, seval, h579] <;> rfl
  rcases F_if h with ⟨h581, h⟩ | ⟨h581, h⟩
  · obtain ⟨h582, h⟩ := F_gd h
    obtain ⟨h583, h⟩ := F_gd h
    try simp (disch := first | assumption | (simp; done) | omega | (simp; omega)) only [push_cast, seval] at h583
    obtain ⟨v2, h584, h⟩ := F_bd h
    simp (disch := first | assumption | (simp; done) | omega | (simp; omega)) only [push_cast, seval, h579, h581, h582, h583]
    refine callE_of [.B 0, .B 1, .O 0] (by rfl) (ih _ _ _ _ h584) (by decide) rfl (by simp (disch := first | assumption | (simp; done) | omega | (simp; omega)) only [push_cast, seval] <;> rfl) (by simp (maxSteps := 999999) (disch := first | assumption | (simp; done) | omega | (simp; omega)) only [push_cast, seval] <;> rfl) ?_ ?_ ?_
    · simp (disch := first | assumption | (simp; done) | omega | (simp; omega)) only [push_cast, seval, h579, h581, h582, h583] <;> rfl
    · simp (disch := first | assumption | (simp; done) | omega | (simp; omega)) only [push_cast, seval, h579, h581, h582, h583] <;> rfl
    obtain ⟨v3, h585, h⟩ := F_bd h
    simp (disch := first | assumption | (simp; done) | omega | (simp; omega)) only [push_cast, seval, h579, h581, h582, h583]
    refine call_flat (by rfl) (c_merkle_Root N _ _ h585) ?_ (by simp [AV.flat, AV.flatL, flatL_aI, flatL_app, DV.flat]) ?_
    · simp (disch := first | assumption | (simp; done) | omega | (simp; omega)) only [push_cast, seval, h579, h581, h582, h583] <;> rfl
    obtain ⟨h586, h⟩ := F_gd h
    try simp (disch := first | assumption | (simp; done) | omega | (simp; omega)) only [push_cast, seval] at h586
    obtain rfl := Option.some.inj h
    simp (disch := first | assumption | (simp; done) | omega | (simp; omega)) only [push_cast, seval, h579, h581, h582, h583, h586]
    refine AEndW.of [3] (.inl rfl) (by decide) rfl ?_ ?_ ?_
    · simp (disch := first | assumption | (simp; done) | omega | (simp; omega)) only [push_cast, seval, h579, h581, h582, h583, h586] <;> rfl
    · simp (disch := first | assumption | (simp; done) | omega | (simp; omega)) only [push_cast, seval, h579, h581, h582, h583, h586] <;> rfl
    · simp (disch := first | assumption | (simp; done) | omega | (simp; omega)) only [push_cast, seval, h579, h581, h582, h583, h586] <;> rfl
  obtain ⟨h587, h⟩ := F_gd h
  obtain ⟨h588, h⟩ := F_gd h
  try simp (disch := first | assumption | (simp; done) | omega | (simp; omega)) only [push_cast, seval] at h588
  obtain ⟨h589, h⟩ := F_ck h
  try simp (disch := first | assumption | (simp; done) | omega | (simp; omega)) only [push_cast, seval] at h589
  obtain ⟨v4, h590, h⟩ := F_bd h
  simp (disch := first | assumption | (simp; done) | omega | (simp; omega)) only [push_cast, seval, h579, h581, h587, h588, h589]
  refine callE_of [.B 0, .B 1, .O 0] (by rfl) (ih _ _ _ _ h590) (by decide) rfl (by simp (disch := first | assumption | (simp; done) | omega | (simp; omega)) only [push_cast, seval] <;> rfl) (by simp (maxSteps := 999999) (disch := first | assumption | (simp; done) | omega | (simp; omega)) only [push_cast, seval] <;> rfl) ?_ ?_ ?_
  · simp (disch := first | assumption | (simp; done) | omega | (simp; omega)) only [push_cast, seval, h579, h581, h587, h588, h589] <;> rfl
  · simp (disch := first | assumption | (simp; done) | omega | (simp; omega)) only [push_cast, seval, h579, h581, h587, h588, h589] <;> rfl
  obtain ⟨v5, h591, h⟩ := F_bd h
  simp (disch := first | assumption | (simp; done) | omega | (simp; omega)) only [push_cast, seval, h579, h581, h587, h588, h589]
  refine call_flat (by rfl) (c_merkle_Root N _ _ h591) ?_ (by simp [AV.flat, AV.flatL, flatL_aI, flatL_app, DV.flat]) ?_
  · simp (disch := first | assumption | (simp; done) | omega | (simp; omega)) only [push_cast, seval, h579, h581, h587, h588, h589] <;> rfl
  obtain ⟨h592, h⟩ := F_gd h
  try simp (disch := first | assumption | (simp; done) | omega | (simp; omega)) only [push_cast, seval] at h592
  obtain rfl := Option.some.inj h
  simp (disch := first | assumption | (simp; done) | omega | (simp; omega)) only [push_cast, seval, h579, h581, h587, h588, h589, h592]
  refine AEndW.of [3] (.inl rfl) (by decide) rfl ?_ ?_ ?_
  · simp (disch := first | assumption | (simp; done) | omega | (simp; omega)) only [push_cast, seval, h579, h581, h587, h588, h589, h592] <;> rfl
  · simp (disch := first | assumption | (simp; done) | omega | (simp; omega)) only [push_cast, seval, h579, h581, h587, h588, h589, h592] <;> rfl
  · simp (disch := first | assumption | (simp; done) | omega | (simp; omega)) only [push_cast, seval, h579, h581, h587, h588, h589, h592] <;> rfl
theorem c_merkle_Inclusion_1 (N : Nat) (p0 : (List (Arr 16))) (p1 : Int) (q1 : (List (Arr 16))) (r : (List (Arr 16))) (h : F_merkle_Inclusion_1 N p0 p1 q1 = some r) : ACall Tryd.prog 60 [.D (.L (p0.map (rA .u8))), .D (.I .i64 p1), .ptr (.B 0) 0, .ptr (.B 1) 0] [some (.box ([.clo 60 [.ptr (.B 0) 0, .ptr (.B 1) 0]])), some (.box ([.sl (.B 2) 16 0 q1.length])), some (.row true 16 (q1.map (rA .u8)))] (.tup []) [some (.box ([.clo 60 [.ptr (.B 0) 0, .ptr (.B 1) 0]])), some (.box ([.sl (.O 0) 16 0 r.length])), none] [.row true 16 (r.map (rA .u8))] := c_merkle_Inclusion_1_r N N p0 p1 q1 r h

def f13g0 : List RO := [o_ 4 (.mv (.const (.slice .none 0 0))), o_ 5 (.mv (.const (.int .i64 0)))]
def f13g1 : List RO := [o_ 8 (.mv (t_ 1)), o_ 9 (.bin .lss (t_ 8) (.const (.int .i64 0))), o_ 10 (.mv (t_ 9)), ⟨(.some 11), (.mv (t_ 1)), (.some (10, .false))⟩, ⟨(.some 12), (.mv (t_ 0)), (.some (10, .false))⟩, ⟨(.some 13), (.len .false (t_ 12)), (.some (10, .false))⟩, ⟨(.some 14), (.bin .geq (t_ 11) (t_ 13)), (.some (10, .false))⟩, o_ 15 (.pick (t_ 10) (.const (.bool .true)) (t_ 14))]
def f13g2 : List RO := [o_ 4 (.mv (.const (.slice .none 0 0))), o_ 5 (.mv (.const (.int .i64 1)))]
def f13g3 : List RO := [o_ 6 (.new [(.fl [])])]
def f13g4 : List RO := [o_ 7 (.new [(.D (.C .nilFunc))])]
def f13g5 : List RO := [o_ 16 (.mkf 60 [(t_ 7), (t_ 6)]), n_ (.store 1 (t_ 7) (t_ 16))]
def f13g6 : List RO := [o_ 17 (.load .none (t_ 7)), o_ 18 (.mv (t_ 0)), o_ 19 (.mv (t_ 1)), o_ 20 (.callE (t_ 17) [(t_ 18), (t_ 19)])]
def f13g7 : List RO := [o_ 21 (.load .none (t_ 6)), o_ 4 (.mv (t_ 21)), o_ 5 (.mv (.const (.int .i64 0)))]
def f13c : RCode := (.seq (.reg .false f13g0) (.seq (.seq (.reg .false f13g1) (.cond (t_ 15) (.seq (.reg .false f13g2) .ret) .skip)) (.seq (.reg .false f13g3) (.seq (.reg .false f13g4) (.seq (.reg .false f13g5) (.seq (.wkr (.reg .false f13g6)) (.seq (.reg .false f13g7) .ret)))))))
def f13r : List RRes := [(.tmp 4), (.tmp 5)]
attribute [push_cast] f13g0 f13g1 f13g2 f13g3 f13g4 f13g5 f13g6 f13g7
def F_merkle_Inclusion (N : Nat) (p0 : (List (Arr 16))) (p1 : Int) : Option ((List (Arr 16)) × Int) := if? (decide (p1 < 0)) (some ([], 1)) (if? (decide (p1 ≥ (p0.length : Int))) (some ([], 1)) (bd? (F_merkle_Inclusion_1 N p0 p1 []) fun v1 => some (v1, 0)))
theorem c_merkle_Inclusion (N : Nat) (p0 : (List (Arr 16))) (p1 : Int) (r : ((List (Arr 16)) × Int)) (h : F_merkle_Inclusion N p0 p1 = some r) : ACall Tryd.prog 13 [.D (.L (p0.map (rA .u8))), .D (.I .i64 p1)] [] (.tup [.sl (.O 0) 16 0 r.1.length, .D (.I .i64 r.2)]) [] [.row true 16 (r.1.map (rA .u8))] := by
  refine ACall.of_bodyW [20, 2000006] (fn := Tryd.f13) (rc := f13c) (rs := f13r) Tryd.func13 rfl rfl (by kernel_rfl) (by kernel_rfl) (by kernel_rfl) (by rw [Tryd.ntmps13]; simp) ?_
  unfold F_merkle_Inclusion at h
  unfold f13c f13r
  rw [entry_eq _ _]
  rcases F_if h with ⟨h596, h⟩ | ⟨h596, h⟩
  · obtain rfl := Option.some.inj h
    simp (disch := first | assumption | (simp; done) | omega | (simp; omega)) only [push_cast, seval, h596]
    refine end_own0 4 16 rfl ?_
    simp (disch := first | assumption | (simp; done) | omega | (simp; omega)) only [push_cast, seval, h596]
    refine AEndW.of [0] (.inr rfl) (by decide) rfl ?_ rfl ?_
    · simp (disch := first | assumption | (simp; done) | omega | (simp; omega)) only [push_cast, seval, h596] <;> rfl
    · simp (disch := first | assumption | (simp; done) | omega | (simp; omega)) only [push_cast, seval, h596] <;> rfl
  rcases F_if h with ⟨h597, h⟩ | ⟨h597, h⟩
  · obtain rfl := Option.some.inj h
    simp (disch := first | assumption | (simp; done) | omega | (simp; omega)) only [push_cast, seval, h596, h597]
    refine end_own0 4 16 rfl ?_
    simp (disch := first | assumption | (simp; done) | omega | (simp; omega)) only [push_cast, seval, h596, h597]
    refine AEndW.of [0] (.inr rfl) (by decide) rfl ?_ rfl ?_
    · simp (disch := first | assumption | (simp; done) | omega | (simp; omega)) only [push_cast, seval, h596, h597] <;> rfl
    · simp (disch := first | assumption | (simp; done) | omega | (simp; omega)) only [push_cast, seval, h596, h597] <;> rfl
  simp (disch := first | assumption | (simp; done) | omega | (simp; omega)) only [push_cast, seval, h596, h597]
  refine wkr_ownB (.O 0) [.fl []] 0 16 (by rfl) (by rfl) ?_
  simp (disch := first | assumption | (simp; done) | omega | (simp; omega)) only [push_cast, seval, h596, h597]
  refine wkr_of ?_
  obtain ⟨v1, h598, h⟩ := F_bd h
  simp (disch := first | assumption | (simp; done) | omega | (simp; omega)) only [push_cast, seval, h596, h597]
  refine callE_of [.O 1, .O 0, .O 2] (by rfl) (c_merkle_Inclusion_1 N _ _ _ _ h598) (by decide) rfl (by simp (disch := first | assumption | (simp; done) | omega | (simp; omega)) only [push_cast, seval] <;> rfl) (by simp (maxSteps := 999999) (disch := first | assumption | (simp; done) | omega | (simp; omega)) only [push_cast, seval] <;> rfl) ?_ ?_ ?_
  · simp (disch := first | assumption | (simp; done) | omega | (simp; omega)) only [push_cast, seval, h596, h597] <;> rfl
  · simp (disch := first | assumption | (simp; done) | omega | (simp; omega)) only [push_cast, seval, h596, h597] <;> rfl
  obtain rfl := Option.some.inj h
  simp (disch := first | assumption | (simp; done) | omega | (simp; omega)) only [push_cast, seval, h596, h597]
  refine AEndW.of [3] (.inr rfl) (by decide) rfl ?_ rfl ?_
  · simp (disch := first | assumption | (simp; done) | omega | (simp; omega)) only [push_cast, seval, h596, h597] <;> rfl
  · simp (disch := first | assumption | (simp; done) | omega | (simp; omega)) only [push_cast, seval, h596, h597] <;> rfl

def f62g0 : List RO := [o_ 9 (.mv (t_ 1)), o_ 10 (.mv (t_ 0)), o_ 11 (.len .false (t_ 10)), o_ 12 (.bin .eql (t_ 9) (t_ 11))]
def f62g1 : List RO := [o_ 13 (.mv (t_ 2)), o_ 14 (.un .not (t_ 13))]
def f62g2 : List RO := [o_ 15 (.load .none (t_ 3)), o_ 16 (.mv (t_ 0)), o_ 17 (.call (.func 18) [(t_ 16)]), o_ 18 (.bslice 16 [(t_ 17)]), o_ 19 (.appE 16 16 (t_ 15) (t_ 18)), n_ (.store 1 (t_ 3) (t_ 19))]
def f62g3 : List RO := [o_ 20 (.mv (t_ 0)), o_ 21 (.len .false (t_ 20)), o_ 22 (.call (.func 61) [(t_ 21)]), o_ 8 (.mv (t_ 22))]
def f62g4 : List RO := [o_ 23 (.mv (t_ 1)), o_ 24 (.mv (t_ 8)), o_ 25 (.bin .leq (t_ 23) (t_ 24))]
def f62g5 : List RO := [o_ 26 (.load .none (t_ 4)), o_ 27 (.mv (t_ 0)), o_ 28 (.mv (t_ 8)), o_ 29 (.mv (t_ 8)), o_ 30 (.sll 16 (t_ 27) .none (.some (t_ 28)) (.some (t_ 29))), o_ 31 (.mv (t_ 1)), o_ 32 (.mv (t_ 2)), o_ 33 (.callE (t_ 26) [(t_ 30), (t_ 31), (t_ 32)])]
def f62g6 : List RO := [o_ 34 (.load .none (t_ 3)), o_ 35 (.mv (t_ 0)), o_ 36 (.mv (t_ 8)), o_ 37 (.sll 16 (t_ 35) (.some (t_ 36)) .none .none), o_ 38 (.call (.func 18) [(t_ 37)]), o_ 39 (.bslice 16 [(t_ 38)]), o_ 40 (.appE 16 16 (t_ 34) (t_ 39)), n_ (.store 1 (t_ 3) (t_ 40))]
def f62g7 : List RO := [o_ 41 (.load .none (t_ 4)), o_ 42 (.mv (t_ 0)), o_ 43 (.mv (t_ 8)), o_ 44 (.sll 16 (t_ 42) (.some (t_ 43)) .none .none), o_ 45 (.mv (t_ 1)), o_ 46 (.mv (t_ 8)), o_ 47 (.bin .sub (t_ 45) (t_ 46)), o_ 48 (.callE (t_ 41) [(t_ 44), (t_ 47), (.const (.bool .false))])]
def f62g8 : List RO := [o_ 49 (.load .none (t_ 3)), o_ 50 (.mv (t_ 0)), o_ 51 (.mv (t_ 8)), o_ 52 (.mv (t_ 8)), o_ 53 (.sll 16 (t_ 50) .none (.some (t_ 51)) (.some (t_ 52))), o_ 54 (.call (.func 18) [(t_ 53)]), o_ 55 (.bslice 16 [(t_ 54)]), o_ 56 (.appE 16 16 (t_ 49) (t_ 55)), n_ (.store 1 (t_ 3) (t_ 56))]
def f62c : RCode := (.seq (.seq (.reg .false f62g0) (.cond (t_ 12) (.seq (.seq (.reg .false f62g1) (.cond (t_ 14) (.reg .true f62g2) .skip)) .ret) .skip)) (.seq (.reg .false f62g3) (.seq (.reg .false f62g4) (.cond (t_ 25) (.seq (.reg .true f62g5) (.reg .true f62g6)) (.seq (.reg .true f62g7) (.reg .true f62g8))))))
def f62r : List RRes := []
attribute [push_cast] f62g0 f62g1 f62g2 f62g3 f62g4 f62g5 f62g6 f62g7 f62g8
def F_merkle_Consistency_1_r (N : Nat) : Nat → (List (Arr 16)) → Int → Bool → (List (Arr 16)) → Option (List (Arr 16))
  | 0, _, _, _, _ => none
  | dd + 1, p0, p1, p2, q0 => if? ((p1 == (p0.length : Int))) (if? (p2) (some (q0)) (bd? (F_merkle_Root N p0) fun v1 => gd? ((q0.length + [v1].length) * 16 ≤ 140737488355328) (some ((q0 ++ [v1]))))) (bd? (F_merkle_split N (p0.length : Int)) fun v2 => if? (decide (p1 ≤ v2)) (gd? (0 ≤ v2) (gd? (v2.toNat ≤ p0.length) (bd? (F_merkle_Consistency_1_r N dd (p0.take (v2.toNat - 0)) p1 p2 q0) fun v3 => bd? (F_merkle_Root N ((p0.drop v2.toNat).take (p0.length - v2.toNat))) fun v4 => gd? ((v3.length + [v4].length) * 16 ≤ 140737488355328) (some ((v3 ++ [v4])))))) (gd? (0 ≤ v2) (gd? (v2.toNat ≤ p0.length) (ck .i64 (p1 - v2) (bd? (F_merkle_Consistency_1_r N dd ((p0.drop v2.toNat).take (p0.length - v2.toNat)) (p1 - v2) false q0) fun v5 => bd? (F_merkle_Root N (p0.take (v2.toNat - 0))) fun v6 => gd? ((v5.length + [v6].length) * 16 ≤ 140737488355328) (some ((v5 ++ [v6]))))))))
def F_merkle_Consistency_1 (N : Nat) (p0 : (List (Arr 16))) (p1 : Int) (p2 : Bool) (q0 : (List (Arr 16))) : Option (List (Arr 16)) := F_merkle_Consistency_1_r N N p0 p1 p2 q0
theorem c_merkle_Consistency_1_r (N dd : Nat) : ∀ (p0 : (List (Arr 16))) (p1 : Int) (p2 : Bool) (q0 : (List (Arr 16))) (r : (List (Arr 16))), F_merkle_Consistency_1_r N dd p0 p1 p2 q0 = some r → ACall Tryd.prog 62 [.D (.L (p0.map (rA .u8))), .D (.I .i64 p1), .D (.B p2), .ptr (.B 0) 0, .ptr (.B 2) 0] [some (.box ([.sl (.B 1) 16 0 q0.length])), some (.row true 16 (q0.map (rA .u8))), some (.box ([.clo 62 [.ptr (.B 0) 0, .ptr (.B 2) 0]]))] (.tup []) [some (.box ([.sl (.O 0) 16 0 r.length])), none, some (.box ([.clo 62 [.ptr (.B 0) 0, .ptr (.B 2) 0]]))] [.row true 16 (r.map (rA .u8))] := by
  induction dd with
  | zero => intro p0 p1 p2 q0 r h; exact absurd h (by simp [F_merkle_Consistency_1_r])
  | succ dd ih =>
  intro p0 p1 p2 q0 r h
  refine ACall.of_bodyM [19, 33, 40, 48, 56] [1] (fn := Tryd.f62) (rc := f62c) (rs := f62r) Tryd.func62 rfl rfl (by kernel_rfl) (by kernel_rfl) (by kernel_rfl) (by rw [Tryd.ntmps62]; simp) (by decide) ?_
  rw [F_merkle_Consistency_1_r] at h
  unfold f62c f62r
  rw [entryM_eq _ _ _ _ _ (by simp (disch := first | assumption | (simp; done) | omega | (simp; omega)) only [push_cast, seval] <;> rfl) (by simp (maxSteps := 999999) (disch := first | assumption | (simp; done) | omega | (simp; omega)) only [push_cast, seval] <;> rfl)]
  rcases F_if h with ⟨h616, h⟩ | ⟨h616, h⟩
  · rcases F_if h with ⟨h617, h⟩ | ⟨h617, h⟩
    · obtain rfl := Option.some.inj h
      simp (disch := first | assumption | (simp; done) | omega | (simp; omega)) only [push_cast, seval, h616, h617]
      refine AEndW.of [0] (.inr rfl) (by decide) rfl ?_ ?_ ?_
      · simp (disch := first | assumption | (simp; done) | omega | (simp; omega)) only [push_cast, seval, h616, h617] <;> rfl
      · simp (disch := first | assumption | (simp; done) | omega | (simp; omega)) only [push_cast, seval, h616, h617] <;> rfl
      · simp (disch := first | assumption | (simp; done) | omega | (simp; omega)) only [push_cast, seval, h616, h617] <;> rfl
    obtain ⟨v1, h618, h⟩ := F_bd h
    simp (disch := first | assumption | (simp; done) | omega | (simp; omega)) only [push_cast, seval, h616, h617]
    refine call_flat (by rfl) (c_merkle_Root N _ _ h618) ?_ (by simp [AV.flat, AV.flatL, flatL_aI, flatL_app, DV.flat]) ?_
    · simp (disch := first | assumption | (simp; done) | omega | (simp; omega)) only [push_cast, seval, h616, h617] <;> rfl
    obtain ⟨h619, h⟩ := F_gd h
    try simp (disch := first | assumption | (simp; done) | omega | (simp; omega)) only [push_cast, seval] at h619
    obtain rfl := Option.some.inj h
    simp (disch := first | assumption | (simp; done) | omega | (simp; omega)) only [push_cast, seval, h616, h617, h619]
    refine AEndW.of [2] (.inr rfl) (by decide) rfl ?_ ?_ ?_
    · simp (disch := first | assumption | (simp; done) | omega | (simp; omega)) only [push_cast, seval, h616, h617, h619] <;> rfl
    · simp (disch := first | assumption | (simp; done) | omega | (simp; omega)) only [push_cast, seval, h616, h617, h619] <;> rfl
    · simp (disch := first | assumption | (simp; done) | omega | (simp; omega)) only [push_cast, seval, h616, h617, h619] <;> rfl
  obtain ⟨v2, h620, h⟩ := F_bd h
  simp (disch := first | assumption | (simp; done) | omega | (simp; omega)) only [push_cast, seval, h616]
  refine call_flat (by rfl) (c_merkle_split N _ _ h620) ?_ rfl ?_
  · simp (disch := first | assumption | (simp; done) | omega | (simp; omega)) only [push_cast, seval, h616] <;> rfl
  rcases F_if h with ⟨h621, h⟩ | ⟨h621, h⟩
  · obtain ⟨h622, h⟩ := F_gd h
    obtain ⟨h623, h⟩ := F_gd h
    try simp (disch := first | assumption | (simp; done) | omega | (simp; omega)) only [push_cast, seval] at h623
    obtain ⟨v3, h624, h⟩ := F_bd h
    simp (disch := first | assumption | (simp; done) | omega | (simp; omega)) only [push_cast, seval, h616, h621, h622, h623]
    refine callE_of [.B 0, .O 0, .B 2] (by rfl) (ih _ _ _ _ _ h624) (by decide) rfl (by simp (disch := first | assumption | (simp; done) | omega | (simp; omega)) only [push_cast, seval] <;> rfl) (by simp (maxSteps := 999999) (disch := first | assumption | (simp; done) | omega | (simp; omega)) only [push_cast, seval] <;> rfl) ?_ ?_ ?_
    · simp (disch := first | assumption | (simp; done) | omega | (simp; omega)) only [push_cast, seval, h616, h621, h622, h623] <;> rfl
    · simp (disch := first | assumption | (simp; done) | omega | (simp; omega)) only [push_cast, seval, h616, h621, h622, h623] <;> rfl
    obtain ⟨v4, h625, h⟩ := F_bd h
    simp (disch := first | assumption | (simp; done) | omega | (simp; omega)) only [push_cast, seval, h616, h621, h622, h623]
    refine call_flat (by rfl) (c_merkle_Root N _ _ h625) ?_ (by simp [AV.flat, AV.flatL, flatL_aI, flatL_app, DV.flat]) ?_
    · simp (disch := first | assumption | (simp; done) | omega | (simp; omega)) only [push_cast, seval, h616, h621, h622, h623] <;> rfl
    obtain ⟨h626, h⟩ := F_gd h
    try simp (disch := first | assumption | (simp; done) | omega | (simp; omega)) only [push_cast, seval] at h626
    obtain rfl := Option.some.inj h
    simp (disch := first | assumption | (simp; done) | omega | (simp; omega)) only [push_cast, seval, h616, h621, h622, h623, h626]
    refine AEndW.of [3] (.inl rfl) (by decide) rfl ?_ ?_ ?_
    · simp (disch := first | assumption | (simp; done) | omega | (simp; omega)) only [push_cast, seval, h616, h621, h622, h623, h626] <;> rfl
    · simp (disch := first | assumption | (simp; done) | omega | (simp; omega)) only [push_cast, seval, h616, h621, h622, h623, h626] <;> rfl
    · simp (disch := first | assumption | (simp; done) | omega | (simp; omega)) only [push_cast, seval, h616, h621, h622, h623, h626] <;> rfl
  obtain ⟨h627, h⟩ := F_gd h
  obtain ⟨h628, h⟩ := F_gd h
  try simp (disch := first | assumption | (simp; done) | omega | (simp; omega)) only [push_cast, seval] at h628
  obtain ⟨h629, h⟩ := F_ck h
  try simp (disch := first | assumption | (simp; done) | omega | (simp; omega)) only [push_cast, seval] at h629
  obtain ⟨v5, h630, h⟩ := F_bd h
  simp (disch := first | assumption | (simp; done) | omega | (simp; omega)) only [push_cast, seval, h616, h621, h627, h628, h629]
  refine callE_of [.B 0, .O 0, .B 2] (by rfl) (ih _ _ _ _ _ h630) (by decide) rfl (by simp (disch := first | assumption | (simp; done) | omega | (simp; omega)) only [push_cast, seval] <;> rfl) (by simp (maxSteps := 999999) (disch := first | assumption | (simp; done) | omega | (simp; omega)) only [push_cast, seval] <;> rfl) ?_ ?_ ?_
  · simp (disch := first | assumption | (simp; done) | omega | (simp; omega)) only [push_cast, seval, h616, h621, h627, h628, h629] <;> rfl
  · simp (disch := first | assumption | (simp; done) | omega | (simp; omega)) only [push_cast, seval, h616, h621, h627, h628, h629] <;> rfl
  obtain ⟨v6, h631, h⟩ := F_bd h
  simp (disch := first | assumption | (simp; done) | omega | (simp; omega)) only [push_cast, seval, h616, h621, h627, h628, h629]
  refine call_flat (by rfl) (c_merkle_Root N _ _ h631) ?_ (by simp [AV.flat, AV.flatL, flatL_aI, flatL_app, DV.flat]) ?_
  · simp (disch := first | assumption | (simp; done) | omega | (simp; omega)) only [push_cast, seval, h616, h621, h627, h628, h629] <;> rfl
  obtain ⟨h632, h⟩ := F_gd h
  try simp (disch := first | assumption | (simp; done) | omega | (simp; omega)) only [push_cast, seval] at h632
  obtain rfl := Option.some.inj h
  simp (disch := first | assumption | (simp; done) | omega | (simp; omega)) only [push_cast, seval, h616, h621, h627, h628, h629, h632]
  refine AEndW.of [3] (.inl rfl) (by decide) rfl ?_ ?_ ?_
  · simp (disch := first | assumption | (simp; done) | omega | (simp; omega)) only [push_cast, seval, h616, h621, h627, h628, h629, h632] <;> rfl
  · simp (disch := first | assumption | (simp; done) | omega | (simp; omega)) only [push_cast, seval, h616, h621, h627, h628, h629, h632] <;> rfl
  · simp (disch := first | assumption | (simp; done) | omega | (simp; omega)) only [push_cast, seval, h616, h621, h627, h628, h629, h632] <;> rfl
theorem c_merkle_Consistency_1 (N : Nat) (p0 : (List (Arr 16))) (p1 : Int) (p2 : Bool) (q0 : (List (Arr 16))) (r : (List (Arr 16))) (h : F_merkle_Consistency_1 N p0 p1 p2 q0 = some r) : ACall Tryd.prog 62 [.D (.L (p0.map (rA .u8))), .D (.I .i64 p1), .D (.B p2), .ptr (.B 0) 0, .ptr (.B 2) 0] [some (.box ([.sl (.B 1) 16 0 q0.length])), some (.row true 16 (q0.map (rA .u8))), some (.box ([.clo 62 [.ptr (.B 0) 0, .ptr (.B 2) 0]]))] (.tup []) [some (.box ([.sl (.O 0) 16 0 r.length])), none, some (.box ([.clo 62 [.ptr (.B 0) 0, .ptr (.B 2) 0]]))] [.row true 16 (r.map (rA .u8))] := c_merkle_Consistency_1_r N N p0 p1 p2 q0 r h

def f14g0 : List RO := [o_ 4 (.mv (.const (.slice .none 0 0))), o_ 5 (.mv (.const (.int .i64 0)))]
def f14g1 : List RO := [o_ 8 (.mv (t_ 1)), o_ 9 (.bin .lss (t_ 8) (.const (.int .i64 0))), o_ 10 (.mv (t_ 9)), ⟨(.some 11), (.mv (t_ 1)), (.some (10, .false))⟩, ⟨(.some 12), (.mv (t_ 0)), (.some (10, .false))⟩, ⟨(.some 13), (.len .false (t_ 12)), (.some (10, .false))⟩, ⟨(.some 14), (.bin .gtr (t_ 11) (t_ 13)), (.some (10, .false))⟩, o_ 15 (.pick (t_ 10) (.const (.bool .true)) (t_ 14))]
def f14g2 : List RO := [o_ 4 (.mv (.const (.slice .none 0 0))), o_ 5 (.mv (.const (.int .i64 1)))]
def f14g3 : List RO := [o_ 16 (.mv (t_ 1)), o_ 17 (.bin .eql (t_ 16) (.const (.int .i64 0))), o_ 18 (.mv (t_ 17)), ⟨(.some 19), (.mv (t_ 1)), (.some (18, .false))⟩, ⟨(.some 20), (.mv (t_ 0)), (.some (18, .false))⟩, ⟨(.some 21), (.len .false (t_ 20)), (.some (18, .false))⟩, ⟨(.some 22), (.bin .eql (t_ 19) (t_ 21)), (.some (18, .false))⟩, o_ 23 (.pick (t_ 18) (.const (.bool .true)) (t_ 22))]
def f14g4 : List RO := [o_ 4 (.mv (.const (.slice .none 0 0))), o_ 5 (.mv (.const (.int .i64 0)))]
def f14g5 : List RO := [o_ 6 (.new [(.fl [])])]
def f14g6 : List RO := [o_ 7 (.new [(.D (.C .nilFunc))])]
def f14g7 : List RO := [o_ 24 (.mkf 62 [(t_ 6), (t_ 7)]), n_ (.store 1 (t_ 7) (t_ 24))]
def f14g8 : List RO := [o_ 25 (.load .none (t_ 7)), o_ 26 (.mv (t_ 0)), o_ 27 (.mv (t_ 1)), o_ 28 (.callE (t_ 25) [(t_ 26), (t_ 27), (.const (.bool .true))])]
def f14g9 : List RO := [o_ 29 (.load .none (t_ 6)), o_ 4 (.mv (t_ 29)), o_ 5 (.mv (.const (.int .i64 0)))]
def f14c : RCode := (.seq (.reg .false f14g0) (.seq (.seq (.reg .false f14g1) (.cond (t_ 15) (.seq (.reg .false f14g2) .ret) .skip)) (.seq (.seq (.reg .false f14g3) (.cond (t_ 23) (.seq (.reg .false f14g4) .ret) .skip)) (.seq (.reg .false f14g5) (.seq (.reg .false f14g6) (.seq (.reg .false f14g7) (.seq (.wkr (.reg .false f14g8)) (.seq (.reg .false f14g9) .ret))))))))
def f14r : List RRes := [(.tmp 4), (.tmp 5)]
attribute [push_cast] f14g0 f14g1 f14g2 f14g3 f14g4 f14g5 f14g6 f14g7 f14g8 f14g9
def F_merkle_Consistency (N : Nat) (p0 : (List (Arr 16))) (p1 : Int) : Option ((List (Arr 16)) × Int) := if? (decide (p1 < 0)) (some ([], 1)) (if? (decide (p1 > (p0.length : Int))) (some ([], 1)) (if? ((p1 == 0)) (some ([], 0)) (if? ((p1 == (p0.length : Int))) (some ([], 0)) (bd? (F_merkle_Consistency_1 N p0 p1 true []) fun v1 => some (v1, 0)))))
theorem c_merkle_Consistency (N : Nat) (p0 : (List (Arr 16))) (p1 : Int) (r : ((List (Arr 16)) × Int)) (h : F_merkle_Consistency N p0 p1 = some r) : ACall Tryd.prog 14 [.D (.L (p0.map (rA .u8))), .D (.I .i64 p1)] [] (.tup [.sl (.O 0) 16 0 r.1.length, .D (.I .i64 r.2)]) [] [.row true 16 (r.1.map (rA .u8))] := by
  refine ACall.of_bodyW [28, 2000008] (fn := Tryd.f14) (rc := f14c) (rs := f14r) Tryd.func14 rfl rfl (by kernel_rfl) (by kernel_rfl) (by kernel_rfl) (by rw [Tryd.ntmps14]; simp) ?_
  unfold F_merkle_Consistency at h
  unfold f14c f14r
  rw [entry_eq _ _]
  rcases F_if h with ⟨h638, h⟩ | ⟨h638, h⟩
  · obtain rfl := Option.some.inj h
    simp (disch := first | assumption | (simp; done) | omega | (simp; omega)) only [push_cast, seval, h638]
    refine end_own0 4 16 rfl ?_
    simp (disch := first | assumption | (simp; done) | omega | (simp; omega)) only [push_cast, seval, h638]
    refine AEndW.of [0] (.inr rfl) (by decide) rfl ?_ rfl ?_
    · simp (disch := first | assumption | (simp; done) | omega | (simp; omega)) only [push_cast, seval, h638] <;> rfl
    · simp (disch := first | assumption | (simp; done) | omega | (simp; omega)) only [push_cast, seval, h638] <;> rfl
  rcases F_if h with ⟨h639, h⟩ | ⟨h639, h⟩
  · obtain rfl := Option.some.inj h
    simp (disch := first | assumption | (simp; done) | omega | (simp; omega)) only [push_cast, seval, h638, h639]
    refine end_own0 4 16 rfl ?_
    simp (disch := first | assumption | (simp; done) | omega | (simp; omega)) only [push_cast, seval, h638, h639]
    refine AEndW.of [0] (.inr rfl) (by decide) rfl ?_ rfl ?_
    · simp (disch := first | assumption | (simp; done) | omega | (simp; omega)) only [push_cast, seval, h638, h639] <;> rfl
    · simp (disch := first | assumption | (simp; done) | omega | (simp; omega)) only [push_cast, seval, h638, h639] <;> rfl
  rcases F_if h with ⟨h640, h⟩ | ⟨h640, h⟩
  · obtain rfl := Option.some.inj h
    simp (disch := first | assumption | (simp; done) | omega | (simp; omega)) only [push_cast, seval, h638, h639, h640]
    refine end_own0 4 16 rfl ?_
    simp (disch := first | assumption | (simp; done) | omega | (simp; omega)) only [push_cast, seval, h638, h639, h640]
    refine AEndW.of [0] (.inr rfl) (by decide) rfl ?_ rfl ?_
    · simp (disch := first | assumption | (simp; done) | omega | (simp; omega)) only [push_cast, seval, h638, h639, h640] <;> rfl
    · simp (disch := first | assumption | (simp; done) | omega | (simp; omega)) only [push_cast, seval, h638, h639, h640] <;> rfl
  rcases F_if h with ⟨h641, h⟩ | ⟨h641, h⟩
  · obtain rfl := Option.some.inj h
    simp (disch := first | assumption | (simp; done) | omega | (simp; omega)) only [push_cast, seval, h638, h639, h640, h641]
    refine end_own0 4 16 rfl ?_
    simp (disch := first | assumption | (simp; done) | omega | (simp; omega)) only [push_cast, seval, h638, h639, h640, h641]
    refine AEndW.of [0] (.inr rfl) (by decide) rfl ?_ rfl ?_
    · simp (disch := first | assumption | (simp; done) | omega | (simp; omega)) only [push_cast, seval, h638, h639, h640, h641] <;> rfl
    · simp (disch := first | assumption | (simp; done) | omega | (simp; omega)) only [push_cast, seval, h638, h639, h640, h641] <;> rfl
  simp (disch := first | assumption | (simp; done) | omega | (simp; omega)) only [push_cast, seval, h638, h639, h640, h641]
  refine wkr_ownB (.O 0) [.fl []] 0 16 (by rfl) (by rfl) ?_
  simp (disch := first | assumption | (simp; done) | omega | (simp; omega)) only [push_cast, seval, h638, h639, h640, h641]
  refine wkr_of ?_
  obtain ⟨v1, h642, h⟩ := F_bd h
  simp (disch := first | assumption | (simp; done) | omega | (simp; omega)) only [push_cast, seval, h638, h639, h640, h641]
  refine callE_of [.O 0, .O 2, .O 1] (by rfl) (c_merkle_Consistency_1 N _ _ _ _ _ h642) (by decide) rfl (by simp (disch := first | assumption | (simp; done) | omega | (simp; omega)) only [push_cast, seval] <;> rfl) (by simp (maxSteps := 999999) (disch := first | assumption | (simp; done) | omega | (simp; omega)) only [push_cast, seval] <;> rfl) ?_ ?_ ?_
  · simp (disch := first | assumption | (simp; done) | omega | (simp; omega)) only [push_cast, seval, h638, h639, h640, h641] <;> rfl
  · simp (disch := first | assumption | (simp; done) | omega | (simp; omega)) only [push_cast, seval, h638, h639, h640, h641] <;> rfl
  obtain rfl := Option.some.inj h
  simp (disch := first | assumption | (simp; done) | omega | (simp; omega)) only [push_cast, seval, h638, h639, h640, h641]
  refine AEndW.of [3] (.inr rfl) (by decide) rfl ?_ rfl ?_
  · simp (disch := first | assumption | (simp; done) | omega | (simp; omega)) only [push_cast, seval, h638, h639, h640, h641] <;> rfl
  · simp (disch := first | assumption | (simp; done) | omega | (simp; omega)) only [push_cast, seval, h638, h639, h640, h641] <;> rfl

def f70g0 : List RO := [o_ 4 (.mv (.const (.bool .false)))]
def f70g1 : List RO := [o_ 5 (.mv (.const (.int .i64 (-1))))]
def f70g2 : List RO := [o_ 8 (.mv (t_ 0)), o_ 9 (.len .false (t_ 8)), o_ 10 (.mv (.const (.int .i64 0)))]
def f70g3 : List RO := [o_ 11 (.bin .lss (t_ 10) (t_ 9))]
def f70g4 : List RO := [o_ 12 (.iaddr 1 (t_ 8) (t_ 10)), o_ 13 (.load .none (t_ 12)), o_ 7 (.mv (t_ 13))]
def f70g5 : List RO := [o_ 14 (.mv (t_ 7)), o_ 15 (.mv (t_ 5)), o_ 16 (.bin .leq (t_ 14) (t_ 15)), o_ 17 (.mv (t_ 16)), ⟨(.some 18), (.mv (t_ 7)), (.some (17, .false))⟩, ⟨(.some 19), (.mv (t_ 1)), (.some (17, .false))⟩, ⟨(.some 20), (.bin .geq (t_ 18) (t_ 19)), (.some (17, .false))⟩, o_ 21 (.pick (t_ 17) (.const (.bool .true)) (t_ 20))]
def f70g6 : List RO := [o_ 4 (.mv (.const (.bool .false)))]
def f70g7 : List RO := [o_ 22 (.mv (t_ 7)), o_ 5 (.mv (t_ 22))]
def f70g8 : List RO := [o_ 23 (.bin .add (t_ 10) (.const (.int .i64 1))), o_ 10 (.mv (t_ 23))]
def f70b9 : RCode := (.seq (.reg .false f70g3) (.seq (.cond (t_ 11) .skip (.exit 0)) (.seq (.block 1 (.seq (.reg .false f70g4) (.seq (.seq (.reg .false f70g5) (.cond (t_ 21) (.seq (.reg .false f70g6) .ret) .skip)) (.reg .false f70g7)))) (.reg .false f70g8))))
def f70g10 : List RO := [o_ 4 (.mv (.const (.bool .true)))]
def f70c : RCode := (.seq (.reg .false f70g0) (.seq (.reg .false f70g1) (.seq (.seq (.reg .false f70g2) (.block 0 (.loop f70b9))) (.seq (.reg .false f70g10) .ret))))
def f70r : List RRes := [(.tmp 4)]
attribute [push_cast] f70g0 f70g1 f70g2 f70g3 f70g4 f70g5 f70g6 f70g7 f70g8 f70g10
def L_merkle_isAscending_0 (N : Nat) (p0 : (List Int)) (p1 : Int) : Nat → Int → Int → Option Bool
  | 0, _, _ => none
  | m1+1, a1, a2 => if? (decide (a2 < (p0.length : Int))) (get? p0 (a2) fun x3 => if? (decide (x3 ≤ a1)) (some (false)) (if? (decide (x3 ≥ p1)) (some (false)) (ck .i64 (a2 + 1) (L_merkle_isAscending_0 N p0 p1 m1 x3 (a2 + 1))))) (some (true))
def I_merkle_isAscending_0 (N : Nat) (p0 : (List Int)) (p1 : Int) (r : Bool) (n : Nat) (s : AState) : Prop := ∃ (a1 : Int) (a2 : Int), L_merkle_isAscending_0 N p0 p1 n a1 a2 = some r ∧ s = ⟨envL [(1, .D (.I .i64 p1)), (5, .D (.I .i64 a1)), (8, .D (.L (p0.map (rI .i64)))), (9, .D (.I .i64 (p0.length : Int))), (10, .D (.I .i64 a2))], ownL [], ownL [], 0⟩
def F_merkle_isAscending (N : Nat) (p0 : (List Int)) (p1 : Int) : Option Bool := L_merkle_isAscending_0 N p0 p1 N (-1) 0
theorem c_merkle_isAscending (N : Nat) (p0 : (List Int)) (p1 : Int) (r : Bool) (h : F_merkle_isAscending N p0 p1 = some r) : ACall Tryd.prog 70 [.D (.L (p0.map (rI .i64))), .D (.I .i64 p1)] [] (.D (.B r)) [] [] := by
  refine ACall.of_bodyW [] (fn := Tryd.f70) (rc := f70c) (rs := f70r) Tryd.func70 rfl rfl (by kernel_rfl) (by kernel_rfl) (by kernel_rfl) (by rw [Tryd.ntmps70]; simp) ?_
  unfold F_merkle_isAscending at h
  unfold f70c f70r
  rw [entry_eq _ _]
  simp (disch := first | assumption | (simp; done) | omega | (simp; omega)) only [push_cast, seval]
  refine loop_of (I_merkle_isAscending_0 N p0 p1 _) N [1, 5, 8, 9, 10] [] (by decide) ⟨(-1), 0, h, ?_⟩ ?_
  · rw [wk_mk]
    simp (disch := first | assumption | (simp; done) | omega | (simp; omega)) only [push_cast, seval] <;> rfl
  rintro n s ⟨a1, a2, h, rfl⟩
  rcases n with _ | m1
  · exact absurd h (by simp [L_merkle_isAscending_0])
  rw [L_merkle_isAscending_0] at h
  unfold f70b9
  rcases F_if h with ⟨h651, h⟩ | ⟨h651, h⟩
  rotate_left
  · obtain rfl := Option.some.inj h
    simp (disch := first | assumption | (simp; done) | omega | (simp; omega)) only [push_cast, seval, h651]
    refine e_ret (.inr rfl) ?_
    simp (disch := first | assumption | (simp; done) | omega | (simp; omega)) only [push_cast, seval, aret, aresults, aresult, h651]
    refine ⟨_, rfl, ?_⟩
    first | (simp (disch := first | assumption | (simp; done) | omega | (simp; omega)) only [push_cast, seval, h651] <;> rfl) | rfl
  obtain ⟨x3, h652, h653, h⟩ := F_get h
  have h655 := get_lt h652 h653
  have h654 := map_get (rI .i64) h653
  try simp (disch := first | assumption | (simp; done) | omega | (simp; omega)) only [push_cast, seval] at h654
  rcases F_if h with ⟨h656, h⟩ | ⟨h656, h⟩
  · obtain rfl := Option.some.inj h
    simp (disch := first | assumption | (simp; done) | omega | (simp; omega)) only [push_cast, seval, h651, h652, h654, h655, h656]
    refine e_ret (.inr rfl) ?_
    simp (disch := first | assumption | (simp; done) | omega | (simp; omega)) only [push_cast, seval, aret, aresults, aresult, h651, h652, h654, h655, h656]
    refine ⟨_, rfl, ?_⟩
    first | (simp (disch := first | assumption | (simp; done) | omega | (simp; omega)) only [push_cast, seval, h651, h652, h654, h655, h656] <;> rfl) | rfl
  rcases F_if h with ⟨h657, h⟩ | ⟨h657, h⟩
  · obtain rfl := Option.some.inj h
    simp (disch := first | assumption | (simp; done) | omega | (simp; omega)) only [push_cast, seval, h651, h652, h654, h655, h656, h657]
    refine e_ret (.inr rfl) ?_
    simp (disch := first | assumption | (simp; done) | omega | (simp; omega)) only [push_cast, seval, aret, aresults, aresult, h651, h652, h654, h655, h656, h657]
    refine ⟨_, rfl, ?_⟩
    first | (simp (disch := first | assumption | (simp; done) | omega | (simp; omega)) only [push_cast, seval, h651, h652, h654, h655, h656, h657] <;> rfl) | rfl
  obtain ⟨h658, h⟩ := F_ck h
  try simp (disch := first | assumption | (simp; done) | omega | (simp; omega)) only [push_cast, seval] at h658
  simp (disch := first | assumption | (simp; done) | omega | (simp; omega)) only [push_cast, seval, h651, h652, h654, h655, h656, h657, h658]
  refine lpK_of m1 [1, 5, 8, 9, 10] [] (by omega) (by decide) ⟨x3, (a2 + 1), (by first | exact h | simpa only [*] using h), ?_⟩
  rw [wk_mk]
  simp (disch := first | assumption | (simp; done) | omega | (simp; omega)) only [push_cast, seval, h651, h652, h654, h655, h656, h657, h658] <;> rfl

def f163g0 : List RO := [o_ 2 (.mv (.const (.bool .false)))]
def f163g1 : List RO := [o_ 3 (.mv (t_ 0)), o_ 4 (.mv (t_ 0)), o_ 5 (.bin .neq (t_ 3) (t_ 4)), o_ 2 (.mv (t_ 5))]
def f163c : RCode := (.seq (.reg .false f163g0) (.seq (.reg .false f163g1) .ret))
def f163r : List RRes := [(.tmp 2)]
attribute [push_cast] f163g0 f163g1
def F_cmp_isNaN_int (N : Nat) (p0 : Int) : Option Bool := some ((p0 != p0))
theorem c_cmp_isNaN_int (N : Nat) (p0 : Int) (r : Bool) (h : F_cmp_isNaN_int N p0 = some r) : ACall Tryd.prog 163 [.D (.I .i64 p0)] [] (.D (.B r)) [] [] := by
  refine ACall.of_bodyW [] (fn := Tryd.f163) (rc := f163c) (rs := f163r) Tryd.func163 rfl rfl (by kernel_rfl) (by kernel_rfl) (by kernel_rfl) (by rw [Tryd.ntmps163]; simp) ?_
  unfold F_cmp_isNaN_int at h
  unfold f163c f163r
  rw [entry_eq _ _]
  obtain rfl := Option.some.inj h
  simp (disch := first | assumption | (simp; done) | omega | (simp; omega)) only [push_cast, seval]
  refine e_ret (.inr rfl) ?_
  simp (disch := first | assumption | (simp; done) | omega | (simp; omega)) only [push_cast, seval, aret, aresults, aresult]
  refine ⟨_, rfl, ?_⟩
  first | (simp (disch := first | assumption | (simp; done) | omega | (simp; omega)) only [push_cast, seval] <;> rfl) | rfl

def f146g0 : List RO := [o_ 4 (.mv (.const (.bool .false)))]
def f146g1 : List RO := [o_ 5 (.mv (t_ 0)), o_ 6 (.call (.func 163) [(t_ 5)]), o_ 7 (.mv (t_ 6)), ⟨(.some 8), (.mv (t_ 1)), (.some (7, .true))⟩, ⟨(.some 9), (.call (.func 163) [(t_ 8)]), (.some (7, .true))⟩, ⟨(.some 10), (.un .not (t_ 9)), (.some (7, .true))⟩, o_ 11 (.pick (t_ 7) (t_ 10) (.const (.bool .false))), o_ 12 (.mv (t_ 11)), ⟨(.some 13), (.mv (t_ 0)), (.some (12, .false))⟩, ⟨(.some 14), (.mv (t_ 1)), (.some (12, .false))⟩, ⟨(.some 15), (.bin .lss (t_ 13) (t_ 14)), (.some (12, .false))⟩, o_ 16 (.pick (t_ 12) (.const (.bool .true)) (t_ 15)), o_ 4 (.mv (t_ 16))]
def f146c : RCode := (.seq (.reg .false f146g0) (.seq (.reg .false f146g1) .ret))
def f146r : List RRes := [(.tmp 4)]
attribute [push_cast] f146g0 f146g1
def F_cmp_Less_int (N : Nat) (p0 : Int) (p1 : Int) : Option Bool := bd? (F_cmp_isNaN_int N p0) fun v1 => if? (v1) (bd? (F_cmp_isNaN_int N p1) fun v2 => if? (v2) (some (decide (p0 < p1))) (some (true))) (some (decide (p0 < p1)))
theorem c_cmp_Less_int (N : Nat) (p0 : Int) (p1 : Int) (r : Bool) (h : F_cmp_Less_int N p0 p1 = some r) : ACall Tryd.prog 146 [.D (.I .i64 p0), .D (.I .i64 p1)] [] (.D (.B r)) [] [] := by
  refine ACall.of_bodyW [] (fn := Tryd.f146) (rc := f146c) (rs := f146r) Tryd.func146 rfl rfl (by kernel_rfl) (by kernel_rfl) (by kernel_rfl) (by rw [Tryd.ntmps146]; simp) ?_
  unfold F_cmp_Less_int at h
  unfold f146c f146r
  rw [entry_eq _ _]
  obtain ⟨v1, h663, h⟩ := F_bd h
  simp (disch := first | assumption | (simp; done) | omega | (simp; omega)) only [push_cast, seval]
  refine call_flat (by rfl) (c_cmp_isNaN_int N _ _ h663) ?_ rfl ?_
  · simp (disch := first | assumption | (simp; done) | omega | (simp; omega)) only [push_cast, seval] <;> rfl
  rcases F_if h with ⟨h664, h⟩ | ⟨h664, h⟩
  rotate_left
  · obtain rfl := Option.some.inj h
    simp (disch := first | assumption | (simp; done) | omega | (simp; omega)) only [push_cast, seval, h664]
    refine e_ret (.inr rfl) ?_
    simp (disch := first | assumption | (simp; done) | omega | (simp; omega)) only [push_cast, seval, aret, aresults, aresult, h664]
    refine ⟨_, rfl, ?_⟩
    first | (simp (disch := first | assumption | (simp; done) | omega | (simp; omega)) only [push_cast, seval, h664] <;> rfl) | rfl
  obtain ⟨v2, h665, h⟩ := F_bd h
  simp (disch := first | assumption | (simp; done) | omega | (simp; omega)) only [push_cast, seval, h664]
  refine call_flat (by rfl) (c_cmp_isNaN_int N _ _ h665) ?_ rfl ?_
  · simp (disch := first | assumption | (simp; done) | omega | (simp; omega)) only [push_cast, seval, h664] <;> rfl
  rcases F_if h with ⟨h666, h⟩ | ⟨h666, h⟩
  · obtain rfl := Option.some.inj h
    simp (disch := first | assumption | (simp; done) | omega | (simp; omega)) only [push_cast, seval, h664, h666]
    refine e_ret (.inr rfl) ?_
    simp (disch := first | assumption | (simp; done) | omega | (simp; omega)) only [push_cast, seval, aret, aresults, aresult, h664, h666]
    refine ⟨_, rfl, ?_⟩
    first | (simp (disch := first | assumption | (simp; done) | omega | (simp; omega)) only [push_cast, seval, h664, h666] <;> rfl) | rfl
  obtain rfl := Option.some.inj h
  simp (disch := first | assumption | (simp; done) | omega | (simp; omega)) only [push_cast, seval, h664, h666]
  refine e_ret (.inr rfl) ?_
  simp (disch := first | assumption | (simp; done) | omega | (simp; omega)) only [push_cast, seval, aret, aresults, aresult, h664, h666]
  refine ⟨_, rfl, ?_⟩
  first | (simp (disch := first | assumption | (simp; done) | omega | (simp; omega)) only [push_cast, seval, h664, h666] <;> rfl) | rfl

def f147g0 : List RO := [o_ 2 (.mv (.const (.bool .false)))]
def f147g1 : List RO := [o_ 3 (.mv (t_ 0)), o_ 4 (.mv (t_ 0)), o_ 5 (.bin .neq (t_ 3) (t_ 4)), o_ 2 (.mv (t_ 5))]
def f147c : RCode := (.seq (.reg .false f147g0) (.seq (.reg .false f147g1) .ret))
def f147r : List RRes := [(.tmp 2)]
attribute [push_cast] f147g0 f147g1
def F_slices_isNaN_int (N : Nat) (p0 : Int) : Option Bool := some ((p0 != p0))
theorem c_slices_isNaN_int (N : Nat) (p0 : Int) (r : Bool) (h : F_slices_isNaN_int N p0 = some r) : ACall Tryd.prog 147 [.D (.I .i64 p0)] [] (.D (.B r)) [] [] := by
  refine ACall.of_bodyW [] (fn := Tryd.f147) (rc := f147c) (rs := f147r) Tryd.func147 rfl rfl (by kernel_rfl) (by kernel_rfl) (by kernel_rfl) (by rw [Tryd.ntmps147]; simp) ?_
  unfold F_slices_isNaN_int at h
  unfold f147c f147r
  rw [entry_eq _ _]
  obtain rfl := Option.some.inj h
  simp (disch := first | assumption | (simp; done) | omega | (simp; omega)) only [push_cast, seval]
  refine e_ret (.inr rfl) ?_
  simp (disch := first | assumption | (simp; done) | omega | (simp; omega)) only [push_cast, seval, aret, aresults, aresult]
  refine ⟨_, rfl, ?_⟩
  first | (simp (disch := first | assumption | (simp; done) | omega | (simp; omega)) only [push_cast, seval] <;> rfl) | rfl

def f121g0 : List RO := [o_ 4 (.mv (.const (.int .i64 0))), o_ 5 (.mv (.const (.bool .false)))]
def f121g1 : List RO := [o_ 10 (.mv (t_ 0)), o_ 11 (.len .false (t_ 10)), o_ 6 (.mv (t_ 11))]
def f121g2 : List RO := [o_ 12 (.mv (t_ 6)), o_ 7 (.mv (.const (.int .i64 0))), o_ 8 (.mv (t_ 12))]
def f121g3 : List RO := [o_ 13 (.mv (t_ 7)), o_ 14 (.mv (t_ 8)), o_ 15 (.bin .lss (t_ 13) (t_ 14))]
def f121g4 : List RO := [o_ 16 (.mv (t_ 7)), o_ 17 (.mv (t_ 8)), o_ 18 (.bin .add (t_ 16) (t_ 17)), o_ 19 (.cvI .u64 (t_ 18)), o_ 20 (.bin .shr (t_ 19) (.const (.int .u64 1))), o_ 21 (.cvI .i64 (t_ 20)), o_ 9 (.mv (t_ 21))]
def f121g5 : List RO := [o_ 22 (.mv (t_ 0)), o_ 23 (.mv (t_ 9)), o_ 24 (.iaddr 1 (t_ 22) (t_ 23)), o_ 25 (.load .none (t_ 24)), o_ 26 (.mv (t_ 1)), o_ 27 (.call (.func 146) [(t_ 25), (t_ 26)])]
def f121g6 : List RO := [o_ 28 (.mv (t_ 9)), o_ 29 (.bin .add (t_ 28) (.const (.int .i64 1))), o_ 7 (.mv (t_ 29))]
def f121g7 : List RO := [o_ 30 (.mv (t_ 9)), o_ 8 (.mv (t_ 30))]
def f121b8 : RCode := (.seq (.seq (.reg .false f121g3) (.cond (t_ 15) .skip (.exit 0))) (.block 1 (.seq (.reg .false f121g4) (.seq (.reg .false f121g5) (.cond (t_ 27) (.reg .false f121g6) (.reg .false f121g7))))))
def f121g9 : List RO := [o_ 31 (.mv (t_ 7)), o_ 32 (.mv (t_ 7)), o_ 33 (.mv (t_ 6)), o_ 34 (.bin .lss (t_ 32) (t_ 33)), o_ 35 (.mv (t_ 34)), ⟨(.some 36), (.mv (t_ 0)), (.some (35, .true))⟩, ⟨(.some 37), (.mv (t_ 7)), (.some (35, .true))⟩, ⟨(.some 38), (.iaddr 1 (t_ 36) (t_ 37)), (.some (35, .true))⟩, ⟨(.some 39), (.load .none (t_ 38)), (.some (35, .true))⟩, ⟨(.some 40), (.mv (t_ 1)), (.some (35, .true))⟩, ⟨(.some 41), (.bin .eql (t_ 39) (t_ 40)), (.some (35, .true))⟩, ⟨(.some 42), (.mv (t_ 41)), (.some (35, .true))⟩, ⟨(.some 43), (.mv (t_ 0)), (.some (42, .false))⟩, ⟨(.some 44), (.mv (t_ 7)), (.some (42, .false))⟩, ⟨(.some 45), (.iaddr 1 (t_ 43) (t_ 44)), (.some (42, .false))⟩, ⟨(.some 46), (.load .none (t_ 45)), (.some (42, .false))⟩, ⟨(.some 47), (.call (.func 147) [(t_ 46)]), (.some (42, .false))⟩, ⟨(.some 48), (.mv (t_ 47)), (.some (42, .false))⟩, ⟨(.some 49), (.mv (t_ 1)), (.some (48, .true))⟩, ⟨(.some 50), (.call (.func 147) [(t_ 49)]), (.some (48, .true))⟩, ⟨(.some 51), (.pick (t_ 48) (t_ 50) (.const (.bool .false))), (.some (42, .false))⟩, ⟨(.some 52), (.pick (t_ 42) (.const (.bool .true)) (t_ 51)), (.some (35, .true))⟩, o_ 53 (.pick (t_ 35) (t_ 52) (.const (.bool .false))), o_ 4 (.mv (t_ 31)), o_ 5 (.mv (t_ 53))]
def f121c : RCode := (.seq (.reg .false f121g0) (.seq (.reg .false f121g1) (.seq (.reg .false f121g2) (.seq (.block 0 (.loop f121b8)) (.seq (.reg .false f121g9) .ret)))))
def f121r : List RRes := [(.tmp 4), (.tmp 5)]
attribute [push_cast] f121g0 f121g1 f121g2 f121g3 f121g4 f121g5 f121g6 f121g7 f121g9
def L_slices_BinarySearch_int_int_0 (N : Nat) (p0 : (List Int)) (p1 : Int) : Nat → Int → Int → Option (Int × Bool)
  | 0, _, _ => none
  | m1+1, a1, a2 => if? (decide (a1 < a2)) (ck .i64 (a1 + a2) (ck .i64 (((IntKind.wrap .u64 ((a1 + a2))) / 2 ^ (1 : Int).toNat)) (get? p0 ((((IntKind.wrap .u64 ((a1 + a2))) / 2 ^ (1 : Int).toNat))) fun x3 => bd? (F_cmp_Less_int N x3 p1) fun v4 => if? (v4) (ck .i64 ((((IntKind.wrap .u64 ((a1 + a2))) / 2 ^ (1 : Int).toNat)) + 1) (L_slices_BinarySearch_int_int_0 N p0 p1 m1 ((((IntKind.wrap .u64 ((a1 + a2))) / 2 ^ (1 : Int).toNat)) + 1) a2)) (L_slices_BinarySearch_int_int_0 N p0 p1 m1 a1 (((IntKind.wrap .u64 ((a1 + a2))) / 2 ^ (1 : Int).toNat)))))) (if? (decide (a1 < (p0.length : Int))) (get? p0 (a1) fun x5 => if? ((x5 == p1)) (some (a1, true)) (bd? (F_slices_isNaN_int N x5) fun v6 => if? (v6) (bd? (F_slices_isNaN_int N p1) fun v7 => some (a1, v7)) (some (a1, false)))) (some (a1, false)))
def I_slices_BinarySearch_int_int_0 (N : Nat) (p0 : (List Int)) (p1 : Int) (r : (Int × Bool)) (n : Nat) (s : AState) : Prop := ∃ (a1 : Int) (a2 : Int), L_slices_BinarySearch_int_int_0 N p0 p1 n a1 a2 = some r ∧ s = ⟨envL [(0, .D (.L (p0.map (rI .i64)))), (1, .D (.I .i64 p1)), (6, .D (.I .i64 (p0.length : Int))), (7, .D (.I .i64 a1)), (8, .D (.I .i64 a2))], ownL [], ownL [], 0⟩
def F_slices_BinarySearch_int_int (N : Nat) (p0 : (List Int)) (p1 : Int) : Option (Int × Bool) := L_slices_BinarySearch_int_int_0 N p0 p1 N 0 (p0.length : Int)
theorem c_slices_BinarySearch_int_int (N : Nat) (p0 : (List Int)) (p1 : Int) (r : (Int × Bool)) (h : F_slices_BinarySearch_int_int N p0 p1 = some r) : ACall Tryd.prog 121 [.D (.L (p0.map (rI .i64))), .D (.I .i64 p1)] [] (.tup [.D (.I .i64 r.1), .D (.B r.2)]) [] [] := by
  refine ACall.of_bodyW [] (fn := Tryd.f121) (rc := f121c) (rs := f121r) Tryd.func121 rfl rfl (by kernel_rfl) (by kernel_rfl) (by kernel_rfl) (by rw [Tryd.ntmps121]; simp) ?_
  unfold F_slices_BinarySearch_int_int at h
  unfold f121c f121r
  rw [entry_eq _ _]
  simp (disch := first | assumption | (simp; done) | omega | (simp; omega)) only [push_cast, seval]
  refine loop_of (I_slices_BinarySearch_int_int_0 N p0 p1 _) N [0, 1, 6, 7, 8] [] (by decide) ⟨0, (p0.length : Int), h, ?_⟩ ?_
  · rw [wk_mk]
    simp (disch := first | assumption | (simp; done) | omega | (simp; omega)) only [push_cast, seval] <;> rfl
  rintro n s ⟨a1, a2, h, rfl⟩
  rcases n with _ | m1
  · exact absurd h (by simp [L_slices_BinarySearch_int_int_0])
  rw [L_slices_BinarySearch_int_int_0] at h
  unfold f121b8
  rcases F_if h with ⟨h686, h⟩ | ⟨h686, h⟩
  · obtain ⟨h687, h⟩ := F_ck h
    try simp (disch := first | assumption | (simp; done) | omega | (simp; omega)) only [push_cast, seval] at h687
    obtain ⟨h688, h⟩ := F_ck h
    try simp (disch := first | assumption | (simp; done) | omega | (simp; omega)) only [push_cast, seval] at h688
    obtain ⟨x3, h689, h690, h⟩ := F_get h
    have h692 := get_lt h689 h690
    have h691 := map_get (rI .i64) h690
    try simp (disch := first | assumption | (simp; done) | omega | (simp; omega)) only [push_cast, seval] at h691
    try simp (disch := first | assumption | (simp; done) | omega | (simp; omega)) only [push_cast, seval] at h689
    try simp (disch := first | assumption | (simp; done) | omega | (simp; omega)) only [push_cast, seval] at h692
    obtain ⟨v4, h693, h⟩ := F_bd h
    simp (disch := first | assumption | (simp; done) | omega | (simp; omega)) only [push_cast, seval, h686, h687, h688, h689, h691, h692]
    refine call_flat (by rfl) (c_cmp_Less_int N _ _ _ h693) ?_ rfl ?_
    · simp (disch := first | assumption | (simp; done) | omega | (simp; omega)) only [push_cast, seval, h686, h687, h688, h689, h691, h692] <;> rfl
    rcases F_if h with ⟨h694, h⟩ | ⟨h694, h⟩
    rotate_left
    · simp (disch := first | assumption | (simp; done) | omega | (simp; omega)) only [push_cast, seval, h686, h687, h688, h689, h691, h692, h694]
      refine lpK_of m1 [0, 1, 6, 7, 8] [] (by omega) (by decide) ⟨a1, (((IntKind.wrap .u64 ((a1 + a2))) / 2 ^ (1 : Int).toNat)), (by first | exact h | simpa only [*] using h), ?_⟩
      rw [wk_mk]
      simp (disch := first | assumption | (simp; done) | omega | (simp; omega)) only [push_cast, seval, h686, h687, h688, h689, h691, h692, h694] <;> rfl
    obtain ⟨h695, h⟩ := F_ck h
    try simp (disch := first | assumption | (simp; done) | omega | (simp; omega)) only [push_cast, seval] at h695
    simp (disch := first | assumption | (simp; done) | omega | (simp; omega)) only [push_cast, seval, h686, h687, h688, h689, h691, h692, h694, h695]
    refine lpK_of m1 [0, 1, 6, 7, 8] [] (by omega) (by decide) ⟨((((IntKind.wrap .u64 ((a1 + a2))) / 2 ^ (1 : Int).toNat)) + 1), a2, (by first | exact h | simpa only [*] using h), ?_⟩
    rw [wk_mk]
    simp (disch := first | assumption | (simp; done) | omega | (simp; omega)) only [push_cast, seval, h686, h687, h688, h689, h691, h692, h694, h695] <;> rfl
  rcases F_if h with ⟨h696, h⟩ | ⟨h696, h⟩
  rotate_left
  · obtain rfl := Option.some.inj h
    simp (disch := first | assumption | (simp; done) | omega | (simp; omega)) only [push_cast, seval, h686, h696]
    refine e_ret (.inr rfl) ?_
    simp (disch := first | assumption | (simp; done) | omega | (simp; omega)) only [push_cast, seval, aret, aresults, aresult, h686, h696]
    refine ⟨_, rfl, ?_⟩
    first | (simp (disch := first | assumption | (simp; done) | omega | (simp; omega)) only [push_cast, seval, h686, h696] <;> rfl) | rfl
  obtain ⟨x5, h697, h698, h⟩ := F_get h
  have h700 := get_lt h697 h698
  have h699 := map_get (rI .i64) h698
  try simp (disch := first | assumption | (simp; done) | omega | (simp; omega)) only [push_cast, seval] at h699
  rcases F_if h with ⟨h701, h⟩ | ⟨h701, h⟩
  · obtain rfl := Option.some.inj h
    simp (disch := first | assumption | (simp; done) | omega | (simp; omega)) only [push_cast, seval, h686, h696, h697, h699, h700, h701]
    refine e_ret (.inr rfl) ?_
    simp (disch := first | assumption | (simp; done) | omega | (simp; omega)) only [push_cast, seval, aret, aresults, aresult, h686, h696, h697, h699, h700, h701]
    refine ⟨_, rfl, ?_⟩
    first | (simp (disch := first | assumption | (simp; done) | omega | (simp; omega)) only [push_cast, seval, h686, h696, h697, h699, h700, h701] <;> rfl) | rfl
  obtain ⟨v6, h702, h⟩ := F_bd h
  simp (disch := first | assumption | (simp; done) | omega | (simp; omega)) only [push_cast, seval, h686, h696, h697, h699, h700, h701]
  refine call_flat (by rfl) (c_slices_isNaN_int N _ _ h702) ?_ rfl ?_
  · simp (disch := first | assumption | (simp; done) | omega | (simp; omega)) only [push_cast, seval, h686, h696, h697, h699, h700, h701] <;> rfl
  rcases F_if h with ⟨h703, h⟩ | ⟨h703, h⟩
  rotate_left
  · obtain rfl := Option.some.inj h
    simp (disch := first | assumption | (simp; done) | omega | (simp; omega)) only [push_cast, seval, h686, h696, h697, h699, h700, h701, h703]
    refine e_ret (.inr rfl) ?_
    simp (disch := first | assumption | (simp; done) | omega | (simp; omega)) only [push_cast, seval, aret, aresults, aresult, h686, h696, h697, h699, h700, h701, h703]
    refine ⟨_, rfl, ?_⟩
    first | (simp (disch := first | assumption | (simp; done) | omega | (simp; omega)) only [push_cast, seval, h686, h696, h697, h699, h700, h701, h703] <;> rfl) | rfl
  obtain ⟨v7, h704, h⟩ := F_bd h
  simp (disch := first | assumption | (simp; done) | omega | (simp; omega)) only [push_cast, seval, h686, h696, h697, h699, h700, h701, h703]
  refine call_flat (by rfl) (c_slices_isNaN_int N _ _ h704) ?_ rfl ?_
  · simp (disch := first | assumption | (simp; done) | omega | (simp; omega)) only [push_cast, seval, h686, h696, h697, h699, h700, h701, h703] <;> rfl
  obtain rfl := Option.some.inj h
  simp (disch := first | assumption | (simp; done) | omega | (simp; omega)) only [push_cast, seval, h686, h696, h697, h699, h700, h701, h703]
  refine e_ret (.inr rfl) ?_
  simp (disch := first | assumption | (simp; done) | omega | (simp; omega)) only [push_cast, seval, aret, aresults, aresult, h686, h696, h697, h699, h700, h701, h703]
  refine ⟨_, rfl, ?_⟩
  first | (simp (disch := first | assumption | (simp; done) | omega | (simp; omega)) only [push_cast, seval, h686, h696, h697, h699, h700, h701, h703] <;> rfl) | rfl

def f72g0 : List RO := [o_ 4 (.mv (.const (.slice .none 0 0))), o_ 5 (.mv (.const (.slice .none 0 0)))]
def f72g1 : List RO := [o_ 9 (.mv (t_ 0)), o_ 10 (.mv (t_ 1)), o_ 11 (.call (.func 121) [(t_ 9), (t_ 10)]), o_ 8 (.mv (t_ 11)), o_ 12 (.ext (t_ 8) 0), o_ 13 (.ext (t_ 8) 1), o_ 6 (.mv (t_ 12)), o_ 7 (.mv (t_ 13))]
def f72g2 : List RO := [o_ 14 (.mv (t_ 0)), o_ 15 (.mv (t_ 6)), o_ 16 (.mv (t_ 6)), o_ 17 (.sll 1 (t_ 14) .none (.some (t_ 15)) (.some (t_ 16))), o_ 18 (.mv (t_ 0)), o_ 19 (.mv (t_ 6)), o_ 20 (.sll 1 (t_ 18) (.some (t_ 19)) .none .none), o_ 4 (.mv (t_ 17)), o_ 5 (.mv (t_ 20))]
def f72c : RCode := (.seq (.reg .false f72g0) (.seq (.reg .false f72g1) (.seq (.reg .true f72g2) .ret)))
def f72r : List RRes := [(.tmp 4), (.tmp 5)]
attribute [push_cast] f72g0 f72g1 f72g2
def F_merkle_cut (N : Nat) (p0 : (List Int)) (p1 : Int) : Option ((List Int) × (List Int)) := bd? (F_slices_BinarySearch_int_int N p0 p1) fun v1 => gd? (0 ≤ v1.1) (gd? (v1.1.toNat ≤ p0.length) (some ((p0.take (v1.1.toNat - 0)), ((p0.drop v1.1.toNat).take (p0.length - v1.1.toNat)))))
theorem c_merkle_cut (N : Nat) (p0 : (List Int)) (p1 : Int) (r : ((List Int) × (List Int))) (h : F_merkle_cut N p0 p1 = some r) : ACall Tryd.prog 72 [.D (.L (p0.map (rI .i64))), .D (.I .i64 p1)] [] (.tup [.D (.L (r.1.map (rI .i64))), .D (.L (r.2.map (rI .i64)))]) [] [] := by
  refine ACall.of_bodyW [] (fn := Tryd.f72) (rc := f72c) (rs := f72r) Tryd.func72 rfl rfl (by kernel_rfl) (by kernel_rfl) (by kernel_rfl) (by rw [Tryd.ntmps72]; simp) ?_
  unfold F_merkle_cut at h
  unfold f72c f72r
  rw [entry_eq _ _]
  obtain ⟨v1, h708, h⟩ := F_bd h
  simp (disch := first | assumption | (simp; done) | omega | (simp; omega)) only [push_cast, seval]
  refine call_flat (by rfl) (c_slices_BinarySearch_int_int N _ _ _ h708) ?_ rfl ?_
  · simp (disch := first | assumption | (simp; done) | omega | (simp; omega)) only [push_cast, seval] <;> rfl
  obtain ⟨h709, h⟩ := F_gd h
  obtain ⟨h710, h⟩ := F_gd h
  try simp (disch := first | assumption | (simp; done) | omega | (simp; omega)) only [push_cast, seval] at h710
  obtain rfl := Option.some.inj h
  simp (disch := first | assumption | (simp; done) | omega | (simp; omega)) only [push_cast, seval, h709, h710]
  refine e_ret (.inr rfl) ?_
  simp (disch := first | assumption | (simp; done) | omega | (simp; omega)) only [push_cast, seval, aret, aresults, aresult, h709, h710]
  refine ⟨_, rfl, ?_⟩
  first | (simp (disch := first | assumption | (simp; done) | omega | (simp; omega)) only [push_cast, seval, h709, h710] <;> rfl) | rfl

def f71g0 : List RO := [o_ 12 (.mv (t_ 2)), o_ 13 (.len .false (t_ 12)), o_ 14 (.bin .eql (t_ 13) (.const (.int .i64 0))), o_ 11 (.mv (t_ 14))]
def f71g1 : List RO := [o_ 15 (.load .none (t_ 3)), o_ 16 (.mv (t_ 0)), o_ 17 (.call (.func 18) [(t_ 16)]), o_ 18 (.bslice 16 [(t_ 17)]), o_ 19 (.appE 16 16 (t_ 15) (t_ 18)), n_ (.store 1 (t_ 3) (t_ 19))]
def f71g2 : List RO := [o_ 21 (.mv (t_ 0)), o_ 22 (.len .false (t_ 21)), o_ 23 (.bin .gtr (t_ 22) (.const (.int .i64 1))), o_ 20 (.mv (t_ 23))]
def f71g3 : List RO := [o_ 24 (.mv (t_ 0)), o_ 25 (.len .false (t_ 24)), o_ 26 (.call (.func 61) [(t_ 25)]), o_ 8 (.mv (t_ 26))]
def f71g4 : List RO := [o_ 28 (.mv (t_ 2)), o_ 29 (.mv (t_ 1)), o_ 30 (.mv (t_ 8)), o_ 31 (.bin .add (t_ 29) (t_ 30)), o_ 32 (.call (.func 72) [(t_ 28), (t_ 31)]), o_ 27 (.mv (t_ 32)), o_ 33 (.ext (t_ 27) 0), o_ 34 (.ext (t_ 27) 1), o_ 9 (.mv (t_ 33)), o_ 10 (.mv (t_ 34))]
def f71g5 : List RO := [o_ 35 (.load .none (t_ 4)), o_ 36 (.mv (t_ 0)), o_ 37 (.mv (t_ 8)), o_ 38 (.mv (t_ 8)), o_ 39 (.sll 16 (t_ 36) .none (.some (t_ 37)) (.some (t_ 38))), o_ 40 (.mv (t_ 1)), o_ 41 (.mv (t_ 9)), o_ 42 (.callE (t_ 35) [(t_ 39), (t_ 40), (t_ 41)])]
def f71g6 : List RO := [o_ 43 (.load .none (t_ 4)), o_ 44 (.mv (t_ 0)), o_ 45 (.mv (t_ 8)), o_ 46 (.sll 16 (t_ 44) (.some (t_ 45)) .none .none), o_ 47 (.mv (t_ 1)), o_ 48 (.mv (t_ 8)), o_ 49 (.bin .add (t_ 47) (t_ 48)), o_ 50 (.mv (t_ 10)), o_ 51 (.callE (t_ 43) [(t_ 46), (t_ 49), (t_ 50)])]
def f71c : RCode := (.block 0 (.seq (.reg .false f71g0) (.cond (t_ 11) (.reg .true f71g1) (.seq (.reg .false f71g2) (.cond (t_ 20) (.seq (.reg .false f71g3) (.seq (.reg .false f71g4) (.seq (.reg .true f71g5) (.reg .true f71g6)))) .skip)))))
def f71r : List RRes := []
attribute [push_cast] f71g0 f71g1 f71g2 f71g3 f71g4 f71g5 f71g6
def F_merkle_Many_1_r (N : Nat) : Nat → (List (Arr 16)) → Int → (List Int) → (List (Arr 16)) → Option (List (Arr 16))
  | 0, _, _, _, _ => none
  | dd + 1, p0, p1, p2, q0 => if? (((p2.length : Int) == 0)) (bd? (F_merkle_Root N p0) fun v1 => gd? ((q0.length + [v1].length) * 16 ≤ 140737488355328) (some ((q0 ++ [v1])))) (if? (decide ((p0.length : Int) > 1)) (bd? (F_merkle_split N (p0.length : Int)) fun v2 => ck .i64 (p1 + v2) (bd? (F_merkle_cut N p2 (p1 + v2)) fun v3 => gd? (0 ≤ v2) (gd? (v2.toNat ≤ p0.length) (bd? (F_merkle_Many_1_r N dd (p0.take (v2.toNat - 0)) p1 v3.1 q0) fun v4 => bd? (F_merkle_Many_1_r N dd ((p0.drop v2.toNat).take (p0.length - v2.toNat)) (p1 + v2) v3.2 v4) fun v5 => some (v5))))) (some (q0)))
def F_merkle_Many_1 (N : Nat) (p0 : (List (Arr 16))) (p1 : Int) (p2 : (List Int)) (q0 : (List (Arr 16))) : Option (List (Arr 16)) := F_merkle_Many_1_r N N p0 p1 p2 q0
theorem c_merkle_Many_1_r (N dd : Nat) : ∀ (p0 : (List (Arr 16))) (p1 : Int) (p2 : (List Int)) (q0 : (List (Arr 16))) (r : (List (Arr 16))), F_merkle_Many_1_r N dd p0 p1 p2 q0 = some r → ACall Tryd.prog 71 [.D (.L (p0.map (rA .u8))), .D (.I .i64 p1), .D (.L (p2.map (rI .i64))), .ptr (.B 0) 0, .ptr (.B 2) 0] [some (.box ([.sl (.B 1) 16 0 q0.length])), some (.row true 16 (q0.map (rA .u8))), some (.box ([.clo 71 [.ptr (.B 0) 0, .ptr (.B 2) 0]]))] (.tup []) [some (.box ([.sl (.O 0) 16 0 r.length])), none, some (.box ([.clo 71 [.ptr (.B 0) 0, .ptr (.B 2) 0]]))] [.row true 16 (r.map (rA .u8))] := by
  induction dd with
  | zero => intro p0 p1 p2 q0 r h; exact absurd h (by simp [F_merkle_Many_1_r])
  | succ dd ih =>
  intro p0 p1 p2 q0 r h
  refine ACall.of_bodyM [19, 42, 51] [1] (fn := Tryd.f71) (rc := f71c) (rs := f71r) Tryd.func71 rfl rfl (by kernel_rfl) (by kernel_rfl) (by kernel_rfl) (by rw [Tryd.ntmps71]; simp) (by decide) ?_
  rw [F_merkle_Many_1_r] at h
  unfold f71c f71r
  rw [entryM_eq _ _ _ _ _ (by simp (disch := first | assumption | (simp; done) | omega | (simp; omega)) only [push_cast, seval] <;> rfl) (by simp (maxSteps := 999999) (disch := first | assumption | (simp; done) | omega | (simp; omega)) only [push_cast, seval] <;> rfl)]
  rcases F_if h with ⟨h722, h⟩ | ⟨h722, h⟩
  · obtain ⟨v1, h723, h⟩ := F_bd h
    simp (disch := first | assumption | (simp; done) | omega | (simp; omega)) only [push_cast, seval, h722]
    refine call_flat (by rfl) (c_merkle_Root N _ _ h723) ?_ (by simp [AV.flat, AV.flatL, flatL_aI, flatL_app, DV.flat]) ?_
    · simp (disch := first | assumption | (simp; done) | omega | (simp; omega)) only [push_cast, seval, h722] <;> rfl
    obtain ⟨h724, h⟩ := F_gd h
    try simp (disch := first | assumption | (simp; done) | omega | (simp; omega)) only [push_cast, seval] at h724
    obtain rfl := Option.some.inj h
    simp (disch := first | assumption | (simp; done) | omega | (simp; omega)) only [push_cast, seval, h722, h724]
    refine AEndW.of [2] (.inl rfl) (by decide) rfl ?_ ?_ ?_
    · simp (disch := first | assumption | (simp; done) | omega | (simp; omega)) only [push_cast, seval, h722, h724] <;> rfl
    · simp (disch := first | assumption | (simp; done) | omega | (simp; omega)) only [push_cast, seval, h722, h724] <;> rfl
    · simp (disch := first | assumption | (simp; done) | omega | (simp; omega)) only [push_cast, seval, h722, h724] <;> rfl
  rcases F_if h with ⟨h725, h⟩ | ⟨h725, h⟩
  rotate_left
  · obtain rfl := Option.some.inj h
    simp (disch := first | assumption | (simp; done) | omega | (simp; omega)) only [push_cast, seval, h722, h725]
    refine AEndW.of [0] (.inl rfl) (by decide) rfl ?_ ?_ ?_
    · simp (disch := first | assumption | (simp; done) | omega | (simp; omega)) only [push_cast, seval, h722, h725] <;> rfl
    · simp (disch := first | assumption | (simp; done) | omega | (simp; omega)) only [push_cast, seval, h722, h725] <;> rfl
    · simp (disch := first | assumption | (simp; done) | omega | (simp; omega)) only [push_cast, seval, h722, h725] <;> rfl
  obtain ⟨v2, h726, h⟩ := F_bd h
  simp (disch := first | assumption | (simp; done) | omega | (simp; omega)) only [push_cast, seval, h722, h725]
  refine call_flat (by rfl) (c_merkle_split N _ _ h726) ?_ rfl ?_
  · simp (disch := first | assumption | (simp; done) | omega | (simp; omega)) only [push_cast, seval, h722, h725] <;> rfl
  obtain ⟨h727, h⟩ := F_ck h
  try simp (disch := first | assumption | (simp; done) | omega | (simp; omega)) only [push_cast, seval] at h727
  obtain ⟨v3, h728, h⟩ := F_bd h
  simp (disch := first | assumption | (simp; done) | omega | (simp; omega)) only [push_cast, seval, h722, h725, h727]
  refine call_new (by rfl) (c_merkle_cut N _ _ _ h728) ?_ rfl ?_
  · simp (disch := first | assumption | (simp; done) | omega | (simp; omega)) only [push_cast, seval, h722, h725, h727] <;> rfl
  obtain ⟨h729, h⟩ := F_gd h
  obtain ⟨h730, h⟩ := F_gd h
  try simp (disch := first | assumption | (simp; done) | omega | (simp; omega)) only [push_cast, seval] at h730
  obtain ⟨v4, h731, h⟩ := F_bd h
  simp (disch := first | assumption | (simp; done) | omega | (simp; omega)) only [push_cast, seval, h722, h725, h727, h729, h730]
  refine callE_of [.B 0, .O 0, .B 2] (by rfl) (ih _ _ _ _ _ h731) (by decide) rfl (by simp (disch := first | assumption | (simp; done) | omega | (simp; omega)) only [push_cast, seval] <;> rfl) (by simp (maxSteps := 999999) (disch := first | assumption | (simp; done) | omega | (simp; omega)) only [push_cast, seval] <;> rfl) ?_ ?_ ?_
  · simp (disch := first | assumption | (simp; done) | omega | (simp; omega)) only [push_cast, seval, h722, h725, h727, h729, h730] <;> rfl
  · simp (disch := first | assumption | (simp; done) | omega | (simp; omega)) only [push_cast, seval, h722, h725, h727, h729, h730] <;> rfl
  obtain ⟨v5, h732, h⟩ := F_bd h
  simp (disch := first | assumption | (simp; done) | omega | (simp; omega)) only [push_cast, seval, h722, h725, h727, h729, h730]
  refine callE_of [.B 0, .O 1, .B 2] (by rfl) (ih _ _ _ _ _ h732) (by decide) rfl (by simp (disch := first | assumption | (simp; done) | omega | (simp; omega)) only [push_cast, seval] <;> rfl) (by simp (maxSteps := 999999) (disch := first | assumption | (simp; done) | omega | (simp; omega)) only [push_cast, seval] <;> rfl) ?_ ?_ ?_
  · simp (disch := first | assumption | (simp; done) | omega | (simp; omega)) only [push_cast, seval, h722, h725, h727, h729, h730] <;> rfl
  · simp (disch := first | assumption | (simp; done) | omega | (simp; omega)) only [push_cast, seval, h722, h725, h727, h729, h730] <;> rfl
  obtain rfl := Option.some.inj h
  simp (disch := first | assumption | (simp; done) | omega | (simp; omega)) only [push_cast, seval, h722, h725, h727, h729, h730]
  refine AEndW.of [2] (.inl rfl) (by decide) rfl ?_ ?_ ?_
  · simp (disch := first | assumption | (simp; done) | omega | (simp; omega)) only [push_cast, seval, h722, h725, h727, h729, h730] <;> rfl
  · simp (disch := first | assumption | (simp; done) | omega | (simp; omega)) only [push_cast, seval, h722, h725, h727, h729, h730] <;> rfl
  · simp (disch := first | assumption | (simp; done) | omega | (simp; omega)) only [push_cast, seval, h722, h725, h727, h729, h730] <;> rfl
theorem c_merkle_Many_1 (N : Nat) (p0 : (List (Arr 16))) (p1 : Int) (p2 : (List Int)) (q0 : (List (Arr 16))) (r : (List (Arr 16))) (h : F_merkle_Many_1 N p0 p1 p2 q0 = some r) : ACall Tryd.prog 71 [.D (.L (p0.map (rA .u8))), .D (.I .i64 p1), .D (.L (p2.map (rI .i64))), .ptr (.B 0) 0, .ptr (.B 2) 0] [some (.box ([.sl (.B 1) 16 0 q0.length])), some (.row true 16 (q0.map (rA .u8))), some (.box ([.clo 71 [.ptr (.B 0) 0, .ptr (.B 2) 0]]))] (.tup []) [some (.box ([.sl (.O 0) 16 0 r.length])), none, some (.box ([.clo 71 [.ptr (.B 0) 0, .ptr (.B 2) 0]]))] [.row true 16 (r.map (rA .u8))] := c_merkle_Many_1_r N N p0 p1 p2 q0 r h

def f24g0 : List RO := [o_ 4 (.mv (.const (.slice .none 0 0))), o_ 5 (.mv (.const (.int .i64 0)))]
def f24g1 : List RO := [o_ 8 (.mv (t_ 1)), o_ 9 (.mv (t_ 0)), o_ 10 (.len .false (t_ 9)), o_ 11 (.call (.func 70) [(t_ 8), (t_ 10)]), o_ 12 (.un .not (t_ 11))]
def f24g2 : List RO := [o_ 4 (.mv (.const (.slice .none 0 0))), o_ 5 (.mv (.const (.int .i64 1)))]
def f24g3 : List RO := [o_ 6 (.new [(.fl [])])]
def f24g4 : List RO := [o_ 7 (.new [(.D (.C .nilFunc))])]
def f24g5 : List RO := [o_ 13 (.mkf 71 [(t_ 6), (t_ 7)]), n_ (.store 1 (t_ 7) (t_ 13))]
def f24g6 : List RO := [o_ 14 (.mv (t_ 0)), o_ 15 (.len .false (t_ 14)), o_ 16 (.bin .gtr (t_ 15) (.const (.int .i64 0)))]
def f24g7 : List RO := [o_ 17 (.load .none (t_ 7)), o_ 18 (.mv (t_ 0)), o_ 19 (.mv (t_ 1)), o_ 20 (.callE (t_ 17) [(t_ 18), (.const (.int .i64 0)), (t_ 19)])]
def f24g8 : List RO := [o_ 21 (.load .none (t_ 6)), o_ 4 (.mv (t_ 21)), o_ 5 (.mv (.const (.int .i64 0)))]
def f24c : RCode := (.seq (.reg .false f24g0) (.seq (.seq (.reg .false f24g1) (.cond (t_ 12) (.seq (.reg .false f24g2) .ret) .skip)) (.seq (.reg .false f24g3) (.seq (.reg .false f24g4) (.seq (.reg .false f24g5) (.seq (.seq (.reg .false f24g6) (.cond (t_ 16) (.wkr (.reg .false f24g7)) .skip)) (.seq (.reg .false f24g8) .ret)))))))
def f24r : List RRes := [(.tmp 4), (.tmp 5)]
attribute [push_cast] f24g0 f24g1 f24g2 f24g3 f24g4 f24g5 f24g6 f24g7 f24g8
def F_merkle_Many (N : Nat) (p0 : (List (Arr 16))) (p1 : (List Int)) : Option ((List (Arr 16)) × Int) := bd? (F_merkle_isAscending N p1 (p0.length : Int)) fun v1 => if? (v1) (if? (decide ((p0.length : Int) > 0)) (bd? (F_merkle_Many_1 N p0 0 p1 []) fun v2 => some (v2, 0)) (some ([], 0))) (some ([], 1))
theorem c_merkle_Many (N : Nat) (p0 : (List (Arr 16))) (p1 : (List Int)) (r : ((List (Arr 16)) × Int)) (h : F_merkle_Many N p0 p1 = some r) : ACall Tryd.prog 24 [.D (.L (p0.map (rA .u8))), .D (.L (p1.map (rI .i64)))] [] (.tup [.sl (.O 0) 16 0 r.1.length, .D (.I .i64 r.2)]) [] [.row true 16 (r.1.map (rA .u8))] := by
  refine ACall.of_bodyW [20, 2000007] (fn := Tryd.f24) (rc := f24c) (rs := f24r) Tryd.func24 rfl rfl (by kernel_rfl) (by kernel_rfl) (by kernel_rfl) (by rw [Tryd.ntmps24]; simp) ?_
  unfold F_merkle_Many at h
  unfold f24c f24r
  rw [entry_eq _ _]
  obtain ⟨v1, h737, h⟩ := F_bd h
  simp (disch := first | assumption | (simp; done) | omega | (simp; omega)) only [push_cast, seval]
  refine call_flat (by rfl) (c_merkle_isAscending N _ _ _ h737) ?_ rfl ?_
  · simp (disch := first | assumption | (simp; done) | omega | (simp; omega)) only [push_cast, seval] <;> rfl
  rcases F_if h with ⟨h738, h⟩ | ⟨h738, h⟩
  rotate_left
  · obtain rfl := Option.some.inj h
    simp (disch := first | assumption | (simp; done) | omega | (simp; omega)) only [push_cast, seval, h738]
    refine end_own0 4 16 rfl ?_
    simp (disch := first | assumption | (simp; done) | omega | (simp; omega)) only [push_cast, seval, h738]
    refine AEndW.of [0] (.inr rfl) (by decide) rfl ?_ rfl ?_
    · simp (disch := first | assumption | (simp; done) | omega | (simp; omega)) only [push_cast, seval, h738] <;> rfl
    · simp (disch := first | assumption | (simp; done) | omega | (simp; omega)) only [push_cast, seval, h738] <;> rfl
  rcases F_if h with ⟨h739, h⟩ | ⟨h739, h⟩
  rotate_left
  · obtain rfl := Option.some.inj h
    simp (disch := first | assumption | (simp; done) | omega | (simp; omega)) only [push_cast, seval, h738, h739]
    refine end_own0 4 16 rfl ?_
    simp (disch := first | assumption | (simp; done) | omega | (simp; omega)) only [push_cast, seval, h738, h739]
    refine AEndW.of [2] (.inr rfl) (by decide) rfl ?_ rfl ?_
    · simp (disch := first | assumption | (simp; done) | omega | (simp; omega)) only [push_cast, seval, h738, h739] <;> rfl
    · simp (disch := first | assumption | (simp; done) | omega | (simp; omega)) only [push_cast, seval, h738, h739] <;> rfl
  simp (disch := first | assumption | (simp; done) | omega | (simp; omega)) only [push_cast, seval, h738, h739]
  refine wkr_ownB (.O 0) [.fl []] 0 16 (by rfl) (by rfl) ?_
  simp (disch := first | assumption | (simp; done) | omega | (simp; omega)) only [push_cast, seval, h738, h739]
  refine wkr_of ?_
  obtain ⟨v2, h740, h⟩ := F_bd h
  simp (disch := first | assumption | (simp; done) | omega | (simp; omega)) only [push_cast, seval, h738, h739]
  refine callE_of [.O 0, .O 2, .O 1] (by rfl) (c_merkle_Many_1 N _ _ _ _ _ h740) (by decide) rfl (by simp (disch := first | assumption | (simp; done) | omega | (simp; omega)) only [push_cast, seval] <;> rfl) (by simp (maxSteps := 999999) (disch := first | assumption | (simp; done) | omega | (simp; omega)) only [push_cast, seval] <;> rfl) ?_ ?_ ?_
  · simp (disch := first | assumption | (simp; done) | omega | (simp; omega)) only [push_cast, seval, h738, h739] <;> rfl
  · simp (disch := first | assumption | (simp; done) | omega | (simp; omega)) only [push_cast, seval, h738, h739] <;> rfl
  obtain rfl := Option.some.inj h
  simp (disch := first | assumption | (simp; done) | omega | (simp; omega)) only [push_cast, seval, h738, h739]
  refine AEndW.of [3] (.inr rfl) (by decide) rfl ?_ rfl ?_
  · simp (disch := first | assumption | (simp; done) | omega | (simp; omega)) only [push_cast, seval, h738, h739] <;> rfl
  · simp (disch := first | assumption | (simp; done) | omega | (simp; omega)) only [push_cast, seval, h738, h739] <;> rfl

def f149g0 : List RO := [o_ 2 (.mv (.const (.int .i64 0)))]
def f149g1 : List RO := [o_ 3 (.mv (t_ 0)), o_ 4 (.bin .shr (t_ 3) (.const (.int .u64 1))), o_ 5 (.bin .and (t_ 4) (.const (.int .u64 6148914691236517205))), o_ 6 (.mv (t_ 0)), o_ 7 (.bin .and (t_ 6) (.const (.int .u64 6148914691236517205))), o_ 8 (.bin .add (t_ 5) (t_ 7)), o_ 0 (.mv (t_ 8))]
def f149g2 : List RO := [o_ 9 (.mv (t_ 0)), o_ 10 (.bin .shr (t_ 9) (.const (.int .u64 2))), o_ 11 (.bin .and (t_ 10) (.const (.int .u64 3689348814741910323))), o_ 12 (.mv (t_ 0)), o_ 13 (.bin .and (t_ 12) (.const (.int .u64 3689348814741910323))), o_ 14 (.bin .add (t_ 11) (t_ 13)), o_ 0 (.mv (t_ 14))]
def f149g3 : List RO := [o_ 15 (.mv (t_ 0)), o_ 16 (.bin .shr (t_ 15) (.const (.int .u64 4))), o_ 17 (.mv (t_ 0)), o_ 18 (.bin .add (t_ 16) (t_ 17)), o_ 19 (.bin .and (t_ 18) (.const (.int .u64 1085102592571150095))), o_ 0 (.mv (t_ 19))]
def f149g4 : List RO := [o_ 20 (.mv (t_ 0)), o_ 21 (.mv (t_ 0)), o_ 22 (.bin .shr (t_ 21) (.const (.int .u64 8))), o_ 23 (.bin .add (t_ 20) (t_ 22)), o_ 0 (.mv (t_ 23))]
def f149g5 : List RO := [o_ 24 (.mv (t_ 0)), o_ 25 (.mv (t_ 0)), o_ 26 (.bin .shr (t_ 25) (.const (.int .u64 16))), o_ 27 (.bin .add (t_ 24) (t_ 26)), o_ 0 (.mv (t_ 27))]
def f149g6 : List RO := [o_ 28 (.mv (t_ 0)), o_ 29 (.mv (t_ 0)), o_ 30 (.bin .shr (t_ 29) (.const (.int .u64 32))), o_ 31 (.bin .add (t_ 28) (t_ 30)), o_ 0 (.mv (t_ 31))]
def f149g7 : List RO := [o_ 32 (.mv (t_ 0)), o_ 33 (.cvI .i64 (t_ 32)), o_ 34 (.bin .and (t_ 33) (.const (.int .i64 127))), o_ 2 (.mv (t_ 34))]
def f149c : RCode := (.seq (.reg .false f149g0) (.seq (.reg .false f149g1) (.seq (.reg .false f149g2) (.seq (.reg .false f149g3) (.seq (.reg .false f149g4) (.seq (.reg .false f149g5) (.seq (.reg .false f149g6) (.seq (.reg .false f149g7) .ret))))))))
def f149r : List RRes := [(.tmp 2)]
attribute [push_cast] f149g0 f149g1 f149g2 f149g3 f149g4 f149g5 f149g6 f149g7
def F_bits_OnesCount64 (N : Nat) (p0 : Int) : Option Int := ck .i64 ((IntKind.wrap .u64 ((IntKind.wrap .u64 ((IntKind.wrap .u64 ((bits .and .u64 (IntKind.wrap .u64 (((IntKind.wrap .u64 ((bits .and .u64 ((IntKind.wrap .u64 ((bits .and .u64 (p0 / 2 ^ (1 : Int).toNat) 6148914691236517205) + (bits .and .u64 p0 6148914691236517205))) / 2 ^ (2 : Int).toNat) 3689348814741910323) + (bits .and .u64 (IntKind.wrap .u64 ((bits .and .u64 (p0 / 2 ^ (1 : Int).toNat) 6148914691236517205) + (bits .and .u64 p0 6148914691236517205))) 3689348814741910323))) / 2 ^ (4 : Int).toNat) + (IntKind.wrap .u64 ((bits .and .u64 ((IntKind.wrap .u64 ((bits .and .u64 (p0 / 2 ^ (1 : Int).toNat) 6148914691236517205) + (bits .and .u64 p0 6148914691236517205))) / 2 ^ (2 : Int).toNat) 3689348814741910323) + (bits .and .u64 (IntKind.wrap .u64 ((bits .and .u64 (p0 / 2 ^ (1 : Int).toNat) 6148914691236517205) + (bits .and .u64 p0 6148914691236517205))) 3689348814741910323))))) 1085102592571150095) + ((bits .and .u64 (IntKind.wrap .u64 (((IntKind.wrap .u64 ((bits .and .u64 ((IntKind.wrap .u64 ((bits .and .u64 (p0 / 2 ^ (1 : Int).toNat) 6148914691236517205) + (bits .and .u64 p0 6148914691236517205))) / 2 ^ (2 : Int).toNat) 3689348814741910323) + (bits .and .u64 (IntKind.wrap .u64 ((bits .and .u64 (p0 / 2 ^ (1 : Int).toNat) 6148914691236517205) + (bits .and .u64 p0 6148914691236517205))) 3689348814741910323))) / 2 ^ (4 : Int).toNat) + (IntKind.wrap .u64 ((bits .and .u64 ((IntKind.wrap .u64 ((bits .and .u64 (p0 / 2 ^ (1 : Int).toNat) 6148914691236517205) + (bits .and .u64 p0 6148914691236517205))) / 2 ^ (2 : Int).toNat) 3689348814741910323) + (bits .and .u64 (IntKind.wrap .u64 ((bits .and .u64 (p0 / 2 ^ (1 : Int).toNat) 6148914691236517205) + (bits .and .u64 p0 6148914691236517205))) 3689348814741910323))))) 1085102592571150095) / 2 ^ (8 : Int).toNat))) + ((IntKind.wrap .u64 ((bits .and .u64 (IntKind.wrap .u64 (((IntKind.wrap .u64 ((bits .and .u64 ((IntKind.wrap .u64 ((bits .and .u64 (p0 / 2 ^ (1 : Int).toNat) 6148914691236517205) + (bits .and .u64 p0 6148914691236517205))) / 2 ^ (2 : Int).toNat) 3689348814741910323) + (bits .and .u64 (IntKind.wrap .u64 ((bits .and .u64 (p0 / 2 ^ (1 : Int).toNat) 6148914691236517205) + (bits .and .u64 p0 6148914691236517205))) 3689348814741910323))) / 2 ^ (4 : Int).toNat) + (IntKind.wrap .u64 ((bits .and .u64 ((IntKind.wrap .u64 ((bits .and .u64 (p0 / 2 ^ (1 : Int).toNat) 6148914691236517205) + (bits .and .u64 p0 6148914691236517205))) / 2 ^ (2 : Int).toNat) 3689348814741910323) + (bits .and .u64 (IntKind.wrap .u64 ((bits .and .u64 (p0 / 2 ^ (1 : Int).toNat) 6148914691236517205) + (bits .and .u64 p0 6148914691236517205))) 3689348814741910323))))) 1085102592571150095) + ((bits .and .u64 (IntKind.wrap .u64 (((IntKind.wrap .u64 ((bits .and .u64 ((IntKind.wrap .u64 ((bits .and .u64 (p0 / 2 ^ (1 : Int).toNat) 6148914691236517205) + (bits .and .u64 p0 6148914691236517205))) / 2 ^ (2 : Int).toNat) 3689348814741910323) + (bits .and .u64 (IntKind.wrap .u64 ((bits .and .u64 (p0 / 2 ^ (1 : Int).toNat) 6148914691236517205) + (bits .and .u64 p0 6148914691236517205))) 3689348814741910323))) / 2 ^ (4 : Int).toNat) + (IntKind.wrap .u64 ((bits .and .u64 ((IntKind.wrap .u64 ((bits .and .u64 (p0 / 2 ^ (1 : Int).toNat) 6148914691236517205) + (bits .and .u64 p0 6148914691236517205))) / 2 ^ (2 : Int).toNat) 3689348814741910323) + (bits .and .u64 (IntKind.wrap .u64 ((bits .and .u64 (p0 / 2 ^ (1 : Int).toNat) 6148914691236517205) + (bits .and .u64 p0 6148914691236517205))) 3689348814741910323))))) 1085102592571150095) / 2 ^ (8 : Int).toNat))) / 2 ^ (16 : Int).toNat))) + ((IntKind.wrap .u64 ((IntKind.wrap .u64 ((bits .and .u64 (IntKind.wrap .u64 (((IntKind.wrap .u64 ((bits .and .u64 ((IntKind.wrap .u64 ((bits .and .u64 (p0 / 2 ^ (1 : Int).toNat) 6148914691236517205) + (bits .and .u64 p0 6148914691236517205))) / 2 ^ (2 : Int).toNat) 3689348814741910323) + (bits .and .u64 (IntKind.wrap .u64 ((bits .and .u64 (p0 / 2 ^ (1 : Int).toNat) 6148914691236517205) + (bits .and .u64 p0 6148914691236517205))) 3689348814741910323))) / 2 ^ (4 : Int).toNat) + (IntKind.wrap .u64 ((bits .and .u64 ((IntKind.wrap .u64 ((bits .and .u64 (p0 / 2 ^ (1 : Int).toNat) 6148914691236517205) + (bits .and .u64 p0 6148914691236517205))) / 2 ^ (2 : Int).toNat) 3689348814741910323) + (bits .and .u64 (IntKind.wrap .u64 ((bits .and .u64 (p0 / 2 ^ (1 : Int).toNat) 6148914691236517205) + (bits .and .u64 p0 6148914691236517205))) 3689348814741910323))))) 1085102592571150095) + ((bits .and .u64 (IntKind.wrap .u64 (((IntKind.wrap .u64 ((bits .and .u64 ((IntKind.wrap .u64 ((bits .and .u64 (p0 / 2 ^ (1 : Int).toNat) 6148914691236517205) + (bits .and .u64 p0 6148914691236517205))) / 2 ^ (2 : Int).toNat) 3689348814741910323) + (bits .and .u64 (IntKind.wrap .u64 ((bits .and .u64 (p0 / 2 ^ (1 : Int).toNat) 6148914691236517205) + (bits .and .u64 p0 6148914691236517205))) 3689348814741910323))) / 2 ^ (4 : Int).toNat) + (IntKind.wrap .u64 ((bits .and .u64 ((IntKind.wrap .u64 ((bits .and .u64 (p0 / 2 ^ (1 : Int).toNat) 6148914691236517205) + (bits .and .u64 p0 6148914691236517205))) / 2 ^ (2 : Int).toNat) 3689348814741910323) + (bits .and .u64 (IntKind.wrap .u64 ((bits .and .u64 (p0 / 2 ^ (1 : Int).toNat) 6148914691236517205) + (bits .and .u64 p0 6148914691236517205))) 3689348814741910323))))) 1085102592571150095) / 2 ^ (8 : Int).toNat))) + ((IntKind.wrap .u64 ((bits .and .u64 (IntKind.wrap .u64 (((IntKind.wrap .u64 ((bits .and .u64 ((IntKind.wrap .u64 ((bits .and .u64 (p0 / 2 ^ (1 : Int).toNat) 6148914691236517205) + (bits .and .u64 p0 6148914691236517205))) / 2 ^ (2 : Int).toNat) 3689348814741910323) + (bits .and .u64 (IntKind.wrap .u64 ((bits .and .u64 (p0 / 2 ^ (1 : Int).toNat) 6148914691236517205) + (bits .and .u64 p0 6148914691236517205))) 3689348814741910323))) / 2 ^ (4 : Int).toNat) + (IntKind.wrap .u64 ((bits .and .u64 ((IntKind.wrap .u64 ((bits .and .u64 (p0 / 2 ^ (1 : Int).toNat) 6148914691236517205) + (bits .and .u64 p0 6148914691236517205))) / 2 ^ (2 : Int).toNat) 3689348814741910323) + (bits .and .u64 (IntKind.wrap .u64 ((bits .and .u64 (p0 / 2 ^ (1 : Int).toNat) 6148914691236517205) + (bits .and .u64 p0 6148914691236517205))) 3689348814741910323))))) 1085102592571150095) + ((bits .and .u64 (IntKind.wrap .u64 (((IntKind.wrap .u64 ((bits .and .u64 ((IntKind.wrap .u64 ((bits .and .u64 (p0 / 2 ^ (1 : Int).toNat) 6148914691236517205) + (bits .and .u64 p0 6148914691236517205))) / 2 ^ (2 : Int).toNat) 3689348814741910323) + (bits .and .u64 (IntKind.wrap .u64 ((bits .and .u64 (p0 / 2 ^ (1 : Int).toNat) 6148914691236517205) + (bits .and .u64 p0 6148914691236517205))) 3689348814741910323))) / 2 ^ (4 : Int).toNat) + (IntKind.wrap .u64 ((bits .and .u64 ((IntKind.wrap .u64 ((bits .and .u64 (p0 / 2 ^ (1 : Int).toNat) 6148914691236517205) + (bits .and .u64 p0 6148914691236517205))) / 2 ^ (2 : Int).toNat) 3689348814741910323) + (bits .and .u64 (IntKind.wrap .u64 ((bits .and .u64 (p0 / 2 ^ (1 : Int).toNat) 6148914691236517205) + (bits .and .u64 p0 6148914691236517205))) 3689348814741910323))))) 1085102592571150095) / 2 ^ (8 : Int).toNat))) / 2 ^ (16 : Int).toNat))) / 2 ^ (32 : Int).toNat)))) (some ((bits .and .i64 ((IntKind.wrap .u64 ((IntKind.wrap .u64 ((IntKind.wrap .u64 ((bits .and .u64 (IntKind.wrap .u64 (((IntKind.wrap .u64 ((bits .and .u64 ((IntKind.wrap .u64 ((bits .and .u64 (p0 / 2 ^ (1 : Int).toNat) 6148914691236517205) + (bits .and .u64 p0 6148914691236517205))) / 2 ^ (2 : Int).toNat) 3689348814741910323) + (bits .and .u64 (IntKind.wrap .u64 ((bits .and .u64 (p0 / 2 ^ (1 : Int).toNat) 6148914691236517205) + (bits .and .u64 p0 6148914691236517205))) 3689348814741910323))) / 2 ^ (4 : Int).toNat) + (IntKind.wrap .u64 ((bits .and .u64 ((IntKind.wrap .u64 ((bits .and .u64 (p0 / 2 ^ (1 : Int).toNat) 6148914691236517205) + (bits .and .u64 p0 6148914691236517205))) / 2 ^ (2 : Int).toNat) 3689348814741910323) + (bits .and .u64 (IntKind.wrap .u64 ((bits .and .u64 (p0 / 2 ^ (1 : Int).toNat) 6148914691236517205) + (bits .and .u64 p0 6148914691236517205))) 3689348814741910323))))) 1085102592571150095) + ((bits .and .u64 (IntKind.wrap .u64 (((IntKind.wrap .u64 ((bits .and .u64 ((IntKind.wrap .u64 ((bits .and .u64 (p0 / 2 ^ (1 : Int).toNat) 6148914691236517205) + (bits .and .u64 p0 6148914691236517205))) / 2 ^ (2 : Int).toNat) 3689348814741910323) + (bits .and .u64 (IntKind.wrap .u64 ((bits .and .u64 (p0 / 2 ^ (1 : Int).toNat) 6148914691236517205) + (bits .and .u64 p0 6148914691236517205))) 3689348814741910323))) / 2 ^ (4 : Int).toNat) + (IntKind.wrap .u64 ((bits .and .u64 ((IntKind.wrap .u64 ((bits .and .u64 (p0 / 2 ^ (1 : Int).toNat) 6148914691236517205) + (bits .and .u64 p0 6148914691236517205))) / 2 ^ (2 : Int).toNat) 3689348814741910323) + (bits .and .u64 (IntKind.wrap .u64 ((bits .and .u64 (p0 / 2 ^ (1 : Int).toNat) 6148914691236517205) + (bits .and .u64 p0 6148914691236517205))) 3689348814741910323))))) 1085102592571150095) / 2 ^ (8 : Int).toNat))) + ((IntKind.wrap .u64 ((bits .and .u64 (IntKind.wrap .u64 (((IntKind.wrap .u64 ((bits .and .u64 ((IntKind.wrap .u64 ((bits .and .u64 (p0 / 2 ^ (1 : Int).toNat) 6148914691236517205) + (bits .and .u64 p0 6148914691236517205))) / 2 ^ (2 : Int).toNat) 3689348814741910323) + (bits .and .u64 (IntKind.wrap .u64 ((bits .and .u64 (p0 / 2 ^ (1 : Int).toNat) 6148914691236517205) + (bits .and .u64 p0 6148914691236517205))) 3689348814741910323))) / 2 ^ (4 : Int).toNat) + (IntKind.wrap .u64 ((bits .and .u64 ((IntKind.wrap .u64 ((bits .and .u64 (p0 / 2 ^ (1 : Int).toNat) 6148914691236517205) + (bits .and .u64 p0 6148914691236517205))) / 2 ^ (2 : Int).toNat) 3689348814741910323) + (bits .and .u64 (IntKind.wrap .u64 ((bits .and .u64 (p0 / 2 ^ (1 : Int).toNat) 6148914691236517205) + (bits .and .u64 p0 6148914691236517205))) 3689348814741910323))))) 1085102592571150095) + ((bits .and .u64 (IntKind.wrap .u64 (((IntKind.wrap .u64 ((bits .and .u64 ((IntKind.wrap .u64 ((bits .and .u64 (p0 / 2 ^ (1 : Int).toNat) 6148914691236517205) + (bits .and .u64 p0 6148914691236517205))) / 2 ^ (2 : Int).toNat) 3689348814741910323) + (bits .and .u64 (IntKind.wrap .u64 ((bits .and .u64 (p0 / 2 ^ (1 : Int).toNat) 6148914691236517205) + (bits .and .u64 p0 6148914691236517205))) 3689348814741910323))) / 2 ^ (4 : Int).toNat) + (IntKind.wrap .u64 ((bits .and .u64 ((IntKind.wrap .u64 ((bits .and .u64 (p0 / 2 ^ (1 : Int).toNat) 6148914691236517205) + (bits .and .u64 p0 6148914691236517205))) / 2 ^ (2 : Int).toNat) 3689348814741910323) + (bits .and .u64 (IntKind.wrap .u64 ((bits .and .u64 (p0 / 2 ^ (1 : Int).toNat) 6148914691236517205) + (bits .and .u64 p0 6148914691236517205))) 3689348814741910323))))) 1085102592571150095) / 2 ^ (8 : Int).toNat))) / 2 ^ (16 : Int).toNat))) + ((IntKind.wrap .u64 ((IntKind.wrap .u64 ((bits .and .u64 (IntKind.wrap .u64 (((IntKind.wrap .u64 ((bits .and .u64 ((IntKind.wrap .u64 ((bits .and .u64 (p0 / 2 ^ (1 : Int).toNat) 6148914691236517205) + (bits .and .u64 p0 6148914691236517205))) / 2 ^ (2 : Int).toNat) 3689348814741910323) + (bits .and .u64 (IntKind.wrap .u64 ((bits .and .u64 (p0 / 2 ^ (1 : Int).toNat) 6148914691236517205) + (bits .and .u64 p0 6148914691236517205))) 3689348814741910323))) / 2 ^ (4 : Int).toNat) + (IntKind.wrap .u64 ((bits .and .u64 ((IntKind.wrap .u64 ((bits .and .u64 (p0 / 2 ^ (1 : Int).toNat) 6148914691236517205) + (bits .and .u64 p0 6148914691236517205))) / 2 ^ (2 : Int).toNat) 3689348814741910323) + (bits .and .u64 (IntKind.wrap .u64 ((bits .and .u64 (p0 / 2 ^ (1 : Int).toNat) 6148914691236517205) + (bits .and .u64 p0 6148914691236517205))) 3689348814741910323))))) 1085102592571150095) + ((bits .and .u64 (IntKind.wrap .u64 (((IntKind.wrap .u64 ((bits .and .u64 ((IntKind.wrap .u64 ((bits .and .u64 (p0 / 2 ^ (1 : Int).toNat) 6148914691236517205) + (bits .and .u64 p0 6148914691236517205))) / 2 ^ (2 : Int).toNat) 3689348814741910323) + (bits .and .u64 (IntKind.wrap .u64 ((bits .and .u64 (p0 / 2 ^ (1 : Int).toNat) 6148914691236517205) + (bits .and .u64 p0 6148914691236517205))) 3689348814741910323))) / 2 ^ (4 : Int).toNat) + (IntKind.wrap .u64 ((bits .and .u64 ((IntKind.wrap .u64 ((bits .and .u64 (p0 / 2 ^ (1 : Int).toNat) 6148914691236517205) + (bits .and .u64 p0 6148914691236517205))) / 2 ^ (2 : Int).toNat) 3689348814741910323) + (bits .and .u64 (IntKind.wrap .u64 ((bits .and .u64 (p0 / 2 ^ (1 : Int).toNat) 6148914691236517205) + (bits .and .u64 p0 6148914691236517205))) 3689348814741910323))))) 1085102592571150095) / 2 ^ (8 : Int).toNat))) + ((IntKind.wrap .u64 ((bits .and .u64 (IntKind.wrap .u64 (((IntKind.wrap .u64 ((bits .and .u64 ((IntKind.wrap .u64 ((bits .and .u64 (p0 / 2 ^ (1 : Int).toNat) 6148914691236517205) + (bits .and .u64 p0 6148914691236517205))) / 2 ^ (2 : Int).toNat) 3689348814741910323) + (bits .and .u64 (IntKind.wrap .u64 ((bits .and .u64 (p0 / 2 ^ (1 : Int).toNat) 6148914691236517205) + (bits .and .u64 p0 6148914691236517205))) 3689348814741910323))) / 2 ^ (4 : Int).toNat) + (IntKind.wrap .u64 ((bits .and .u64 ((IntKind.wrap .u64 ((bits .and .u64 (p0 / 2 ^ (1 : Int).toNat) 6148914691236517205) + (bits .and .u64 p0 6148914691236517205))) / 2 ^ (2 : Int).toNat) 3689348814741910323) + (bits .and .u64 (IntKind.wrap .u64 ((bits .and .u64 (p0 / 2 ^ (1 : Int).toNat) 6148914691236517205) + (bits .and .u64 p0 6148914691236517205))) 3689348814741910323))))) 1085102592571150095) + ((bits .and .u64 (IntKind.wrap .u64 (((IntKind.wrap .u64 ((bits .and .u64 ((IntKind.wrap .u64 ((bits .and .u64 (p0 / 2 ^ (1 : Int).toNat) 6148914691236517205) + (bits .and .u64 p0 6148914691236517205))) / 2 ^ (2 : Int).toNat) 3689348814741910323) + (bits .and .u64 (IntKind.wrap .u64 ((bits .and .u64 (p0 / 2 ^ (1 : Int).toNat) 6148914691236517205) + (bits .and .u64 p0 6148914691236517205))) 3689348814741910323))) / 2 ^ (4 : Int).toNat) + (IntKind.wrap .u64 ((bits .and .u64 ((IntKind.wrap .u64 ((bits .and .u64 (p0 / 2 ^ (1 : Int).toNat) 6148914691236517205) + (bits .and .u64 p0 6148914691236517205))) / 2 ^ (2 : Int).toNat) 3689348814741910323) + (bits .and .u64 (IntKind.wrap .u64 ((bits .and .u64 (p0 / 2 ^ (1 : Int).toNat) 6148914691236517205) + (bits .and .u64 p0 6148914691236517205))) 3689348814741910323))))) 1085102592571150095) / 2 ^ (8 : Int).toNat))) / 2 ^ (16 : Int).toNat))) / 2 ^ (32 : Int).toNat)))) 127)))
theorem c_bits_OnesCount64 (N : Nat) (p0 : Int) (r : Int) (h : F_bits_OnesCount64 N p0 = some r) : ACall Tryd.prog 149 [.D (.I .u64 p0)] [] (.D (.I .i64 r)) [] [] := by
  refine ACall.of_bodyW [] (fn := Tryd.f149) (rc := f149c) (rs := f149r) Tryd.func149 rfl rfl (by kernel_rfl) (by kernel_rfl) (by kernel_rfl) (by rw [Tryd.ntmps149]; simp) ?_
  unfold F_bits_OnesCount64 at h
  unfold f149c f149r
  rw [entry_eq _ _]
  obtain ⟨h742, h⟩ := F_ck h
  try simp (disch := first | assumption | (simp; done) | omega | (simp; omega)) only [push_cast, seval] at h742
  obtain rfl := Option.some.inj h
  simp (disch := first | assumption | (simp; done) | omega | (simp; omega)) only [push_cast, seval, h742]
  refine e_ret (.inr rfl) ?_
  simp (disch := first | assumption | (simp; done) | omega | (simp; omega)) only [push_cast, seval, aret, aresults, aresult, h742]
  refine ⟨_, rfl, ?_⟩
  first | (simp (disch := first | assumption | (simp; done) | omega | (simp; omega)) only [push_cast, seval, h742] <;> rfl) | rfl

def f123g0 : List RO := [o_ 2 (.mv (.const (.int .i64 0)))]
def f123g1 : List RO := [o_ 3 (.mv (t_ 0)), o_ 4 (.cvI .u32 (t_ 3)), o_ 5 (.call (.func 148) [(t_ 4)]), o_ 2 (.mv (t_ 5))]
def f123g2 : List RO := [o_ 6 (.mv (t_ 0)), o_ 7 (.call (.func 149) [(t_ 6)]), o_ 2 (.mv (t_ 7))]
def f123c : RCode := (.seq (.reg .false f123g0) (.seq (.cond (.const (.bool .false)) (.seq (.reg .false f123g1) .ret) .skip) (.seq (.reg .false f123g2) .ret)))
def f123r : List RRes := [(.tmp 2)]
attribute [push_cast] f123g0 f123g1 f123g2
def F_bits_OnesCount (N : Nat) (p0 : Int) : Option Int := bd? (F_bits_OnesCount64 N p0) fun v1 => some (v1)
theorem c_bits_OnesCount (N : Nat) (p0 : Int) (r : Int) (h : F_bits_OnesCount N p0 = some r) : ACall Tryd.prog 123 [.D (.I .u64 p0)] [] (.D (.I .i64 r)) [] [] := by
  refine ACall.of_bodyW [] (fn := Tryd.f123) (rc := f123c) (rs := f123r) Tryd.func123 rfl rfl (by kernel_rfl) (by kernel_rfl) (by kernel_rfl) (by rw [Tryd.ntmps123]; simp) ?_
  unfold F_bits_OnesCount at h
  unfold f123c f123r
  rw [entry_eq _ _]
  obtain ⟨v1, h744, h⟩ := F_bd h
  simp (disch := first | assumption | (simp; done) | omega | (simp; omega)) only [push_cast, seval]
  refine call_flat (by rfl) (c_bits_OnesCount64 N _ _ h744) ?_ rfl ?_
  · simp (disch := first | assumption | (simp; done) | omega | (simp; omega)) only [push_cast, seval] <;> rfl
  obtain rfl := Option.some.inj h
  simp (disch := first | assumption | (simp; done) | omega | (simp; omega)) only [push_cast, seval]
  refine e_ret (.inr rfl) ?_
  simp (disch := first | assumption | (simp; done) | omega | (simp; omega)) only [push_cast, seval, aret, aresults, aresult]
  refine ⟨_, rfl, ?_⟩
  first | (simp (disch := first | assumption | (simp; done) | omega | (simp; omega)) only [push_cast, seval] <;> rfl) | rfl

def f82g0 : List RO := [o_ 1 (.box (t_ 0)), o_ 2 (.mv (.const (.bool .false)))]
def f82g1 : List RO := [o_ 3 (.faddr 0 (t_ 1)), o_ 4 (.load .none (t_ 3)), o_ 5 (.bin .geq (t_ 4) (.const (.int .i64 0))), o_ 6 (.mv (t_ 5)), ⟨(.some 7), (.faddr 0 (t_ 1)), (.some (6, .true))⟩, ⟨(.some 8), (.load .none (t_ 7)), (.some (6, .true))⟩, ⟨(.some 9), (.bin .leq (t_ 8) (.const (.int .i64 1099511627776))), (.some (6, .true))⟩, o_ 10 (.pick (t_ 6) (t_ 9) (.const (.bool .false))), o_ 11 (.mv (t_ 10)), ⟨(.some 12), (.faddr 1 (t_ 1)), (.some (11, .true))⟩, ⟨(.some 13), (.load .none (t_ 12)), (.some (11, .true))⟩, ⟨(.some 14), (.len .false (t_ 13)), (.some (11, .true))⟩, ⟨(.some 15), (.faddr 0 (t_ 1)), (.some (11, .true))⟩, ⟨(.some 16), (.load .none (t_ 15)), (.some (11, .true))⟩, ⟨(.some 17), (.cvI .u64 (t_ 16)), (.some (11, .true))⟩, ⟨(.some 18), (.call (.func 123) [(t_ 17)]), (.some (11, .true))⟩, ⟨(.some 19), (.bin .eql (t_ 14) (t_ 18)), (.some (11, .true))⟩, o_ 20 (.pick (t_ 11) (t_ 19) (.const (.bool .false))), o_ 2 (.mv (t_ 20))]
def f82c : RCode := (.seq (.reg .false f82g0) (.seq (.reg .true f82g1) .ret))
def f82r : List RRes := [(.tmp 2)]
attribute [push_cast] f82g0 f82g1
def F_merkle_isFormed (N : Nat) (p0 : Peaks) : Option Bool := if? (decide (p0.Size ≥ 0)) (if? (decide (p0.Size ≤ 1099511627776)) (bd? (F_bits_OnesCount N (IntKind.wrap .u64 (p0.Size))) fun v1 => some (((p0.Tops.length : Int) == v1))) (some (false))) (some (false))
theorem c_merkle_isFormed (N : Nat) (p0 : Peaks) (r : Bool) (h : F_merkle_isFormed N p0 = some r) : ACall Tryd.prog 82 [.agg [.D (.I .i64 p0.Size), .D (.L (p0.Tops.map (rA .u8)))]] [] (.D (.B r)) [] [] := by
  refine ACall.of_bodyW [] (fn := Tryd.f82) (rc := f82c) (rs := f82r) Tryd.func82 rfl rfl (by kernel_rfl) (by kernel_rfl) (by kernel_rfl) (by rw [Tryd.ntmps82]; simp) ?_
  unfold F_merkle_isFormed at h
  unfold f82c f82r
  rw [entry_eq _ _]
  rcases F_if h with ⟨h748, h⟩ | ⟨h748, h⟩
  rotate_left
  · obtain rfl := Option.some.inj h
    simp (disch := first | assumption | (simp; done) | omega | (simp; omega)) only [push_cast, seval, h748]
    refine e_ret (.inr rfl) ?_
    simp (disch := first | assumption | (simp; done) | omega | (simp; omega)) only [push_cast, seval, aret, aresults, aresult, h748]
    refine ⟨_, rfl, ?_⟩
    first | (simp (disch := first | assumption | (simp; done) | omega | (simp; omega)) only [push_cast, seval, h748] <;> rfl) | rfl
  rcases F_if h with ⟨h749, h⟩ | ⟨h749, h⟩
  rotate_left
  · obtain rfl := Option.some.inj h
    simp (disch := first | assumption | (simp; done) | omega | (simp; omega)) only [push_cast, seval, h748, h749]
    refine e_ret (.inr rfl) ?_
    simp (disch := first | assumption | (simp; done) | omega | (simp; omega)) only [push_cast, seval, aret, aresults, aresult, h748, h749]
    refine ⟨_, rfl, ?_⟩
    first | (simp (disch := first | assumption | (simp; done) | omega | (simp; omega)) only [push_cast, seval, h748, h749] <;> rfl) | rfl
  obtain ⟨v1, h750, h⟩ := F_bd h
  simp (disch := first | assumption | (simp; done) | omega | (simp; omega)) only [push_cast, seval, h748, h749]
  refine call_flat (by rfl) (c_bits_OnesCount N _ _ h750) ?_ rfl ?_
  · simp (disch := first | assumption | (simp; done) | omega | (simp; omega)) only [push_cast, seval, h748, h749] <;> rfl
  obtain rfl := Option.some.inj h
  simp (disch := first | assumption | (simp; done) | omega | (simp; omega)) only [push_cast, seval, h748, h749]
  refine e_ret (.inr rfl) ?_
  simp (disch := first | assumption | (simp; done) | omega | (simp; omega)) only [push_cast, seval, aret, aresults, aresult, h748, h749]
  refine ⟨_, rfl, ?_⟩
  first | (simp (disch := first | assumption | (simp; done) | omega | (simp; omega)) only [push_cast, seval, h748, h749] <;> rfl) | rfl

def f125g0 : List RO := [o_ 2 (.mv (.const (.int .i64 0)))]
def f125g1 : List RO := [o_ 3 (.mv (t_ 0)), o_ 4 (.bin .eql (t_ 3) (.const (.int .u64 0)))]
def f125g2 : List RO := [o_ 2 (.mv (.const (.int .i64 64)))]
def f125g3 : List RO := [o_ 5 (.mv (t_ 0)), o_ 6 (.mv (t_ 0)), o_ 7 (.un .neg (t_ 6)), o_ 8 (.bin .and (t_ 5) (t_ 7)), o_ 9 (.bin .mul (t_ 8) (.const (.int .u64 285870213051353865))), o_ 10 (.bin .shr (t_ 9) (.const (.int .u64 58))), o_ 11 (.iaddrA 64 1 (.global 1) (t_ 10)), o_ 12 (.load .none (t_ 11)), o_ 13 (.cvI .i64 (t_ 12)), o_ 2 (.mv (t_ 13))]
def f125c : RCode := (.seq (.reg .false f125g0) (.seq (.seq (.reg .false f125g1) (.cond (t_ 4) (.seq (.reg .false f125g2) .ret) .skip)) (.seq (.reg .false f125g3) .ret)))
def f125r : List RRes := [(.tmp 2)]
attribute [push_cast] f125g0 f125g1 f125g2 f125g3
def F_bits_TrailingZeros64 (N : Nat) (p0 : Int) : Option Int := if? ((p0 == 0)) (some (64)) (gd? (0 ≤ ((IntKind.wrap .u64 ((bits .and .u64 p0 (IntKind.wrap .u64 (-p0))) * 285870213051353865)) / 2 ^ (58 : Int).toNat)) (gd? (((IntKind.wrap .u64 ((bits .and .u64 p0 (IntKind.wrap .u64 (-p0))) * 285870213051353865)) / 2 ^ (58 : Int).toNat) < 64) (get? gA1.l (((IntKind.wrap .u64 ((bits .and .u64 p0 (IntKind.wrap .u64 (-p0))) * 285870213051353865)) / 2 ^ (58 : Int).toNat)) fun x1 => ck .i64 (x1) (some ((x1))))))
theorem c_bits_TrailingZeros64 (N : Nat) (p0 : Int) (r : Int) (h : F_bits_TrailingZeros64 N p0 = some r) : ACall Tryd.prog 125 [.D (.I .u64 p0)] [] (.D (.I .i64 r)) [] [] := by
  refine ACall.of_bodyW [] (fn := Tryd.f125) (rc := f125c) (rs := f125r) Tryd.func125 rfl rfl (by kernel_rfl) (by kernel_rfl) (by kernel_rfl) (by rw [Tryd.ntmps125]; simp) ?_
  unfold F_bits_TrailingZeros64 at h
  unfold f125c f125r
  rw [entry_eq _ _]
  rcases F_if h with ⟨h759, h⟩ | ⟨h759, h⟩
  · obtain rfl := Option.some.inj h
    simp (disch := first | assumption | (simp; done) | omega | (simp; omega)) only [push_cast, seval, h759]
    refine e_ret (.inr rfl) ?_
    simp (disch := first | assumption | (simp; done) | omega | (simp; omega)) only [push_cast, seval, aret, aresults, aresult, h759]
    refine ⟨_, rfl, ?_⟩
    first | (simp (disch := first | assumption | (simp; done) | omega | (simp; omega)) only [push_cast, seval, h759] <;> rfl) | rfl
  obtain ⟨h760, h⟩ := F_gd h
  try simp (disch := first | assumption | (simp; done) | omega | (simp; omega)) only [push_cast, seval] at h760
  obtain ⟨h761, h⟩ := F_gd h
  try simp (disch := first | assumption | (simp; done) | omega | (simp; omega)) only [push_cast, seval] at h761
  obtain ⟨x1, h762, h763, h⟩ := F_get h
  have h765 := get_lt h762 h763
  have h764 := map_getG (DV.I .u8) h763
  try simp (disch := first | assumption | (simp; done) | omega | (simp; omega)) only [push_cast, seval] at h764
  try simp (disch := first | assumption | (simp; done) | omega | (simp; omega)) only [push_cast, seval] at h762
  try simp (disch := first | assumption | (simp; done) | omega | (simp; omega)) only [push_cast, seval] at h765
  obtain ⟨h766, h⟩ := F_ck h
  try simp (disch := first | assumption | (simp; done) | omega | (simp; omega)) only [push_cast, seval] at h766
  obtain rfl := Option.some.inj h
  simp (disch := first | assumption | (simp; done) | omega | (simp; omega)) only [push_cast, seval, h759, h760, h761, h762, h764, h765, h766]
  refine e_ret (.inr rfl) ?_
  simp (disch := first | assumption | (simp; done) | omega | (simp; omega)) only [push_cast, seval, aret, aresults, aresult, h759, h760, h761, h762, h764, h765, h766]
  refine ⟨_, rfl, ?_⟩
  first | (simp (disch := first | assumption | (simp; done) | omega | (simp; omega)) only [push_cast, seval, h759, h760, h761, h762, h764, h765, h766] <;> rfl) | rfl

def f83g0 : List RO := [o_ 2 (.mv (.const (.int .i64 0)))]
def f83g1 : List RO := [o_ 3 (.mv (t_ 0)), o_ 4 (.cvI .u32 (t_ 3)), o_ 5 (.call (.func 124) [(t_ 4)]), o_ 2 (.mv (t_ 5))]
def f83g2 : List RO := [o_ 6 (.mv (t_ 0)), o_ 7 (.call (.func 125) [(t_ 6)]), o_ 2 (.mv (t_ 7))]
def f83c : RCode := (.seq (.reg .false f83g0) (.seq (.cond (.const (.bool .false)) (.seq (.reg .false f83g1) .ret) .skip) (.seq (.reg .false f83g2) .ret)))
def f83r : List RRes := [(.tmp 2)]
attribute [push_cast] f83g0 f83g1 f83g2
def F_bits_TrailingZeros (N : Nat) (p0 : Int) : Option Int := bd? (F_bits_TrailingZeros64 N p0) fun v1 => some (v1)
theorem c_bits_TrailingZeros (N : Nat) (p0 : Int) (r : Int) (h : F_bits_TrailingZeros N p0 = some r) : ACall Tryd.prog 83 [.D (.I .u64 p0)] [] (.D (.I .i64 r)) [] [] := by
  refine ACall.of_bodyW [] (fn := Tryd.f83) (rc := f83c) (rs := f83r) Tryd.func83 rfl rfl (by kernel_rfl) (by kernel_rfl) (by kernel_rfl) (by rw [Tryd.ntmps83]; simp) ?_
  unfold F_bits_TrailingZeros at h
  unfold f83c f83r
  rw [entry_eq _ _]
  obtain ⟨v1, h768, h⟩ := F_bd h
  simp (disch := first | assumption | (simp; done) | omega | (simp; omega)) only [push_cast, seval]
  refine call_flat (by rfl) (c_bits_TrailingZeros64 N _ _ h768) ?_ rfl ?_
  · simp (disch := first | assumption | (simp; done) | omega | (simp; omega)) only [push_cast, seval] <;> rfl
  obtain rfl := Option.some.inj h
  simp (disch := first | assumption | (simp; done) | omega | (simp; omega)) only [push_cast, seval]
  refine e_ret (.inr rfl) ?_
  simp (disch := first | assumption | (simp; done) | omega | (simp; omega)) only [push_cast, seval, aret, aresults, aresult]
  refine ⟨_, rfl, ?_⟩
  first | (simp (disch := first | assumption | (simp; done) | omega | (simp; omega)) only [push_cast, seval] <;> rfl) | rfl

def f84g0 : List RO := [o_ 1 (.box (t_ 0)), o_ 2 (.mv (.const .nilFunc))]
def f84g1 : List RO := [o_ 3 (.mkf 126 [(t_ 1)]), o_ 2 (.mv (t_ 3))]
def f84c : RCode := (.seq (.reg .false f84g0) (.seq (.reg .false f84g1) .ret))
def f84r : List RRes := [(.tmp 2)]
attribute [push_cast] f84g0 f84g1
def F_slices_Backward_Digest_Digest (N : Nat) (p0 : (List (Arr 16))) : Option (List (Arr 16)) := some (p0)
theorem c_slices_Backward_Digest_Digest (N : Nat) (p0 : (List (Arr 16))) (r : (List (Arr 16))) (h : F_slices_Backward_Digest_Digest N p0 = some r) : ACall Tryd.prog 84 [.D (.L (p0.map (rA .u8)))] [] (.clo 126 [.ptr (.O 0) 0]) [] [.box ([.D (.L (r.map (rA .u8)))])] := by
  refine ACall.of_bodyW [] (fn := Tryd.f84) (rc := f84c) (rs := f84r) Tryd.func84 rfl rfl (by kernel_rfl) (by kernel_rfl) (by kernel_rfl) (by rw [Tryd.ntmps84]; simp) ?_
  unfold F_slices_Backward_Digest_Digest at h
  unfold f84c f84r
  rw [entry_eq _ _]
  obtain rfl := Option.some.inj h
  simp (disch := first | assumption | (simp; done) | omega | (simp; omega)) only [push_cast, seval]
  refine AEndW.of [0] (.inr rfl) (by decide) rfl ?_ rfl ?_
  · simp (disch := first | assumption | (simp; done) | omega | (simp; omega)) only [push_cast, seval] <;> rfl
  · simp (disch := first | assumption | (simp; done) | omega | (simp; omega)) only [push_cast, seval] <;> rfl

def f85g0 : List RO := [o_ 2 (.mv (.const (.slice .none 0 0)))]
def f85g1 : List RO := [o_ 3 (.mv (t_ 0)), o_ 4 (.isnil .false (t_ 3))]
def f85g2 : List RO := [o_ 2 (.mv (.const (.slice .none 0 0)))]
def f85g3 : List RO := [o_ 5 (.bslice 16 []), o_ 6 (.mv (t_ 0)), o_ 7 (.app 16 16 (t_ 5) (t_ 6)), o_ 2 (.mv (t_ 7))]
def f85c : RCode := (.seq (.reg .false f85g0) (.seq (.seq (.reg .false f85g1) (.cond (t_ 4) (.seq (.reg .false f85g2) .ret) .skip)) (.seq (.reg .false f85g3) .ret)))
def f85r : List RRes := [(.tmp 2)]
attribute [push_cast] f85g0 f85g1 f85g2 f85g3
def F_slices_Clone_Digest_Digest (N : Nat) (p0 : (List (Arr 16))) : Option (List (Arr 16)) := if? p0.isEmpty (some ([])) (gd? (p0.length * 16 ≤ 140737488355328) (some (p0)))
theorem c_slices_Clone_Digest_Digest (N : Nat) (p0 : (List (Arr 16))) (r : (List (Arr 16))) (h : F_slices_Clone_Digest_Digest N p0 = some r) : ACall Tryd.prog 85 [.D (.L (p0.map (rA .u8)))] [] (.sl (.O 0) 16 0 r.length) [] [.row true 16 (r.map (rA .u8))] := by
  refine ACall.of_bodyW [] (fn := Tryd.f85) (rc := f85c) (rs := f85r) Tryd.func85 rfl rfl (by kernel_rfl) (by kernel_rfl) (by kernel_rfl) (by rw [Tryd.ntmps85]; simp) ?_
  unfold F_slices_Clone_Digest_Digest at h
  unfold f85c f85r
  rw [entry_eq _ _]
  rcases F_if h with ⟨h774, h⟩ | ⟨h774, h⟩
  rotate_left
  · have h775 := isEmpty_no h774
    have h776 := map_no (rA .u8) h775
    try simp (disch := first | assumption | (simp; done) | omega | (simp; omega)) only [push_cast, seval] at h776
    have h777 := len_no h775
    obtain ⟨h778, h⟩ := F_gd h
    try simp (disch := first | assumption | (simp; done) | omega | (simp; omega)) only [push_cast, seval] at h778
    obtain rfl := Option.some.inj h
    simp (disch := first | assumption | (simp; done) | omega | (simp; omega)) only [push_cast, seval, h778]
    refine AEndW.of [0] (.inr rfl) (by decide) rfl ?_ rfl ?_
    · simp (disch := first | assumption | (simp; done) | omega | (simp; omega)) only [push_cast, seval, h778] <;> rfl
    · simp (disch := first | assumption | (simp; done) | omega | (simp; omega)) only [push_cast, seval, h778] <;> rfl
  have h775 := List.isEmpty_iff.1 h774
  simp (disch := first | assumption | (simp; done) | omega | (simp; omega)) only [push_cast, seval, h775]
  refine cd_ab ?_ ?_
  rotate_left
  · obtain rfl := Option.some.inj h
    simp (disch := first | assumption | (simp; done) | omega | (simp; omega)) only [push_cast, seval, h775]
    refine AEndW.of [0] (.inr rfl) (by decide) rfl ?_ rfl ?_
    · simp (disch := first | assumption | (simp; done) | omega | (simp; omega)) only [push_cast, seval, h775] <;> rfl
    · simp (disch := first | assumption | (simp; done) | omega | (simp; omega)) only [push_cast, seval, h775] <;> rfl
  obtain rfl := Option.some.inj h
  simp (disch := first | assumption | (simp; done) | omega | (simp; omega)) only [push_cast, seval, h775]
  refine end_own0 2 16 rfl ?_
  simp (disch := first | assumption | (simp; done) | omega | (simp; omega)) only [push_cast, seval, h775]
  refine AEndW.of [0] (.inr rfl) (by decide) rfl ?_ rfl ?_
  · simp (disch := first | assumption | (simp; done) | omega | (simp; omega)) only [push_cast, seval, h775] <;> rfl
  · simp (disch := first | assumption | (simp; done) | omega | (simp; omega)) only [push_cast, seval, h775] <;> rfl

def f31g0 : List RO := [o_ 2 (.box (t_ 0)), o_ 3 (.boxR (t_ 1)), o_ 4 (.new [(.D (.I .i64 0)), (.fl [])]), o_ 5 (.mv (.const (.int .i64 0)))]
def f31g1 : List RO := [o_ 10 (.load (.some 2) (t_ 2)), o_ 11 (.call (.func 82) [(t_ 10)]), o_ 12 (.un .not (t_ 11)), o_ 9 (.mv (t_ 12))]
def f31g2 : List RO := [o_ 13 (.build [(.D (.I .i64 0)), (.fl [])] []), n_ (.store 2 (t_ 4) (t_ 13)), o_ 5 (.mv (.const (.int .i64 1)))]
def f31g3 : List RO := [o_ 15 (.faddr 0 (t_ 2)), o_ 16 (.load .none (t_ 15)), o_ 17 (.bin .eql (t_ 16) (.const (.int .i64 1099511627776))), o_ 14 (.mv (t_ 17))]
def f31g4 : List RO := [o_ 18 (.build [(.D (.I .i64 0)), (.fl [])] []), n_ (.store 2 (t_ 4) (t_ 18)), o_ 5 (.mv (.const (.int .i64 2)))]
def f31g5 : List RO := [o_ 19 (.faddr 1 (t_ 2)), o_ 20 (.load .none (t_ 19)), o_ 21 (.len .false (t_ 20)), o_ 22 (.faddr 0 (t_ 2)), o_ 23 (.load .none (t_ 22)), o_ 24 (.cvI .u64 (t_ 23)), o_ 25 (.un .xor (t_ 24)), o_ 26 (.call (.func 83) [(t_ 25)]), o_ 27 (.bin .sub (t_ 21) (t_ 26)), o_ 6 (.mv (t_ 27))]
def f31g6 : List RO := [o_ 28 (.faddr 1 (t_ 2)), o_ 29 (.load .none (t_ 28)), o_ 30 (.mv (t_ 6)), o_ 31 (.sll 16 (t_ 29) (.some (t_ 30)) .none .none), o_ 32 (.call (.func 84) [(t_ 31)])]
def f31g8 : List RO := [o_ 8 (.newR ((Arr.zero 16).l.map (aI .u8))), n_ (.store 16 (t_ 8) (t_ 34))]
def f31g9 : List RO := [o_ 35 (.load (.some 16) (t_ 8)), o_ 36 (.load (.some 16) (t_ 3)), o_ 37 (.call (.func 22) [(t_ 35), (t_ 36)]), n_ (.store 16 (t_ 3) (t_ 37))]
def f31k7a : RCode := (.reg .false f31g8)
def f31k7b : RCode := (.block 2 (.reg .false f31g9))
def f31g10 : List RO := [o_ 38 (.faddrS 0 (t_ 2)), o_ 39 (.loadS .none (t_ 38)), o_ 40 (.bin .add (t_ 39) (.const (.int .i64 1))), o_ 41 (.faddr 1 (t_ 2)), o_ 42 (.load .none (t_ 41)), o_ 43 (.mv (t_ 6)), o_ 44 (.sll 16 (t_ 42) .none (.some (t_ 43)) .none), o_ 45 (.call (.func 85) [(t_ 44)]), o_ 46 (.load (.some 16) (t_ 3)), o_ 47 (.bslice 16 [(t_ 46)]), o_ 48 (.appE 16 16 (t_ 45) (t_ 47)), o_ 49 (.build [(.D (.I .i64 0)), (.fl [])] [(0, (1, (t_ 40))), (1, (1, (t_ 48)))]), n_ (.store 2 (t_ 4) (t_ 49)), o_ 5 (.mv (.const (.int .i64 0)))]
def f31c (f31k7 : Code) : RCode := (.seq (.reg .false f31g0) (.seq (.block 0 (.seq (.reg .false f31g1) (.cond (t_ 9) (.seq (.reg .false f31g2) .ret) (.seq (.reg .false f31g3) (.cond (t_ 14) (.seq (.reg .false f31g4) .ret) .skip))))) (.seq (.reg .true f31g5) (.seq (.seq (.reg .false f31g6) (.block 1 (.sem 50 f31k7))) (.seq (.regS f31g10) .ret)))))
def f31r : List RRes := [(.cell (.some 2) 4), (.tmp 5)]
attribute [push_cast] f31g0 f31g1 f31g2 f31g3 f31g4 f31g5 f31g6 f31g8 f31g9 f31g10
theorem f31k7a_ {P : Program} {Y : Yh} {Q : Exit → AState → Prop} {s : AState} : acode P Y f31k7a Q s = acode P Y (.reg .false f31g8) Q s := (rfl)
theorem f31k7b_ {P : Program} {Y : Yh} {Q : Exit → AState → Prop} {s : AState} : acode P Y f31k7b Q s = acode P Y (.block 2 (.reg .false f31g9)) Q s := (rfl)
attribute [push_cast] f31k7a_ f31k7b_
def f126yg0 : List RO := [o_ 4 (.load .none (t_ 1)), o_ 5 (.len .false (t_ 4)), o_ 6 (.bin .sub (t_ 5) (.const (.int .i64 1))), o_ 3 (.mv (t_ 6))]
def f126yg1 : List RO := [o_ 7 (.mv (t_ 3)), o_ 8 (.bin .geq (t_ 7) (.const (.int .i64 0)))]
def f126yg2 : List RO := [o_ 11 (.mv (t_ 0)), o_ 12 (.mv (t_ 3)), o_ 13 (.load .none (t_ 1)), o_ 14 (.mv (t_ 3)), o_ 15 (.iaddr 16 (t_ 13) (t_ 14)), o_ 16 (.load (.some 16) (t_ 15)), o_ 17 (.callE (t_ 11) [(t_ 12), (t_ 16)]), o_ 18 (.un .not (t_ 17))]
def f126yg3 : List RO := [o_ 9 (.mv (t_ 3)), o_ 10 (.bin .sub (t_ 9) (.const (.int .i64 1))), o_ 3 (.mv (t_ 10))]
def f126yb4 : RCode := (.seq (.seq (.regY f126yg1) (.cond (t_ 8) .skip (.exit 0))) (.seq (.block 1 (.seq (.regY f126yg2) (.cond (t_ 18) .ret .skip))) (.regY f126yg3)))
def f126yc : RCode := (.seq (.regY f126yg0) (.block 0 (.loop f126yb4)))
def f126yr : List RRes := []
attribute [push_cast] f126yg0 f126yg1 f126yg2 f126yg3
theorem f126yc_ {P : Program} {Y : Yh} {Q : Exit → AState → Prop} {s : AState} : acode P Y f126yc Q s = acode P Y (.seq (.regY f126yg0) (.block 0 (.loop f126yb4))) Q s := (rfl)
attribute [push_cast] f126yc_
def L_merkle_Append_0 (N : Nat) (p0 : Peaks) (v2 : Int) (v3 : (List (Arr 16))) : Nat → Int → (Arr 16) → Option (Peaks × Int)
  | 0, _, _ => none
  | m1+1, a4, a5 => if? (decide (a4 ≥ 0)) (get? v3 (a4) fun x6 => bd? (F_merkle_Node N x6 a5) fun v7 => ck .i64 (a4 - 1) (L_merkle_Append_0 N p0 v2 v3 m1 (a4 - 1) v7)) (ck .i64 (p0.Size + 1) (bd? (F_slices_Clone_Digest_Digest N (p0.Tops.take (((p0.Tops.length : Int) - v2).toNat - 0))) fun v8 => gd? ((v8.length + [a5].length) * 16 ≤ 140737488355328) (some ((Peaks.mk (p0.Size + 1) (v8 ++ [a5])), 0))))
def I_merkle_Append_0 (N : Nat) (p0 : Peaks) (v2 : Int) (v3 : (List (Arr 16))) (y1 : Nat) (r : (Peaks × Int)) (n : Nat) (s : AState) : Prop := ∃ (a4 : Int) (a5 : (Arr 16)), L_merkle_Append_0 N p0 v2 v3 n a4 a5 = some r ∧ s = ⟨envL [(0, .yld y1), (1, .ptr (.O 3) 0), (3, .D (.I .i64 a4)), (4, .D (.L (v3.map (rA .u8)))), (5, .D (.I .i64 (v3.length : Int))), (19, .gst none), (22, .ptr (.O 0) 0), (23, .eptr (.O 1) 1 0 0), (24, .ptr (.O 2) 0), (26, .D (.I .i64 ((p0.Tops.length : Int) - v2))), (52, .clo 126 [.ptr (.O 3) 0])], ownL [], ownL [some (.box ([.D (.I .i64 p0.Size), .D (.L (p0.Tops.map (rA .u8)))])), some (.row true 1 (a5.l.map (rI .u8))), some (.box ([.D (.I .i64 0), .D (.L [])])), some (.box ([.D (.L (v3.map (rA .u8)))]))], 4⟩
def F_merkle_Append (N : Nat) (p0 : Peaks) (p1 : (Arr 16)) : Option (Peaks × Int) := bd? (F_merkle_isFormed N p0) fun v1 => if? (v1) (if? ((p0.Size == 1099511627776)) (some ((Peaks.mk 0 []), 2)) (bd? (F_bits_TrailingZeros N (bits .xor .u64 18446744073709551615 (IntKind.wrap .u64 (p0.Size)))) fun v2 => ck .i64 ((p0.Tops.length : Int) - v2) (gd? (0 ≤ ((p0.Tops.length : Int) - v2)) (gd? (((p0.Tops.length : Int) - v2).toNat ≤ p0.Tops.length) (bd? (F_slices_Backward_Digest_Digest N ((p0.Tops.drop ((p0.Tops.length : Int) - v2).toNat).take (p0.Tops.length - ((p0.Tops.length : Int) - v2).toNat))) fun v3 => ck .i64 ((v3.length : Int) - 1) (L_merkle_Append_0 N p0 v2 v3 N ((v3.length : Int) - 1) p1)))))) (some ((Peaks.mk 0 []), 1))
theorem c_merkle_Append (N : Nat) (p0 : Peaks) (p1 : (Arr 16)) (r : (Peaks × Int)) (h : F_merkle_Append N p0 p1 = some r) : ACall Tryd.prog 31 [.agg [.D (.I .i64 p0.Size), .D (.L (p0.Tops.map (rA .u8)))], .agg (p1.l.map (aI .u8))] [] (.tup [.agg [.D (.I .i64 r.1.Size), .D (.L (r.1.Tops.map (rA .u8)))], .D (.I .i64 r.2)]) [] [] := by
  obtain ⟨f31k7, hf31k7⟩ : ∃ k, k = subC [1, 1, 1, 0, 1, 0] (Tryd.f31.body.getD .skip) := ⟨_, rfl⟩
  refine ACall.of_bodyW [38, 39, 48] (fn := Tryd.f31) (rc := (f31c f31k7)) (rs := f31r) Tryd.func31 rfl rfl (by kernel_rfl) (by subst hf31k7; kernel_rfl) (by kernel_rfl) (by rw [Tryd.ntmps31]; simp) ?_
  unfold F_merkle_Append at h
  unfold f31c f31r
  rw [entry_eq _ _]
  obtain ⟨v1, h798, h⟩ := F_bd h
  simp (disch := first | assumption | (simp; done) | omega | (simp; omega)) only [push_cast, seval]
  refine call_flat (by rfl) (c_merkle_isFormed N _ _ h798) ?_ rfl ?_
  · simp (disch := first | assumption | (simp; done) | omega | (simp; omega)) only [push_cast, seval] <;> rfl
  rcases F_if h with ⟨h799, h⟩ | ⟨h799, h⟩
  rotate_left
  · obtain rfl := Option.some.inj h
    simp (disch := first | assumption | (simp; done) | omega | (simp; omega)) only [push_cast, seval, h799]
    refine e_ret (.inr rfl) ?_
    simp (disch := first | assumption | (simp; done) | omega | (simp; omega)) only [push_cast, seval, aret, aresults, aresult, h799]
    refine ⟨_, rfl, ?_⟩
    first | (simp (disch := first | assumption | (simp; done) | omega | (simp; omega)) only [push_cast, seval, h799] <;> rfl) | rfl
  rcases F_if h with ⟨h800, h⟩ | ⟨h800, h⟩
  · obtain rfl := Option.some.inj h
    simp (disch := first | assumption | (simp; done) | omega | (simp; omega)) only [push_cast, seval, h799, h800]
    refine e_ret (.inr rfl) ?_
    simp (disch := first | assumption | (simp; done) | omega | (simp; omega)) only [push_cast, seval, aret, aresults, aresult, h799, h800]
    refine ⟨_, rfl, ?_⟩
    first | (simp (disch := first | assumption | (simp; done) | omega | (simp; omega)) only [push_cast, seval, h799, h800] <;> rfl) | rfl
  obtain ⟨v2, h801, h⟩ := F_bd h
  simp (disch := first | assumption | (simp; done) | omega | (simp; omega)) only [push_cast, seval, h799, h800]
  refine call_flat (by rfl) (c_bits_TrailingZeros N _ _ h801) ?_ rfl ?_
  · simp (disch := first | assumption | (simp; done) | omega | (simp; omega)) only [push_cast, seval, h799, h800] <;> rfl
  obtain ⟨h802, h⟩ := F_ck h
  try simp (disch := first | assumption | (simp; done) | omega | (simp; omega)) only [push_cast, seval] at h802
  obtain ⟨h803, h⟩ := F_gd h
  try simp (disch := first | assumption | (simp; done) | omega | (simp; omega)) only [push_cast, seval] at h803
  obtain ⟨h804, h⟩ := F_gd h
  try simp (disch := first | assumption | (simp; done) | omega | (simp; omega)) only [push_cast, seval] at h804
  obtain ⟨v3, h805, h⟩ := F_bd h
  simp (disch := first | assumption | (simp; done) | omega | (simp; omega)) only [push_cast, seval, h799, h800, h802, h803, h804]
  refine call_new (by rfl) (c_slices_Backward_Digest_Digest N _ _ h805) ?_ rfl ?_
  · simp (disch := first | assumption | (simp; done) | omega | (simp; omega)) only [push_cast, seval, h799, h800, h802, h803, h804] <;> rfl
  try simp (disch := first | assumption | (simp; done) | omega | (simp; omega)) only [push_cast, seval, h799, h800, h802, h803, h804]
  refine range_of [17, 1000000] [38, 39, 48] (c := f31k7) (g := (.tmp 32)) (ps := [33, 34]) (f := 126) (fn := Tryd.f126) (N2 := 19) (rc2 := f126yc) (rcA := f31k7a) (rcB := f31k7b) (caps := [.ptr (.O 3) 0]) (by subst hf31k7; kernel_rfl) Tryd.func126 rfl (by kernel_rfl) (by kernel_rfl) Tryd.ntmps126 (by kernel_rfl) (by subst hf31k7; kernel_rfl) (by subst hf31k7; kernel_rfl) (by kernel_rfl) (by decide) rfl (by rfl) (by decide) ?_
  intro y1
  obtain ⟨h806, h⟩ := F_ck h
  try simp (disch := first | assumption | (simp; done) | omega | (simp; omega)) only [push_cast, seval] at h806
  simp (disch := first | assumption | (simp; done) | omega | (simp; omega)) only [push_cast, seval, h799, h800, h802, h803, h804, h806]
  refine loop_of (I_merkle_Append_0 N p0 v2 v3 y1 _) N [0, 1, 3, 4, 5, 19, 22, 23, 24, 26, 52] [0, 1, 2, 3] (by decide) ⟨((v3.length : Int) - 1), p1, h, ?_⟩ ?_
  · rw [wk_mk]
    simp (disch := first | assumption | (simp; done) | omega | (simp; omega)) only [push_cast, seval, h799, h800, h802, h803, h804, h806] <;> rfl
  rintro n s ⟨a4, a5, h, rfl⟩
  rcases n with _ | m1
  · exact absurd h (by simp [L_merkle_Append_0])
  rw [L_merkle_Append_0] at h
  unfold f126yb4
  rcases F_if h with ⟨h807, h⟩ | ⟨h807, h⟩
  · obtain ⟨x6, h808, h809, h⟩ := F_get h
    have h811 := get_lt h808 h809
    have h810 := map_get (rA .u8) h809
    try simp (disch := first | assumption | (simp; done) | omega | (simp; omega)) only [push_cast, seval] at h810
    obtain ⟨v7, h812, h⟩ := F_bd h
    simp (disch := first | assumption | (simp; done) | omega | (simp; omega)) only [push_cast, seval, h799, h800, h802, h803, h804, h806, h807, h808, h810, h811]
    refine call_flat (by rfl) (c_merkle_Node N _ _ _ h812) ?_ (by simp [AV.flat, AV.flatL, flatL_aI, flatL_app, DV.flat]) ?_
    · simp (disch := first | assumption | (simp; done) | omega | (simp; omega)) only [push_cast, seval, h799, h800, h802, h803, h804, h806, h807, h808, h810, h811] <;> rfl
    obtain ⟨h813, h⟩ := F_ck h
    try simp (disch := first | assumption | (simp; done) | omega | (simp; omega)) only [push_cast, seval] at h813
    simp (disch := first | assumption | (simp; done) | omega | (simp; omega)) only [push_cast, seval, h799, h800, h802, h803, h804, h806, h807, h808, h810, h811, h813]
    refine lpK_of m1 [0, 1, 3, 4, 5, 19, 22, 23, 24, 26, 52] [0, 1, 2, 3] (by omega) (by decide) ⟨(a4 - 1), v7, (by first | exact h | simpa only [*] using h), ?_⟩
    rw [wk_mk]
    simp (disch := first | assumption | (simp; done) | omega | (simp; omega)) only [push_cast, seval, h799, h800, h802, h803, h804, h806, h807, h808, h810, h811, h813] <;> rfl
  simp (disch := first | assumption | (simp; done) | omega | (simp; omega)) only [push_cast, seval, h799, h800, h802, h803, h804, h806, h807]
  refine regS_of true [.O 0] (by rfl) ?_
  obtain ⟨h814, h⟩ := F_ck h
  try simp (disch := first | assumption | (simp; done) | omega | (simp; omega)) only [push_cast, seval] at h814
  obtain ⟨v8, h815, h⟩ := F_bd h
  simp (disch := first | assumption | (simp; done) | omega | (simp; omega)) only [push_cast, seval, h799, h800, h802, h803, h804, h806, h807, h814]
  refine call_new (by rfl) (c_slices_Clone_Digest_Digest N _ _ h815) ?_ rfl ?_
  · simp (disch := first | assumption | (simp; done) | omega | (simp; omega)) only [push_cast, seval, h799, h800, h802, h803, h804, h806, h807, h814] <;> rfl
  obtain ⟨h816, h⟩ := F_gd h
  try simp (disch := first | assumption | (simp; done) | omega | (simp; omega)) only [push_cast, seval] at h816
  obtain rfl := Option.some.inj h
  simp (disch := first | assumption | (simp; done) | omega | (simp; omega)) only [push_cast, seval, h799, h800, h802, h803, h804, h806, h807, h814, h816]
  refine e_ret (.inr rfl) ?_
  simp (disch := first | assumption | (simp; done) | omega | (simp; omega)) only [push_cast, seval, aret, aresults, aresult, h799, h800, h802, h803, h804, h806, h807, h814, h816]
  refine ⟨_, rfl, ?_⟩
  first | (simp (disch := first | assumption | (simp; done) | omega | (simp; omega)) only [push_cast, seval, h799, h800, h802, h803, h804, h806, h807, h814, h816] <;> rfl) | rfl

def f152g0 : List RO := [o_ 2 (.mv (.const (.slice .none 0 0)))]
def f152g1 : List RO := [o_ 5 (.mv (t_ 0)), o_ 6 (.cvI .u64 (t_ 5)), o_ 7 (.bin .mul (t_ 6) (.const (.int .u64 2))), o_ 3 (.mv (t_ 7))]
def f152g2 : List RO := [o_ 8 (.mv (t_ 0)), o_ 9 (.bin .lss (t_ 8) (.const (.int .i64 0)))]
def f152g3 : List RO := [o_ 10 (.mv (t_ 0)), o_ 11 (.bin .sub (.const (.int .i64 (-1))) (t_ 10)), o_ 12 (.cvI .u64 (t_ 11)), o_ 13 (.bin .mul (t_ 12) (.const (.int .u64 2))), o_ 14 (.bin .add (t_ 13) (.const (.int .u64 1))), o_ 3 (.mv (t_ 14))]
def f152g4 : List RO := [o_ 4 (.mv (.const (.slice .none 0 0)))]
def f152g5 : List RO := [o_ 15 (.mv (t_ 3)), o_ 16 (.bin .geq (t_ 15) (.const (.int .u64 128)))]
def f152g6 : List RO := [o_ 17 (.mv (t_ 4)), o_ 18 (.mv (t_ 3)), o_ 19 (.bin .rem (t_ 18) (.const (.int .u64 128))), o_ 20 (.cvI .u8 (t_ 19)), o_ 21 (.bin .add (t_ 20) (.const (.int .u8 128))), o_ 22 (.bslice 1 [(t_ 21)]), o_ 23 (.appE 1 1 (t_ 17) (t_ 22)), o_ 4 (.mv (t_ 23))]
def f152g7 : List RO := [o_ 24 (.mv (t_ 3)), o_ 25 (.bin .quo (t_ 24) (.const (.int .u64 128))), o_ 3 (.mv (t_ 25))]
def f152b8 : RCode := (.seq (.seq (.reg .false f152g5) (.cond (t_ 16) .skip (.exit 0))) (.block 1 (.seq (.reg .false f152g6) (.reg .false f152g7))))
def f152g9 : List RO := [o_ 26 (.mv (t_ 4)), o_ 27 (.mv (t_ 3)), o_ 28 (.cvI .u8 (t_ 27)), o_ 29 (.bslice 1 [(t_ 28)]), o_ 30 (.appE 1 1 (t_ 26) (t_ 29)), o_ 2 (.mv (t_ 30))]
def f152c : RCode := (.seq (.reg .false f152g0) (.seq (.reg .false f152g1) (.seq (.seq (.reg .false f152g2) (.cond (t_ 9) (.reg .false f152g3) .skip)) (.seq (.reg .false f152g4) (.seq (.block 0 (.loop f152b8)) (.seq (.reg .false f152g9) .ret))))))
def f152r : List RRes := [(.tmp 2)]
attribute [push_cast] f152g0 f152g1 f152g2 f152g3 f152g4 f152g5 f152g6 f152g7 f152g9
def L_ref01_Int_0 (N : Nat) : Nat → Int → (List Int) → Option (List Int)
  | 0, _, _ => none
  | m1+1, a1, a2 => if? (decide (a1 ≥ 128)) (gd? ((a2.length + [(IntKind.wrap .u8 ((IntKind.wrap .u8 ((Int.tmod a1 128))) + 128))].length) * 1 ≤ 140737488355328) (L_ref01_Int_0 N m1 (IntKind.wrap .u64 (Int.tdiv a1 128)) (a2 ++ [(IntKind.wrap .u8 ((IntKind.wrap .u8 ((Int.tmod a1 128))) + 128))]))) (gd? ((a2.length + [(IntKind.wrap .u8 (a1))].length) * 1 ≤ 140737488355328) (some ((a2 ++ [(IntKind.wrap .u8 (a1))]))))
def I_ref01_Int_0 (N : Nat) (r : (List Int)) (n : Nat) (s : AState) : Prop := ∃ (a1 : Int) (a2 : (List Int)), L_ref01_Int_0 N n a1 a2 = some r ∧ s = ⟨envL [(3, .D (.I .u64 a1)), (4, .sl (.O 0) 1 0 a2.length)], ownL [], ownL [some (.row true 1 (a2.map (rI .u8)))], 1⟩
def F_ref01_Int (N : Nat) (p0 : Int) : Option (List Int) := if? (decide (p0 < 0)) (ck .i64 ((-1) - p0) (L_ref01_Int_0 N N (IntKind.wrap .u64 ((IntKind.wrap .u64 ((IntKind.wrap .u64 (((-1) - p0))) * 2)) + 1)) [])) (L_ref01_Int_0 N N (IntKind.wrap .u64 ((IntKind.wrap .u64 (p0)) * 2)) [])
theorem c_ref01_Int (N : Nat) (p0 : Int) (r : (List Int)) (h : F_ref01_Int N p0 = some r) : ACall Tryd.prog 152 [.D (.I .i64 p0)] [] (.sl (.O 0) 1 0 r.length) [] [.row true 1 (r.map (rI .u8))] := by
  refine ACall.of_bodyW [23, 30] (fn := Tryd.f152) (rc := f152c) (rs := f152r) Tryd.func152 rfl rfl (by kernel_rfl) (by kernel_rfl) (by kernel_rfl) (by rw [Tryd.ntmps152]; simp) ?_
  unfold F_ref01_Int at h
  unfold f152c f152r
  rw [entry_eq _ _]
  rcases F_if h with ⟨h817, h⟩ | ⟨h817, h⟩
  rotate_left
  · simp (disch := first | assumption | (simp; done) | omega | (simp; omega)) only [push_cast, seval, h817]
    refine loop_own0 4 1 rfl ?_
    simp (disch := first | assumption | (simp; done) | omega | (simp; omega)) only [push_cast, seval, h817]
    refine loop_of (I_ref01_Int_0 N _) N [3, 4] [0] (by decide) ⟨(IntKind.wrap .u64 ((IntKind.wrap .u64 (p0)) * 2)), [], h, ?_⟩ ?_
    · rw [wk_mk]
      simp (disch := first | assumption | (simp; done) | omega | (simp; omega)) only [push_cast, seval, h817] <;> rfl
    rintro n s ⟨a3, a4, h, rfl⟩
    rcases n with _ | m1
    · exact absurd h (by simp [L_ref01_Int_0])
    rw [L_ref01_Int_0] at h
    unfold f152b8
    rcases F_if h with ⟨h822, h⟩ | ⟨h822, h⟩
    · obtain ⟨h823, h⟩ := F_gd h
      try simp (disch := first | assumption | (simp; done) | omega | (simp; omega)) only [push_cast, seval] at h823
      simp (disch := first | assumption | (simp; done) | omega | (simp; omega)) only [push_cast, seval, h817, h822, h823]
      refine lpK_of m1 [3, 4] [2] (by omega) (by decide) ⟨(IntKind.wrap .u64 (Int.tdiv a3 128)), (a4 ++ [(IntKind.wrap .u8 ((IntKind.wrap .u8 ((Int.tmod a3 128))) + 128))]), (by first | exact h | simpa only [*] using h), ?_⟩
      rw [wk_mk]
      simp (disch := first | assumption | (simp; done) | omega | (simp; omega)) only [push_cast, seval, h817, h822, h823] <;> rfl
    obtain ⟨h824, h⟩ := F_gd h
    try simp (disch := first | assumption | (simp; done) | omega | (simp; omega)) only [push_cast, seval] at h824
    obtain rfl := Option.some.inj h
    simp (disch := first | assumption | (simp; done) | omega | (simp; omega)) only [push_cast, seval, h817, h822, h824]
    refine AEndW.of [2] (.inr rfl) (by decide) rfl ?_ rfl ?_
    · simp (disch := first | assumption | (simp; done) | omega | (simp; omega)) only [push_cast, seval, h817, h822, h824] <;> rfl
    · simp (disch := first | assumption | (simp; done) | omega | (simp; omega)) only [push_cast, seval, h817, h822, h824] <;> rfl
  obtain ⟨h818, h⟩ := F_ck h
  try simp (disch := first | assumption | (simp; done) | omega | (simp; omega)) only [push_cast, seval] at h818
  simp (disch := first | assumption | (simp; done) | omega | (simp; omega)) only [push_cast, seval, h817, h818]
  refine loop_own0 4 1 rfl ?_
  simp (disch := first | assumption | (simp; done) | omega | (simp; omega)) only [push_cast, seval, h817, h818]
  refine loop_of (I_ref01_Int_0 N _) N [3, 4] [0] (by decide) ⟨(IntKind.wrap .u64 ((IntKind.wrap .u64 ((IntKind.wrap .u64 (((-1) - p0))) * 2)) + 1)), [], h, ?_⟩ ?_
  · rw [wk_mk]
    simp (disch := first | assumption | (simp; done) | omega | (simp; omega)) only [push_cast, seval, h817, h818] <;> rfl
  rintro n s ⟨a1, a2, h, rfl⟩
  rcases n with _ | m1
  · exact absurd h (by simp [L_ref01_Int_0])
  rw [L_ref01_Int_0] at h
  unfold f152b8
  rcases F_if h with ⟨h819, h⟩ | ⟨h819, h⟩
  · obtain ⟨h820, h⟩ := F_gd h
    try simp (disch := first | assumption | (simp; done) | omega | (simp; omega)) only [push_cast, seval] at h820
    simp (disch := first | assumption | (simp; done) | omega | (simp; omega)) only [push_cast, seval, h817, h818, h819, h820]
    refine lpK_of m1 [3, 4] [2] (by omega) (by decide) ⟨(IntKind.wrap .u64 (Int.tdiv a1 128)), (a2 ++ [(IntKind.wrap .u8 ((IntKind.wrap .u8 ((Int.tmod a1 128))) + 128))]), (by first | exact h | simpa only [*] using h), ?_⟩
    rw [wk_mk]
    simp (disch := first | assumption | (simp; done) | omega | (simp; omega)) only [push_cast, seval, h817, h818, h819, h820] <;> rfl
  obtain ⟨h821, h⟩ := F_gd h
  try simp (disch := first | assumption | (simp; done) | omega | (simp; omega)) only [push_cast, seval] at h821
  obtain rfl := Option.some.inj h
  simp (disch := first | assumption | (simp; done) | omega | (simp; omega)) only [push_cast, seval, h817, h818, h819, h821]
  refine AEndW.of [2] (.inr rfl) (by decide) rfl ?_ rfl ?_
  · simp (disch := first | assumption | (simp; done) | omega | (simp; omega)) only [push_cast, seval, h817, h818, h819, h821] <;> rfl
  · simp (disch := first | assumption | (simp; done) | omega | (simp; omega)) only [push_cast, seval, h817, h818, h819, h821] <;> rfl

def f135g0 : List RO := [o_ 2 (.mv (.const (.slice .none 0 0)))]
def f135g1 : List RO := [o_ 3 (.mv (t_ 0)), o_ 4 (.len .true (t_ 3)), o_ 5 (.call (.func 152) [(t_ 4)]), o_ 6 (.mv (t_ 0)), o_ 7 (.appE 1 1 (t_ 5) (t_ 6)), o_ 2 (.mv (t_ 7))]
def f135c : RCode := (.seq (.reg .false f135g0) (.seq (.reg .false f135g1) .ret))
def f135r : List RRes := [(.tmp 2)]
attribute [push_cast] f135g0 f135g1
def F_ref01_Bytes (N : Nat) (p0 : Str) : Option (List Int) := bd? (F_ref01_Int N (p0.length : Int)) fun v1 => gd? ((v1.length + (intsS p0).length) * 1 ≤ 140737488355328) (some ((v1 ++ (intsS p0))))
theorem c_ref01_Bytes (N : Nat) (p0 : Str) (r : (List Int)) (h : F_ref01_Bytes N p0 = some r) : ACall Tryd.prog 135 [.D (.S p0)] [] (.sl (.O 0) 1 0 r.length) [] [.row true 1 (r.map (rI .u8))] := by
  refine ACall.of_bodyW [7] (fn := Tryd.f135) (rc := f135c) (rs := f135r) Tryd.func135 rfl rfl (by kernel_rfl) (by kernel_rfl) (by kernel_rfl) (by rw [Tryd.ntmps135]; simp) ?_
  unfold F_ref01_Bytes at h
  unfold f135c f135r
  rw [entry_eq _ _]
  obtain ⟨v1, h825, h⟩ := F_bd h
  simp (disch := first | assumption | (simp; done) | omega | (simp; omega)) only [push_cast, seval]
  refine call_new (by rfl) (c_ref01_Int N _ _ h825) ?_ rfl ?_
  · simp (disch := first | assumption | (simp; done) | omega | (simp; omega)) only [push_cast, seval] <;> rfl
  obtain ⟨h826, h⟩ := F_gd h
  try simp (disch := first | assumption | (simp; done) | omega | (simp; omega)) only [push_cast, seval] at h826
  obtain rfl := Option.some.inj h
  simp (disch := first | assumption | (simp; done) | omega | (simp; omega)) only [push_cast, seval, h826]
  refine AEndW.of [1] (.inr rfl) (by decide) rfl ?_ rfl ?_
  · simp (disch := first | assumption | (simp; done) | omega | (simp; omega)) only [push_cast, seval, h826] <;> rfl
  · simp (disch := first | assumption | (simp; done) | omega | (simp; omega)) only [push_cast, seval, h826] <;> rfl

end Go.Proofs.Tryd
