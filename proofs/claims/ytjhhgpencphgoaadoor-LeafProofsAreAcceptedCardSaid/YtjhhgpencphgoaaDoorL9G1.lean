/- Printed by a program: what the functions compute, and that they do (part 1). -/
import Derived.Test.YtjhhgpencphgoaaDoorProg
import Derived.Test.YtjhhgpencphgoaaDoorE26b
import Derived.Test.YtjhhgpencphgoaaDoorGlb
import Derived.Test.YtjhhgpencphgoaaDoorR0
set_option linter.unusedSimpArgs false
set_option linter.unusedVariables false
set_option maxRecDepth 8000
set_option maxHeartbeats 1000000
namespace Go.Proofs.Tryd
open Go.Eng Go.RowKit
def kstr0 : Str := [0, 1, 2, 2, 3, 3, 3, 3, 4, 4, 4, 4, 4, 4, 4, 4, 5, 5, 5, 5, 5, 5, 5, 5, 5, 5, 5, 5, 5, 5, 5, 5, 6, 6, 6, 6, 6, 6, 6, 6, 6, 6, 6, 6, 6, 6, 6, 6, 6, 6, 6, 6, 6, 6, 6, 6, 6, 6, 6, 6, 6, 6, 6, 6, 7, 7, 7, 7, 7, 7, 7, 7, 7, 7, 7, 7, 7, 7, 7, 7, 7, 7, 7, 7, 7, 7, 7, 7, 7, 7, 7, 7, 7, 7, 7, 7, 7, 7, 7, 7, 7, 7, 7, 7, 7, 7, 7, 7, 7, 7, 7, 7, 7, 7, 7, 7, 7, 7, 7, 7, 7, 7, 7, 7, 7, 7, 7, 7, 8, 8, 8, 8, 8, 8, 8, 8, 8, 8, 8, 8, 8, 8, 8, 8, 8, 8, 8, 8, 8, 8, 8, 8, 8, 8, 8, 8, 8, 8, 8, 8, 8, 8, 8, 8, 8, 8, 8, 8, 8, 8, 8, 8, 8, 8, 8, 8, 8, 8, 8, 8, 8, 8, 8, 8, 8, 8, 8, 8, 8, 8, 8, 8, 8, 8, 8, 8, 8, 8, 8, 8, 8, 8, 8, 8, 8, 8, 8, 8, 8, 8, 8, 8, 8, 8, 8, 8, 8, 8, 8, 8, 8, 8, 8, 8, 8, 8, 8, 8, 8, 8, 8, 8, 8, 8, 8, 8, 8, 8, 8, 8, 8, 8, 8, 8, 8, 8, 8, 8, 8, 8, 8, 8, 8, 8, 8, 8]
structure Folder where
 Gauge : Int
 Year : Int
 Items : (List Str)
 deriving DecidableEq, Inhabited
def Folder.row (x : Folder) : List DV := [.I .i64 x.Gauge, .I .i64 x.Year, .L (x.Items.map rS)]
theorem Folder.uni {xs : List Folder} : Uni 3 (xs.map Folder.row) = True := uni_map (f := Folder.row) fun _ => rfl
theorem Folder.one {xs : List Folder} : oneL (xs.map Folder.row) = true := one_map (f := Folder.row) fun _ => rfl
attribute [push_cast] Folder.row Folder.uni Folder.one
attribute [simp] Folder.uni Folder.one
structure Reading where
 Gauge : Int
 Seq : Int
 From : Int
 To : Int
 Stage : Int
 Known : Int
 deriving DecidableEq, Inhabited
def Reading.row (x : Reading) : List DV := [.I .i64 x.Gauge, .I .i64 x.Seq, .I .i64 x.From, .I .i64 x.To, .I .i64 x.Stage, .I .i64 x.Known]
theorem Reading.uni {xs : List Reading} : Uni 6 (xs.map Reading.row) = True := uni_map (f := Reading.row) fun _ => rfl
theorem Reading.one {xs : List Reading} : oneL (xs.map Reading.row) = true := one_map (f := Reading.row) fun _ => rfl
attribute [push_cast] Reading.row Reading.uni Reading.one
attribute [simp] Reading.uni Reading.one
structure Hold where
 Stage : Int
 Ticks : Int
 deriving DecidableEq, Inhabited
def Hold.row (x : Hold) : List DV := [.I .i64 x.Stage, .I .i64 x.Ticks]
theorem Hold.uni {xs : List Hold} : Uni 2 (xs.map Hold.row) = True := uni_map (f := Hold.row) fun _ => rfl
theorem Hold.one {xs : List Hold} : oneL (xs.map Hold.row) = true := one_map (f := Hold.row) fun _ => rfl
attribute [push_cast] Hold.row Hold.uni Hold.one
attribute [simp] Hold.uni Hold.one
structure Run where
 From : Int
 To : Int
 Table : (List Hold)
 Lo : Int
 Hi : Int
 deriving DecidableEq, Inhabited
def Run.row (x : Run) : List DV := [.I .i64 x.From, .I .i64 x.To, .L (x.Table.map Hold.row), .I .i64 x.Lo, .I .i64 x.Hi]
theorem Run.uni {xs : List Run} : Uni 5 (xs.map Run.row) = True := uni_map (f := Run.row) fun _ => rfl
theorem Run.one {xs : List Run} : oneL (xs.map Run.row) = true := one_map (f := Run.row) fun _ => rfl
attribute [push_cast] Run.row Run.uni Run.one
attribute [simp] Run.uni Run.one
structure Block where
 Gauge : Int
 Level : Int
 From : Int
 To : Int
 Known : Int
 Runs : (List Run)
 deriving DecidableEq, Inhabited
def Block.row (x : Block) : List DV := [.I .i64 x.Gauge, .I .i64 x.Level, .I .i64 x.From, .I .i64 x.To, .I .i64 x.Known, .L (x.Runs.map Run.row)]
theorem Block.uni {xs : List Block} : Uni 6 (xs.map Block.row) = True := uni_map (f := Block.row) fun _ => rfl
theorem Block.one {xs : List Block} : oneL (xs.map Block.row) = true := one_map (f := Block.row) fun _ => rfl
attribute [push_cast] Block.row Block.uni Block.one
attribute [simp] Block.uni Block.one
structure Rat where
 Neg : Bool
 Num : Str
 Den : Str
 deriving DecidableEq, Inhabited
def Rat.row (x : Rat) : List DV := [.B x.Neg, .S x.Num, .S x.Den]
theorem Rat.uni {xs : List Rat} : Uni 3 (xs.map Rat.row) = True := uni_map (f := Rat.row) fun _ => rfl
theorem Rat.one {xs : List Rat} : oneL (xs.map Rat.row) = true := one_map (f := Rat.row) fun _ => rfl
attribute [push_cast] Rat.row Rat.uni Rat.one
attribute [simp] Rat.uni Rat.one
structure Point where
 Stage : Int
 Flow : Rat
 deriving DecidableEq, Inhabited
def Point.row (x : Point) : List DV := [.I .i64 x.Stage, .B x.Flow.Neg, .S x.Flow.Num, .S x.Flow.Den]
theorem Point.uni {xs : List Point} : Uni 4 (xs.map Point.row) = True := uni_map (f := Point.row) fun _ => rfl
theorem Point.one {xs : List Point} : oneL (xs.map Point.row) = true := one_map (f := Point.row) fun _ => rfl
attribute [push_cast] Point.row Point.uni Point.one
attribute [simp] Point.uni Point.one
structure Curve where
 Points : (List Point)
 deriving DecidableEq, Inhabited
def Curve.row (x : Curve) : List DV := [.L (x.Points.map Point.row)]
theorem Curve.uni {xs : List Curve} : Uni 1 (xs.map Curve.row) = True := uni_map (f := Curve.row) fun _ => rfl
theorem Curve.one {xs : List Curve} : oneL (xs.map Curve.row) = true := one_map (f := Curve.row) fun _ => rfl
attribute [push_cast] Curve.row Curve.uni Curve.one
attribute [simp] Curve.uni Curve.one
structure Version where
 Kind : Int
 Gauge : Int
 Seq : Int
 Known : Int
 From : Int
 To : Int
 Shift : Int
 Curve : Curve
 deriving DecidableEq, Inhabited
def Version.row (x : Version) : List DV := [.I .i64 x.Kind, .I .i64 x.Gauge, .I .i64 x.Seq, .I .i64 x.Known, .I .i64 x.From, .I .i64 x.To, .I .i64 x.Shift, .L (x.Curve.Points.map Point.row)]
theorem Version.uni {xs : List Version} : Uni 8 (xs.map Version.row) = True := uni_map (f := Version.row) fun _ => rfl
theorem Version.one {xs : List Version} : oneL (xs.map Version.row) = true := one_map (f := Version.row) fun _ => rfl
attribute [push_cast] Version.row Version.uni Version.one
attribute [simp] Version.uni Version.one
structure HashStream where
 state : (Arr 8)
 block : (Arr 64)
 n : Int
 deriving DecidableEq, Inhabited
def HashStream.row (x : HashStream) : List DV := (x.state.l.map (DV.I .u32)) ++ ((x.block.l.map (DV.I .u8)) ++ ([.I .u64 x.n]))
theorem HashStream.uni {xs : List HashStream} : Uni 73 (xs.map HashStream.row) = True := uni_map (f := HashStream.row) fun x => by simp [HashStream.row, Arr.len]
theorem HashStream.one {xs : List HashStream} : oneL (xs.map HashStream.row) = true := one_map (f := HashStream.row) fun x => by simp [HashStream.row, List.all_append, all_I, DV.one]
attribute [push_cast] HashStream.row HashStream.uni HashStream.one
attribute [simp] HashStream.uni HashStream.one
structure Proof where
 At : Int
 Count : Int
 Top : (Arr 16)
 Path : (List (Arr 16))
 deriving DecidableEq, Inhabited
def Proof.row (x : Proof) : List DV := [.I .i64 x.At, .I .i64 x.Count] ++ ((x.Top.l.map (DV.I .u8)) ++ ([.L (x.Path.map (rA .u8))]))
theorem Proof.uni {xs : List Proof} : Uni 19 (xs.map Proof.row) = True := uni_map (f := Proof.row) fun x => by simp [Proof.row, Arr.len]
theorem Proof.one {xs : List Proof} : oneL (xs.map Proof.row) = true := one_map (f := Proof.row) fun x => by simp [Proof.row, List.all_append, all_I, DV.one]
attribute [push_cast] Proof.row Proof.uni Proof.one
attribute [simp] Proof.uni Proof.one
structure Absence where
 At : Int
 Count : Int
 Top : (Arr 16)
 Before : Str
 After : Str
 Left : (List (Arr 16))
 Right : (List (Arr 16))
 deriving DecidableEq, Inhabited
def Absence.row (x : Absence) : List DV := [.I .i64 x.At, .I .i64 x.Count] ++ ((x.Top.l.map (DV.I .u8)) ++ ([.S x.Before, .S x.After, .L (x.Left.map (rA .u8)), .L (x.Right.map (rA .u8))]))
theorem Absence.uni {xs : List Absence} : Uni 22 (xs.map Absence.row) = True := uni_map (f := Absence.row) fun x => by simp [Absence.row, Arr.len]
theorem Absence.one {xs : List Absence} : oneL (xs.map Absence.row) = true := one_map (f := Absence.row) fun x => by simp [Absence.row, List.all_append, all_I, DV.one]
attribute [push_cast] Absence.row Absence.uni Absence.one
attribute [simp] Absence.uni Absence.one
structure Merklepath where
 l : (List (Arr 16))
 short : Bool
 deriving DecidableEq, Inhabited
def Merklepath.row (x : Merklepath) : List DV := [.L (x.l.map (rA .u8)), .B x.short]
theorem Merklepath.uni {xs : List Merklepath} : Uni 2 (xs.map Merklepath.row) = True := uni_map (f := Merklepath.row) fun _ => rfl
theorem Merklepath.one {xs : List Merklepath} : oneL (xs.map Merklepath.row) = true := one_map (f := Merklepath.row) fun _ => rfl
attribute [push_cast] Merklepath.row Merklepath.uni Merklepath.one
attribute [simp] Merklepath.uni Merklepath.one
def f87g0 : List RO := [o_ 2 (.new [(.D (.I .i64 0)), (.D (.I .i64 0)), (.D (.I .i64 0)), (.D (.I .i64 0)), (.D (.I .i64 0)), (.D (.I .i64 0))])]
def f87g1 : List RO := [o_ 3 (.mv (t_ 0)), o_ 4 (.build [(.D (.I .i64 0)), (.D (.I .i64 0)), (.D (.I .i64 0)), (.D (.I .i64 0)), (.D (.I .i64 0)), (.D (.I .i64 0))] [(0, (1, (.const (.int .i64 3)))), (1, (1, (t_ 3))), (2, (1, (.const (.int .i64 10)))), (3, (1, (.const (.int .i64 14)))), (4, (1, (.const (.int .i64 7)))), (5, (1, (.const (.int .i64 2))))]), n_ (.store 6 (t_ 2) (t_ 4))]
def f87c : RCode := (.seq (.reg .false f87g0) (.seq (.reg .false f87g1) .ret))
def f87r : List RRes := [(.cell (.some 6) 2)]
attribute [push_cast] f87g0 f87g1
def F_law23_reading (N : Nat) (p0 : Int) : Option Reading := some ((Reading.mk 3 p0 10 14 7 2))
theorem c_law23_reading (N : Nat) (p0 : Int) (r : Reading) (h : F_law23_reading N p0 = some r) : ACall Tryd.prog 87 [.D (.I .i64 p0)] [] (.agg [.D (.I .i64 r.Gauge), .D (.I .i64 r.Seq), .D (.I .i64 r.From), .D (.I .i64 r.To), .D (.I .i64 r.Stage), .D (.I .i64 r.Known)]) [] [] := by
 refine ACall.of_bodyW [] (fn := Tryd.f87) (rc := f87c) (rs := f87r) Tryd.func87 rfl rfl (by kernel_rfl) (by kernel_rfl) (by kernel_rfl) (by rw [Tryd.ntmps87]; simp) ?_
 unfold F_law23_reading at h
 unfold f87c f87r
 rw [entry_eq _ _]
 obtain rfl := Option.some.inj h
 simp only[push_cast,seval]
 refine e_ret (.inr rfl) ?_
 simp only[push_cast,seval,aret,aresults,aresult]
 refine ⟨_, rfl, ?_⟩
 first | (simp only[push_cast,seval] <;> rfl) | rfl

def f107g0 : List RO := [o_ 2 (.mv (.const (.slice .none 0 0)))]
def f107g1 : List RO := [o_ 5 (.mv (t_ 0)), o_ 6 (.cvI .u64 (t_ 5)), o_ 7 (.bin .shl (t_ 6) (.const (.int .u64 1))), o_ 8 (.mv (t_ 0)), o_ 9 (.bin .shr (t_ 8) (.const (.int .u64 63))), o_ 10 (.cvI .u64 (t_ 9)), o_ 11 (.bin .xor (t_ 7) (t_ 10)), o_ 3 (.mv (t_ 11))]
def f107g2 : List RO := [o_ 4 (.mv (.const (.slice .none 0 0)))]
def f107g3 : List RO := [o_ 12 (.mv (t_ 3)), o_ 13 (.bin .gtr (t_ 12) (.const (.int .u64 127)))]
def f107g4 : List RO := [o_ 16 (.mv (t_ 4)), o_ 17 (.mv (t_ 3)), o_ 18 (.cvI .u8 (t_ 17)), o_ 19 (.bin .or (t_ 18) (.const (.int .u8 128))), o_ 20 (.bslice 1 [(t_ 19)]), o_ 21 (.appE 1 1 (t_ 16) (t_ 20)), o_ 4 (.mv (t_ 21))]
def f107g5 : List RO := [o_ 14 (.mv (t_ 3)), o_ 15 (.bin .shr (t_ 14) (.const (.int .u64 7))), o_ 3 (.mv (t_ 15))]
def f107b6 : RCode := (.seq (.seq (.reg .false f107g3) (.cond (t_ 13) .skip (.exit 0))) (.seq (.block 1 (.reg .false f107g4)) (.reg .false f107g5)))
def f107g7 : List RO := [o_ 22 (.mv (t_ 4)), o_ 23 (.mv (t_ 3)), o_ 24 (.cvI .u8 (t_ 23)), o_ 25 (.bslice 1 [(t_ 24)]), o_ 26 (.appE 1 1 (t_ 22) (t_ 25)), o_ 2 (.mv (t_ 26))]
def f107c : RCode := (.seq (.reg .false f107g0) (.seq (.reg .false f107g1) (.seq (.reg .false f107g2) (.seq (.block 0 (.loop f107b6)) (.seq (.reg .false f107g7) .ret)))))
def f107r : List RRes := [(.tmp 2)]
attribute [push_cast] f107g0 f107g1 f107g2 f107g3 f107g4 f107g5 f107g7
def L_wire_Int_0 (N : Nat) : Nat → Int → (List Int) → Option (List Int)
  | 0, _, _ => none
  | m1+1, a1, a2 => if? (decide (a1 > 127)) (gd? ((a2.length + [(bits .or .u8 (IntKind.wrap .u8 (a1)) 128)].length) * 1 ≤ 140737488355328) (L_wire_Int_0 N m1 (a1 / 2 ^ (7 : Int).toNat) (a2 ++ [(bits .or .u8 (IntKind.wrap .u8 (a1)) 128)]))) (gd? ((a2.length + [(IntKind.wrap .u8 (a1))].length) * 1 ≤ 140737488355328) (some ((a2 ++ [(IntKind.wrap .u8 (a1))]))))
def I_wire_Int_0 (N : Nat) (r : (List Int)) (n : Nat) (s : AState) : Prop := ∃ (a1 : Int) (a2 : (List Int)), L_wire_Int_0 N n a1 a2 = some r ∧ s = ⟨envL [(3, .D (.I .u64 a1)), (4, .sl (.O 0) 1 0 a2.length)], ownL [], ownL [some (.row true 1 (a2.map (rI .u8)))], 1⟩
def F_wire_Int (N : Nat) (p0 : Int) : Option (List Int) := L_wire_Int_0 N N (bits .xor .u64 (IntKind.wrap .u64 ((IntKind.wrap .u64 (p0)) * 2 ^ (1 : Int).toNat)) (IntKind.wrap .u64 ((p0 / 2 ^ (63 : Int).toNat)))) []
theorem c_wire_Int (N : Nat) (p0 : Int) (r : (List Int)) (h : F_wire_Int N p0 = some r) : ACall Tryd.prog 107 [.D (.I .i64 p0)] [] (.sl (.O 0) 1 0 r.length) [] [.row true 1 (r.map (rI .u8))] := by
 refine ACall.of_bodyW [21, 26] (fn := Tryd.f107) (rc := f107c) (rs := f107r) Tryd.func107 rfl rfl (by kernel_rfl) (by kernel_rfl) (by kernel_rfl) (by rw [Tryd.ntmps107]; simp) ?_
 unfold F_wire_Int at h
 unfold f107c f107r
 rw [entry_eq _ _]
 simp only[push_cast,seval]
 refine loop_own0 4 1 rfl ?_
 simp only[push_cast,seval]
 refine loop_of (I_wire_Int_0 N _) N [3, 4] [0] (by decide) ⟨(bits .xor .u64 (IntKind.wrap .u64 ((IntKind.wrap .u64 (p0)) * 2 ^ (1 : Int).toNat)) (IntKind.wrap .u64 ((p0 / 2 ^ (63 : Int).toNat)))), [], h, ?_⟩ ?_
 ·rw [wk_mk]
  simp only[push_cast,seval] <;> rfl
 rintro n s ⟨a1, a2, h, rfl⟩
 rcases n with _ | m1
 ·exact absurd h (by simp [L_wire_Int_0])
 rw [L_wire_Int_0] at h
 unfold f107b6
 rcases F_if h with ⟨h1, h⟩ | ⟨h1, h⟩
 ·obtain ⟨h2, h⟩ := F_gd h
  try simp only[push_cast,seval] at h2
  simp only[push_cast,seval,h1,h2]
  refine lpK_of m1 [3, 4] [2] (by omega) (by decide) ⟨(a1 / 2 ^ (7 : Int).toNat), (a2 ++ [(bits .or .u8 (IntKind.wrap .u8 (a1)) 128)]), (by first | exact h | simpa only [*] using h), ?_⟩
  rw [wk_mk]
  simp only[push_cast,seval,h1,h2] <;> rfl
 obtain ⟨h3, h⟩ := F_gd h
 try simp only[push_cast,seval] at h3
 obtain rfl := Option.some.inj h
 simp only[push_cast,seval,h1,h3]
 refine AEndW.of [2] (.inr rfl) (by decide) rfl ?_ rfl ?_
 ·simp only[push_cast,seval,h1,h3] <;> rfl
 ·simp only[push_cast,seval,h1,h3] <;> rfl

def f156g0 : List RO := [o_ 4 (.mv (.const (.slice .none 0 0)))]
def f156g1 : List RO := [o_ 8 (.mv (t_ 0)), o_ 9 (.len .false (t_ 8)), o_ 10 (.call (.func 107) [(t_ 9)]), o_ 5 (.mv (t_ 10))]
def f156g2 : List RO := [o_ 11 (.mv (t_ 0)), o_ 12 (.len .false (t_ 11)), o_ 13 (.mv (.const (.int .i64 0)))]
def f156g3 : List RO := [o_ 14 (.bin .lss (t_ 13) (t_ 12))]
def f156g4 : List RO := [o_ 15 (.iaddr 1 (t_ 11) (t_ 13)), o_ 16 (.load .none (t_ 15)), o_ 7 (.mv (t_ 16))]
def f156g5 : List RO := [o_ 17 (.mv (t_ 5)), o_ 18 (.mv (t_ 1)), o_ 19 (.mv (t_ 7)), o_ 20 (.call (t_ 18) [(t_ 19)]), o_ 21 (.appE 1 1 (t_ 17) (t_ 20)), o_ 5 (.mv (t_ 21))]
def f156g6 : List RO := [o_ 22 (.bin .add (t_ 13) (.const (.int .i64 1))), o_ 13 (.mv (t_ 22))]
def f156b7 : RCode := (.seq (.reg .false f156g3) (.seq (.cond (t_ 14) .skip (.exit 0)) (.seq (.block 1 (.seq (.reg .false f156g4) (.reg .false f156g5))) (.reg .false f156g6))))
def f156g8 : List RO := [o_ 23 (.mv (t_ 5)), o_ 4 (.mv (t_ 23))]
def f156c : RCode := (.seq (.reg .false f156g0) (.seq (.reg .false f156g1) (.seq (.seq (.reg .false f156g2) (.block 0 (.loop f156b7))) (.seq (.reg .false f156g8) .ret))))
def f156r : List RRes := [(.tmp 4)]
attribute [push_cast] f156g0 f156g1 f156g2 f156g3 f156g4 f156g5 f156g6 f156g8
def L_wire_list_int_0 (N : Nat) (p0 : (List Int)) : Nat → Int → (List Int) → Option (List Int)
  | 0, _, _ => none
  | m1+1, a2, a3 => if? (decide (a2 < (p0.length : Int))) (get? p0 (a2) fun x4 => bd? (F_wire_Int N x4) fun v5 => gd? ((a3.length + v5.length) * 1 ≤ 140737488355328) (ck .i64 (a2 + 1) (L_wire_list_int_0 N p0 m1 (a2 + 1) (a3 ++ v5)))) (some (a3))
def I_wire_list_int_0 (N : Nat) (p0 : (List Int)) (r : (List Int)) (n : Nat) (s : AState) : Prop := ∃ (a2 : Int) (a3 : (List Int)), L_wire_list_int_0 N p0 n a2 a3 = some r ∧ s = ⟨envL [(1, .clo 107 []), (5, .sl (.O 0) 1 0 a3.length), (11, .D (.L (p0.map (rI .i64)))), (12, .D (.I .i64 (p0.length : Int))), (13, .D (.I .i64 a2))], ownL [], ownL [some (.row true 1 (a3.map (rI .u8)))], 1⟩
def F_wire_list_int (N : Nat) (p0 : (List Int)) : Option (List Int) := bd? (F_wire_Int N (p0.length : Int)) fun v1 => L_wire_list_int_0 N p0 N 0 v1
theorem c_wire_list_int (N : Nat) (p0 : (List Int)) (r : (List Int)) (h : F_wire_list_int N p0 = some r) : ACall Tryd.prog 156 [.D (.L (p0.map (rI .i64))), .clo 107 []] [] (.sl (.O 0) 1 0 r.length) [] [.row true 1 (r.map (rI .u8))] := by
 refine ACall.of_bodyW [21] (fn := Tryd.f156) (rc := f156c) (rs := f156r) Tryd.func156 rfl rfl (by kernel_rfl) (by kernel_rfl) (by kernel_rfl) (by rw [Tryd.ntmps156]; simp) ?_
 unfold F_wire_list_int at h
 unfold f156c f156r
 rw [entry_eq _ _]
 obtain ⟨v1, h1, h⟩ := F_bd h
 simp only[push_cast,seval]
 refine call_new (by rfl) (c_wire_Int N _ _ h1) ?_ rfl ?_
 ·simp only[push_cast,seval] <;> rfl
 simp only[push_cast,seval]
 refine loop_of (I_wire_list_int_0 N p0 _) N [1, 5, 11, 12, 13] [0] (by decide) ⟨0, v1, h, ?_⟩ ?_
 ·rw [wk_mk]
  simp only[push_cast,seval] <;> rfl
 rintro n s ⟨a2, a3, h, rfl⟩
 rcases n with _ | m1
 ·exact absurd h (by simp [L_wire_list_int_0])
 rw [L_wire_list_int_0] at h
 unfold f156b7
 rcases F_if h with ⟨h2, h⟩ | ⟨h2, h⟩
 rotate_left
 ·obtain rfl := Option.some.inj h
  simp only[push_cast,seval,h2]
  refine AEndW.of [0] (.inr rfl) (by decide) rfl ?_ rfl ?_
  ·simp only[push_cast,seval,h2] <;> rfl
  ·simp only[push_cast,seval,h2] <;> rfl
 obtain ⟨x4, h3, h4, h⟩ := F_get h
 have h5 := get_lt h3 h4
 have h6 := map_get (rI .i64) h4
 try simp only[push_cast,seval] at h6
 obtain ⟨v5, h7, h⟩ := F_bd h
 simp only[push_cast,seval,h2,h3,h6,h5]
 refine call_new (by rfl) (c_wire_Int N _ _ h7) ?_ rfl ?_
 ·simp only[push_cast,seval,h2,h3,h6,h5] <;> rfl
 obtain ⟨h8, h⟩ := F_gd h
 try simp only[push_cast,seval] at h8
 obtain ⟨h9, h⟩ := F_ck h
 try simp only[push_cast,seval] at h9
 simp only[push_cast,seval,h2,h3,h6,h5,h8,h9]
 refine lpK_of m1 [1, 5, 11, 12, 13] [2] (by omega) (by decide) ⟨(a2 + 1), (a3 ++ v5), (by first | exact h | simpa only [*] using h), ?_⟩
 rw [wk_mk]
 simp only[push_cast,seval,h2,h3,h6,h5,h8,h9] <;> rfl

def f138g0 : List RO := [o_ 2 (.mv (.const (.slice .none 0 0)))]
def f138g1 : List RO := [o_ 3 (.mv (t_ 0)), o_ 4 (.call (.func 156) [(t_ 3), (.func 107)]), o_ 2 (.mv (t_ 4))]
def f138c : RCode := (.seq (.reg .false f138g0) (.seq (.reg .false f138g1) .ret))
def f138r : List RRes := [(.tmp 2)]
attribute [push_cast] f138g0 f138g1
def F_wire_Ints (N : Nat) (p0 : (List Int)) : Option (List Int) := bd? (F_wire_list_int N p0) fun v1 => some (v1)
theorem c_wire_Ints (N : Nat) (p0 : (List Int)) (r : (List Int)) (h : F_wire_Ints N p0 = some r) : ACall Tryd.prog 138 [.D (.L (p0.map (rI .i64)))] [] (.sl (.O 0) 1 0 r.length) [] [.row true 1 (r.map (rI .u8))] := by
 refine ACall.of_bodyW [] (fn := Tryd.f138) (rc := f138c) (rs := f138r) Tryd.func138 rfl rfl (by kernel_rfl) (by kernel_rfl) (by kernel_rfl) (by rw [Tryd.ntmps138]; simp) ?_
 unfold F_wire_Ints at h
 unfold f138c f138r
 rw [entry_eq _ _]
 obtain ⟨v1, h1, h⟩ := F_bd h
 simp only[push_cast,seval]
 refine call_new (by rfl) (c_wire_list_int N _ _ h1) ?_ rfl ?_
 ·simp only[push_cast,seval] <;> rfl
 obtain rfl := Option.some.inj h
 simp only[push_cast,seval]
 refine AEndW.of [0] (.inr rfl) (by decide) rfl ?_ rfl ?_
 ·simp only[push_cast,seval] <;> rfl
 ·simp only[push_cast,seval] <;> rfl

def f104g0 : List RO := [o_ 2 (.mv (.const (.string ⟨#[]⟩)))]
def f104g1 : List RO := [o_ 3 (.mv (t_ 0)), o_ 4 (.call (.func 138) [(t_ 3)]), o_ 5 (.cvS (t_ 4)), o_ 2 (.mv (t_ 5))]
def f104c : RCode := (.seq (.reg .false f104g0) (.seq (.reg .false f104g1) .ret))
def f104r : List RRes := [(.tmp 2)]
attribute [push_cast] f104g0 f104g1
def F_leaf_numbers (N : Nat) (p0 : (List Int)) : Option Str := bd? (F_wire_Ints N p0) fun v1 => some ((bytesI v1))
theorem c_leaf_numbers (N : Nat) (p0 : (List Int)) (r : Str) (h : F_leaf_numbers N p0 = some r) : ACall Tryd.prog 104 [.D (.L (p0.map (rI .i64)))] [] (.D (.S r)) [] [] := by
 refine ACall.of_bodyW [] (fn := Tryd.f104) (rc := f104c) (rs := f104r) Tryd.func104 rfl rfl (by kernel_rfl) (by kernel_rfl) (by kernel_rfl) (by rw [Tryd.ntmps104]; simp) ?_
 unfold F_leaf_numbers at h
 unfold f104c f104r
 rw [entry_eq _ _]
 obtain ⟨v1, h1, h⟩ := F_bd h
 simp only[push_cast,seval]
 refine call_new (by rfl) (c_wire_Ints N _ _ h1) ?_ rfl ?_
 ·simp only[push_cast,seval] <;> rfl
 obtain rfl := Option.some.inj h
 simp only[push_cast,seval]
 refine e_ret (.inr rfl) ?_
 simp only[push_cast,seval,aret,aresults,aresult]
 refine ⟨_, rfl, ?_⟩
 first | (simp only[push_cast,seval] <;> rfl) | rfl

def f53g0 : List RO := [o_ 1 (.box (t_ 0)), o_ 2 (.mv (.const (.string ⟨#[]⟩)))]
def f53g1 : List RO := [o_ 3 (.faddr 0 (t_ 1)), o_ 4 (.load .none (t_ 3)), o_ 5 (.faddr 1 (t_ 1)), o_ 6 (.load .none (t_ 5)), o_ 7 (.faddr 2 (t_ 1)), o_ 8 (.load .none (t_ 7)), o_ 9 (.faddr 3 (t_ 1)), o_ 10 (.load .none (t_ 9)), o_ 11 (.faddr 4 (t_ 1)), o_ 12 (.load .none (t_ 11)), o_ 13 (.faddr 5 (t_ 1)), o_ 14 (.load .none (t_ 13)), o_ 15 (.bslice 1 [(.const (.int .i64 1)), (t_ 4), (t_ 6), (t_ 8), (t_ 10), (t_ 12), (t_ 14)]), o_ 16 (.call (.func 104) [(t_ 15)]), o_ 2 (.mv (t_ 16))]
def f53c : RCode := (.seq (.reg .false f53g0) (.seq (.reg .false f53g1) .ret))
def f53r : List RRes := [(.tmp 2)]
attribute [push_cast] f53g0 f53g1
def F_leaf_Reading (N : Nat) (p0 : Reading) : Option Str := bd? (F_leaf_numbers N [1, p0.Gauge, p0.Seq, p0.From, p0.To, p0.Stage, p0.Known]) fun v1 => some (v1)
theorem c_leaf_Reading (N : Nat) (p0 : Reading) (r : Str) (h : F_leaf_Reading N p0 = some r) : ACall Tryd.prog 53 [.agg [.D (.I .i64 p0.Gauge), .D (.I .i64 p0.Seq), .D (.I .i64 p0.From), .D (.I .i64 p0.To), .D (.I .i64 p0.Stage), .D (.I .i64 p0.Known)]] [] (.D (.S r)) [] [] := by
 refine ACall.of_bodyW [] (fn := Tryd.f53) (rc := f53c) (rs := f53r) Tryd.func53 rfl rfl (by kernel_rfl) (by kernel_rfl) (by kernel_rfl) (by rw [Tryd.ntmps53]; simp) ?_
 unfold F_leaf_Reading at h
 unfold f53c f53r
 rw [entry_eq _ _]
 obtain ⟨v1, h1, h⟩ := F_bd h
 simp only[push_cast,seval]
 refine call_flat (by rfl) (c_leaf_numbers N _ _ h1) ?_ rfl ?_
 ·simp only[push_cast,seval] <;> rfl
 obtain rfl := Option.some.inj h
 simp only[push_cast,seval]
 refine e_ret (.inr rfl) ?_
 simp only[push_cast,seval,aret,aresults,aresult]
 refine ⟨_, rfl, ?_⟩
 first | (simp only[push_cast,seval] <;> rfl) | rfl

def f139g0 : List RO := [o_ 2 (.mv (.const (.int .i64 0))), o_ 3 (.mv (.const (.int .i64 0))), o_ 4 (.mv (.const (.int .i64 0)))]
def f139g1 : List RO := [o_ 5 (.mv (.const (.int .u64 0)))]
def f139g2 : List RO := [o_ 6 (.mv (.const (.int .i64 0)))]
def f139g3 : List RO := [o_ 9 (.mv (t_ 0)), o_ 10 (.len .false (t_ 9)), o_ 11 (.mv (.const (.int .i64 0)))]
def f139g4 : List RO := [o_ 12 (.bin .lss (t_ 11) (t_ 10))]
def f139g5 : List RO := [o_ 13 (.mv (t_ 11)), o_ 14 (.iaddr 1 (t_ 9) (t_ 11)), o_ 15 (.load .none (t_ 14)), o_ 7 (.mv (t_ 13)), o_ 8 (.mv (t_ 15))]
def f139g6 : List RO := [o_ 25 (.mv (t_ 7)), o_ 26 (.bin .eql (t_ 25) (.const (.int .i64 9))), o_ 27 (.mv (t_ 26)), ⟨(.some 28), (.mv (t_ 8)), (.some (27, .true))⟩, ⟨(.some 29), (.bin .gtr (t_ 28) (.const (.int .u8 1))), (.some (27, .true))⟩, o_ 30 (.pick (t_ 27) (t_ 29) (.const (.bool .false))), o_ 24 (.mv (t_ 30))]
def f139g7 : List RO := [o_ 31 (.mv (t_ 7)), o_ 32 (.bin .gtr (t_ 31) (.const (.int .i64 0))), o_ 33 (.mv (t_ 32)), ⟨(.some 34), (.mv (t_ 8)), (.some (33, .true))⟩, ⟨(.some 35), (.bin .eql (t_ 34) (.const (.int .u8 0))), (.some (33, .true))⟩, o_ 36 (.pick (t_ 33) (t_ 35) (.const (.bool .false))), o_ 24 (.mv (t_ 36))]
def f139g8 : List RO := [o_ 2 (.mv (.const (.int .i64 0))), o_ 3 (.mv (.const (.int .i64 0))), o_ 4 (.mv (.const (.int .i64 11)))]
def f139g9 : List RO := [o_ 16 (.mv (t_ 5)), o_ 17 (.mv (t_ 8)), o_ 18 (.bin .and (t_ 17) (.const (.int .u8 127))), o_ 19 (.cvI .u64 (t_ 18)), o_ 20 (.mv (t_ 7)), o_ 21 (.bin .mul (.const (.int .i64 7)) (t_ 20)), o_ 22 (.bin .shl (t_ 19) (t_ 21)), o_ 23 (.bin .or (t_ 16) (t_ 22)), o_ 5 (.mv (t_ 23))]
def f139g10 : List RO := [o_ 37 (.mv (t_ 8)), o_ 38 (.bin .lss (t_ 37) (.const (.int .u8 128)))]
def f139g11 : List RO := [o_ 39 (.mv (t_ 7)), o_ 40 (.bin .add (t_ 39) (.const (.int .i64 1))), o_ 6 (.mv (t_ 40))]
def f139g12 : List RO := [o_ 41 (.bin .add (t_ 11) (.const (.int .i64 1))), o_ 11 (.mv (t_ 41))]
def f139b13 : RCode := (.seq (.reg .false f139g4) (.seq (.cond (t_ 12) .skip (.exit 0)) (.seq (.block 1 (.seq (.reg .false f139g5) (.seq (.block 2 (.seq (.seq (.reg .false f139g6) (.cond (t_ 24) .skip (.reg .false f139g7))) (.cond (t_ 24) (.seq (.reg .false f139g8) .ret) (.reg .false f139g9)))) (.seq (.reg .false f139g10) (.cond (t_ 38) (.seq (.reg .false f139g11) (.exit 0)) .skip))))) (.reg .false f139g12))))
def f139g14 : List RO := [o_ 42 (.mv (t_ 6)), o_ 43 (.bin .eql (t_ 42) (.const (.int .i64 0)))]
def f139g15 : List RO := [o_ 2 (.mv (.const (.int .i64 0))), o_ 3 (.mv (.const (.int .i64 0))), o_ 4 (.mv (.const (.int .i64 10)))]
def f139g16 : List RO := [o_ 44 (.mv (t_ 5)), o_ 45 (.bin .shr (t_ 44) (.const (.int .u64 1))), o_ 46 (.cvI .i64 (t_ 45)), o_ 47 (.mv (t_ 5)), o_ 48 (.bin .and (t_ 47) (.const (.int .u64 1))), o_ 49 (.cvI .i64 (t_ 48)), o_ 50 (.un .neg (t_ 49)), o_ 51 (.bin .xor (t_ 46) (t_ 50)), o_ 52 (.mv (t_ 6)), o_ 2 (.mv (t_ 51)), o_ 3 (.mv (t_ 52)), o_ 4 (.mv (.const (.int .i64 0)))]
def f139c : RCode := (.seq (.reg .false f139g0) (.scope (.seq (.reg .false f139g1) (.seq (.reg .false f139g2) (.seq .skip (.seq (.seq (.reg .false f139g3) (.block 0 (.loop f139b13))) (.seq (.seq (.reg .false f139g14) (.cond (t_ 43) (.seq (.reg .false f139g15) .ret) .skip)) (.seq (.reg .false f139g16) .ret))))))))
def f139r : List RRes := [(.tmp 2), (.tmp 3), (.tmp 4)]
attribute [push_cast] f139g0 f139g1 f139g2 f139g3 f139g4 f139g5 f139g6 f139g7 f139g8 f139g9 f139g10 f139g11 f139g12 f139g14 f139g15 f139g16
def L_wire_GetInt_0 (N : Nat) (p0 : (List Int)) : Nat → Int → Int → Option (Int × Int × Int)
  | 0, _, _ => none
  | m1+1, a1, a2 => if? (decide (a2 < (p0.length : Int))) (get? p0 (a2) fun x3 => if? ((a2 == 9)) (if? (decide (x3 > 1)) (some (0, 0, 11)) (if? (decide (a2 > 0)) (if? ((x3 == 0)) (some (0, 0, 11)) (ck .i64 (7 * a2) (gd? (0 ≤ (7 * a2)) (gd? ((7 * a2) ≤ (IntKind.bits .u64 : Int)) (if? (decide (x3 < 128)) (ck .i64 (a2 + 1) (if? (((a2 + 1) == 0)) (some (0, 0, 10)) (ck .i64 (((bits .or .u64 a1 (IntKind.wrap .u64 ((IntKind.wrap .u64 ((bits .and .u8 x3 127))) * 2 ^ (7 * a2).toNat))) / 2 ^ (1 : Int).toNat)) (ck .i64 ((bits .and .u64 (bits .or .u64 a1 (IntKind.wrap .u64 ((IntKind.wrap .u64 ((bits .and .u8 x3 127))) * 2 ^ (7 * a2).toNat))) 1)) (ck .i64 (-((bits .and .u64 (bits .or .u64 a1 (IntKind.wrap .u64 ((IntKind.wrap .u64 ((bits .and .u8 x3 127))) * 2 ^ (7 * a2).toNat))) 1))) (some ((bits .xor .i64 (((bits .or .u64 a1 (IntKind.wrap .u64 ((IntKind.wrap .u64 ((bits .and .u8 x3 127))) * 2 ^ (7 * a2).toNat))) / 2 ^ (1 : Int).toNat)) (-((bits .and .u64 (bits .or .u64 a1 (IntKind.wrap .u64 ((IntKind.wrap .u64 ((bits .and .u8 x3 127))) * 2 ^ (7 * a2).toNat))) 1)))), (a2 + 1), 0))))))) (ck .i64 (a2 + 1) (L_wire_GetInt_0 N p0 m1 (bits .or .u64 a1 (IntKind.wrap .u64 ((IntKind.wrap .u64 ((bits .and .u8 x3 127))) * 2 ^ (7 * a2).toNat))) (a2 + 1)))))))) (ck .i64 (7 * a2) (gd? (0 ≤ (7 * a2)) (gd? ((7 * a2) ≤ (IntKind.bits .u64 : Int)) (if? (decide (x3 < 128)) (ck .i64 (a2 + 1) (if? (((a2 + 1) == 0)) (some (0, 0, 10)) (ck .i64 (((bits .or .u64 a1 (IntKind.wrap .u64 ((IntKind.wrap .u64 ((bits .and .u8 x3 127))) * 2 ^ (7 * a2).toNat))) / 2 ^ (1 : Int).toNat)) (ck .i64 ((bits .and .u64 (bits .or .u64 a1 (IntKind.wrap .u64 ((IntKind.wrap .u64 ((bits .and .u8 x3 127))) * 2 ^ (7 * a2).toNat))) 1)) (ck .i64 (-((bits .and .u64 (bits .or .u64 a1 (IntKind.wrap .u64 ((IntKind.wrap .u64 ((bits .and .u8 x3 127))) * 2 ^ (7 * a2).toNat))) 1))) (some ((bits .xor .i64 (((bits .or .u64 a1 (IntKind.wrap .u64 ((IntKind.wrap .u64 ((bits .and .u8 x3 127))) * 2 ^ (7 * a2).toNat))) / 2 ^ (1 : Int).toNat)) (-((bits .and .u64 (bits .or .u64 a1 (IntKind.wrap .u64 ((IntKind.wrap .u64 ((bits .and .u8 x3 127))) * 2 ^ (7 * a2).toNat))) 1)))), (a2 + 1), 0))))))) (ck .i64 (a2 + 1) (L_wire_GetInt_0 N p0 m1 (bits .or .u64 a1 (IntKind.wrap .u64 ((IntKind.wrap .u64 ((bits .and .u8 x3 127))) * 2 ^ (7 * a2).toNat))) (a2 + 1))))))))) (if? (decide (a2 > 0)) (if? ((x3 == 0)) (some (0, 0, 11)) (ck .i64 (7 * a2) (gd? (0 ≤ (7 * a2)) (gd? ((7 * a2) ≤ (IntKind.bits .u64 : Int)) (if? (decide (x3 < 128)) (ck .i64 (a2 + 1) (if? (((a2 + 1) == 0)) (some (0, 0, 10)) (ck .i64 (((bits .or .u64 a1 (IntKind.wrap .u64 ((IntKind.wrap .u64 ((bits .and .u8 x3 127))) * 2 ^ (7 * a2).toNat))) / 2 ^ (1 : Int).toNat)) (ck .i64 ((bits .and .u64 (bits .or .u64 a1 (IntKind.wrap .u64 ((IntKind.wrap .u64 ((bits .and .u8 x3 127))) * 2 ^ (7 * a2).toNat))) 1)) (ck .i64 (-((bits .and .u64 (bits .or .u64 a1 (IntKind.wrap .u64 ((IntKind.wrap .u64 ((bits .and .u8 x3 127))) * 2 ^ (7 * a2).toNat))) 1))) (some ((bits .xor .i64 (((bits .or .u64 a1 (IntKind.wrap .u64 ((IntKind.wrap .u64 ((bits .and .u8 x3 127))) * 2 ^ (7 * a2).toNat))) / 2 ^ (1 : Int).toNat)) (-((bits .and .u64 (bits .or .u64 a1 (IntKind.wrap .u64 ((IntKind.wrap .u64 ((bits .and .u8 x3 127))) * 2 ^ (7 * a2).toNat))) 1)))), (a2 + 1), 0))))))) (ck .i64 (a2 + 1) (L_wire_GetInt_0 N p0 m1 (bits .or .u64 a1 (IntKind.wrap .u64 ((IntKind.wrap .u64 ((bits .and .u8 x3 127))) * 2 ^ (7 * a2).toNat))) (a2 + 1)))))))) (ck .i64 (7 * a2) (gd? (0 ≤ (7 * a2)) (gd? ((7 * a2) ≤ (IntKind.bits .u64 : Int)) (if? (decide (x3 < 128)) (ck .i64 (a2 + 1) (if? (((a2 + 1) == 0)) (some (0, 0, 10)) (ck .i64 (((bits .or .u64 a1 (IntKind.wrap .u64 ((IntKind.wrap .u64 ((bits .and .u8 x3 127))) * 2 ^ (7 * a2).toNat))) / 2 ^ (1 : Int).toNat)) (ck .i64 ((bits .and .u64 (bits .or .u64 a1 (IntKind.wrap .u64 ((IntKind.wrap .u64 ((bits .and .u8 x3 127))) * 2 ^ (7 * a2).toNat))) 1)) (ck .i64 (-((bits .and .u64 (bits .or .u64 a1 (IntKind.wrap .u64 ((IntKind.wrap .u64 ((bits .and .u8 x3 127))) * 2 ^ (7 * a2).toNat))) 1))) (some ((bits .xor .i64 (((bits .or .u64 a1 (IntKind.wrap .u64 ((IntKind.wrap .u64 ((bits .and .u8 x3 127))) * 2 ^ (7 * a2).toNat))) / 2 ^ (1 : Int).toNat)) (-((bits .and .u64 (bits .or .u64 a1 (IntKind.wrap .u64 ((IntKind.wrap .u64 ((bits .and .u8 x3 127))) * 2 ^ (7 * a2).toNat))) 1)))), (a2 + 1), 0))))))) (ck .i64 (a2 + 1) (L_wire_GetInt_0 N p0 m1 (bits .or .u64 a1 (IntKind.wrap .u64 ((IntKind.wrap .u64 ((bits .and .u8 x3 127))) * 2 ^ (7 * a2).toNat))) (a2 + 1))))))))) (some (0, 0, 10))
def I_wire_GetInt_0 (N : Nat) (p0 : (List Int)) (r : (Int × Int × Int)) (n : Nat) (s : AState) : Prop := ∃ (a1 : Int) (a2 : Int), L_wire_GetInt_0 N p0 n a1 a2 = some r ∧ s = ⟨envL [(5, .D (.I .u64 a1)), (6, .D (.I .i64 0)), (9, .D (.L (p0.map (rI .u8)))), (10, .D (.I .i64 (p0.length : Int))), (11, .D (.I .i64 a2))], ownL [], ownL [], 0⟩
def F_wire_GetInt (N : Nat) (p0 : (List Int)) : Option (Int × Int × Int) := L_wire_GetInt_0 N p0 N 0 0
theorem c_wire_GetInt (N : Nat) (p0 : (List Int)) (r : (Int × Int × Int)) (h : F_wire_GetInt N p0 = some r) : ACall Tryd.prog 139 [.D (.L (p0.map (rI .u8)))] [] (.tup [.D (.I .i64 r.1), .D (.I .i64 r.2.1), .D (.I .i64 r.2.2)]) [] [] := by
 refine ACall.of_bodyW [] (fn := Tryd.f139) (rc := f139c) (rs := f139r) Tryd.func139 rfl rfl (by kernel_rfl) (by kernel_rfl) (by kernel_rfl) (by rw [Tryd.ntmps139]; simp) ?_
 unfold F_wire_GetInt at h
 unfold f139c f139r
 rw [entry_eq _ _]
 simp only[push_cast,seval]
 refine loop_of (I_wire_GetInt_0 N p0 _) N [5, 6, 9, 10, 11] [] (by decide) ⟨0, 0, h, ?_⟩ ?_
 ·rw [wk_mk]
  simp only[push_cast,seval] <;> rfl
 rintro n s ⟨a1, a2, h, rfl⟩
 rcases n with _ | m1
 ·exact absurd h (by simp [L_wire_GetInt_0])
 rw [L_wire_GetInt_0] at h
 unfold f139b13
 rcases F_if h with ⟨h1, h⟩ | ⟨h1, h⟩
 rotate_left
 ·obtain rfl := Option.some.inj h
  simp only[push_cast,seval,h1]
  refine e_ret (.inr rfl) ?_
  simp only[push_cast,seval,aret,aresults,aresult,h1]
  refine ⟨_, rfl, ?_⟩
  first | (simp only[push_cast,seval,h1] <;> rfl) | rfl
 obtain ⟨x3, h2, h3, h⟩ := F_get h
 have h4 := get_lt h2 h3
 have h5 := map_get (rI .u8) h3
 try simp only[push_cast,seval] at h5
 rcases F_if h with ⟨h6, h⟩ | ⟨h6, h⟩
 rotate_left
 ·rcases F_if h with ⟨h7, h⟩ | ⟨h7, h⟩
  rotate_left
  ·obtain ⟨h8, h⟩ := F_ck h
   try simp only[push_cast,seval] at h8
   obtain ⟨h9, h⟩ := F_gd h
   try simp only[push_cast,seval] at h9
   obtain ⟨h10, h⟩ := F_gd h
   try simp only[push_cast,seval] at h10
   rcases F_if h with ⟨h11, h⟩ | ⟨h11, h⟩
   rotate_left
   ·obtain ⟨h12, h⟩ := F_ck h
    try simp only[push_cast,seval] at h12
    simp only[push_cast,seval,h1,h2,h5,h4,h6,h7,h8,h9,h10,h11,h12]
    refine lpK_of m1 [5, 6, 9, 10, 11] [] (by omega) (by decide) ⟨(bits .or .u64 a1 (IntKind.wrap .u64 ((IntKind.wrap .u64 ((bits .and .u8 x3 127))) * 2 ^ (7 * a2).toNat))), (a2 + 1), (by first | exact h | simpa only [*] using h), ?_⟩
    rw [wk_mk]
    simp only[push_cast,seval,h1,h2,h5,h4,h6,h7,h8,h9,h10,h11,h12] <;> rfl
   obtain ⟨h13, h⟩ := F_ck h
   try simp only[push_cast,seval] at h13
   rcases F_if h with ⟨h14, h⟩ | ⟨h14, h⟩
   ·try simp only[push_cast,seval] at h14
    obtain rfl := Option.some.inj h
    simp only[push_cast,seval,h1,h2,h5,h4,h6,h7,h8,h9,h10,h11,h13,h14]
    refine e_ret (.inr rfl) ?_
    simp only[push_cast,seval,aret,aresults,aresult,h1,h2,h5,h4,h6,h7,h8,h9,h10,h11,h13,h14]
    refine ⟨_, rfl, ?_⟩
    first | (simp only[push_cast,seval,h1,h2,h5,h4,h6,h7,h8,h9,h10,h11,h13,h14] <;> rfl) | rfl
   try simp only[push_cast,seval] at h14
   obtain ⟨h15, h⟩ := F_ck h
   try simp only[push_cast,seval] at h15
   obtain ⟨h16, h⟩ := F_ck h
   try simp only[push_cast,seval] at h16
   obtain ⟨h17, h⟩ := F_ck h
   try simp only[push_cast,seval] at h17
   obtain rfl := Option.some.inj h
   simp only[push_cast,seval,h1,h2,h5,h4,h6,h7,h8,h9,h10,h11,h13,h14,h15,h16,h17]
   refine e_ret (.inr rfl) ?_
   simp only[push_cast,seval,aret,aresults,aresult,h1,h2,h5,h4,h6,h7,h8,h9,h10,h11,h13,h14,h15,h16,h17]
   refine ⟨_, rfl, ?_⟩
   first | (simp only[push_cast,seval,h1,h2,h5,h4,h6,h7,h8,h9,h10,h11,h13,h14,h15,h16,h17] <;> rfl) | rfl
  rcases F_if h with ⟨h18, h⟩ | ⟨h18, h⟩
  ·obtain rfl := Option.some.inj h
   simp only[push_cast,seval,h1,h2,h5,h4,h6,h7,h18]
   refine e_ret (.inr rfl) ?_
   simp only[push_cast,seval,aret,aresults,aresult,h1,h2,h5,h4,h6,h7,h18]
   refine ⟨_, rfl, ?_⟩
   first | (simp only[push_cast,seval,h1,h2,h5,h4,h6,h7,h18] <;> rfl) | rfl
  obtain ⟨h19, h⟩ := F_ck h
  try simp only[push_cast,seval] at h19
  obtain ⟨h20, h⟩ := F_gd h
  try simp only[push_cast,seval] at h20
  obtain ⟨h21, h⟩ := F_gd h
  try simp only[push_cast,seval] at h21
  rcases F_if h with ⟨h22, h⟩ | ⟨h22, h⟩
  rotate_left
  ·obtain ⟨h23, h⟩ := F_ck h
   try simp only[push_cast,seval] at h23
   simp only[push_cast,seval,h1,h2,h5,h4,h6,h7,h18,h19,h20,h21,h22,h23]
   refine lpK_of m1 [5, 6, 9, 10, 11] [] (by omega) (by decide) ⟨(bits .or .u64 a1 (IntKind.wrap .u64 ((IntKind.wrap .u64 ((bits .and .u8 x3 127))) * 2 ^ (7 * a2).toNat))), (a2 + 1), (by first | exact h | simpa only [*] using h), ?_⟩
   rw [wk_mk]
   simp only[push_cast,seval,h1,h2,h5,h4,h6,h7,h18,h19,h20,h21,h22,h23] <;> rfl
  obtain ⟨h24, h⟩ := F_ck h
  try simp only[push_cast,seval] at h24
  rcases F_if h with ⟨h25, h⟩ | ⟨h25, h⟩
  ·try simp only[push_cast,seval] at h25
   obtain rfl := Option.some.inj h
   simp only[push_cast,seval,h1,h2,h5,h4,h6,h7,h18,h19,h20,h21,h22,h24,h25]
   refine e_ret (.inr rfl) ?_
   simp only[push_cast,seval,aret,aresults,aresult,h1,h2,h5,h4,h6,h7,h18,h19,h20,h21,h22,h24,h25]
   refine ⟨_, rfl, ?_⟩
   first | (simp only[push_cast,seval,h1,h2,h5,h4,h6,h7,h18,h19,h20,h21,h22,h24,h25] <;> rfl) | rfl
  try simp only[push_cast,seval] at h25
  obtain ⟨h26, h⟩ := F_ck h
  try simp only[push_cast,seval] at h26
  obtain ⟨h27, h⟩ := F_ck h
  try simp only[push_cast,seval] at h27
  obtain ⟨h28, h⟩ := F_ck h
  try simp only[push_cast,seval] at h28
  obtain rfl := Option.some.inj h
  simp only[push_cast,seval,h1,h2,h5,h4,h6,h7,h18,h19,h20,h21,h22,h24,h25,h26,h27,h28]
  refine e_ret (.inr rfl) ?_
  simp only[push_cast,seval,aret,aresults,aresult,h1,h2,h5,h4,h6,h7,h18,h19,h20,h21,h22,h24,h25,h26,h27,h28]
  refine ⟨_, rfl, ?_⟩
  first | (simp only[push_cast,seval,h1,h2,h5,h4,h6,h7,h18,h19,h20,h21,h22,h24,h25,h26,h27,h28] <;> rfl) | rfl
 rcases F_if h with ⟨h29, h⟩ | ⟨h29, h⟩
 ·obtain rfl := Option.some.inj h
  simp only[push_cast,seval,h1,h2,h5,h4,h6,h29]
  refine e_ret (.inr rfl) ?_
  simp only[push_cast,seval,aret,aresults,aresult,h1,h2,h5,h4,h6,h29]
  refine ⟨_, rfl, ?_⟩
  first | (simp only[push_cast,seval,h1,h2,h5,h4,h6,h29] <;> rfl) | rfl
 rcases F_if h with ⟨h30, h⟩ | ⟨h30, h⟩
 rotate_left
 ·obtain ⟨h31, h⟩ := F_ck h
  try simp only[push_cast,seval] at h31
  obtain ⟨h32, h⟩ := F_gd h
  try simp only[push_cast,seval] at h32
  obtain ⟨h33, h⟩ := F_gd h
  try simp only[push_cast,seval] at h33
  rcases F_if h with ⟨h34, h⟩ | ⟨h34, h⟩
  rotate_left
  ·obtain ⟨h35, h⟩ := F_ck h
   try simp only[push_cast,seval] at h35
   simp only[push_cast,seval,h1,h2,h5,h4,h6,h29,h30,h31,h32,h33,h34,h35]
   refine lpK_of m1 [5, 6, 9, 10, 11] [] (by omega) (by decide) ⟨(bits .or .u64 a1 (IntKind.wrap .u64 ((IntKind.wrap .u64 ((bits .and .u8 x3 127))) * 2 ^ (7 * a2).toNat))), (a2 + 1), (by first | exact h | simpa only [*] using h), ?_⟩
   rw [wk_mk]
   simp only[push_cast,seval,h1,h2,h5,h4,h6,h29,h30,h31,h32,h33,h34,h35] <;> rfl
  obtain ⟨h36, h⟩ := F_ck h
  try simp only[push_cast,seval] at h36
  rcases F_if h with ⟨h37, h⟩ | ⟨h37, h⟩
  ·try simp only[push_cast,seval] at h37
   obtain rfl := Option.some.inj h
   simp only[push_cast,seval,h1,h2,h5,h4,h6,h29,h30,h31,h32,h33,h34,h36,h37]
   refine e_ret (.inr rfl) ?_
   simp only[push_cast,seval,aret,aresults,aresult,h1,h2,h5,h4,h6,h29,h30,h31,h32,h33,h34,h36,h37]
   refine ⟨_, rfl, ?_⟩
   first | (simp only[push_cast,seval,h1,h2,h5,h4,h6,h29,h30,h31,h32,h33,h34,h36,h37] <;> rfl) | rfl
  try simp only[push_cast,seval] at h37
  obtain ⟨h38, h⟩ := F_ck h
  try simp only[push_cast,seval] at h38
  obtain ⟨h39, h⟩ := F_ck h
  try simp only[push_cast,seval] at h39
  obtain ⟨h40, h⟩ := F_ck h
  try simp only[push_cast,seval] at h40
  obtain rfl := Option.some.inj h
  simp only[push_cast,seval,h1,h2,h5,h4,h6,h29,h30,h31,h32,h33,h34,h36,h37,h38,h39,h40]
  refine e_ret (.inr rfl) ?_
  simp only[push_cast,seval,aret,aresults,aresult,h1,h2,h5,h4,h6,h29,h30,h31,h32,h33,h34,h36,h37,h38,h39,h40]
  refine ⟨_, rfl, ?_⟩
  first | (simp only[push_cast,seval,h1,h2,h5,h4,h6,h29,h30,h31,h32,h33,h34,h36,h37,h38,h39,h40] <;> rfl) | rfl
 rcases F_if h with ⟨h41, h⟩ | ⟨h41, h⟩
 ·obtain rfl := Option.some.inj h
  simp only[push_cast,seval,h1,h2,h5,h4,h6,h29,h30,h41]
  refine e_ret (.inr rfl) ?_
  simp only[push_cast,seval,aret,aresults,aresult,h1,h2,h5,h4,h6,h29,h30,h41]
  refine ⟨_, rfl, ?_⟩
  first | (simp only[push_cast,seval,h1,h2,h5,h4,h6,h29,h30,h41] <;> rfl) | rfl
 obtain ⟨h42, h⟩ := F_ck h
 try simp only[push_cast,seval] at h42
 obtain ⟨h43, h⟩ := F_gd h
 try simp only[push_cast,seval] at h43
 obtain ⟨h44, h⟩ := F_gd h
 try simp only[push_cast,seval] at h44
 rcases F_if h with ⟨h45, h⟩ | ⟨h45, h⟩
 rotate_left
 ·obtain ⟨h46, h⟩ := F_ck h
  try simp only[push_cast,seval] at h46
  simp only[push_cast,seval,h1,h2,h5,h4,h6,h29,h30,h41,h42,h43,h44,h45,h46]
  refine lpK_of m1 [5, 6, 9, 10, 11] [] (by omega) (by decide) ⟨(bits .or .u64 a1 (IntKind.wrap .u64 ((IntKind.wrap .u64 ((bits .and .u8 x3 127))) * 2 ^ (7 * a2).toNat))), (a2 + 1), (by first | exact h | simpa only [*] using h), ?_⟩
  rw [wk_mk]
  simp only[push_cast,seval,h1,h2,h5,h4,h6,h29,h30,h41,h42,h43,h44,h45,h46] <;> rfl
 obtain ⟨h47, h⟩ := F_ck h
 try simp only[push_cast,seval] at h47
 rcases F_if h with ⟨h48, h⟩ | ⟨h48, h⟩
 ·try simp only[push_cast,seval] at h48
  obtain rfl := Option.some.inj h
  simp only[push_cast,seval,h1,h2,h5,h4,h6,h29,h30,h41,h42,h43,h44,h45,h47,h48]
  refine e_ret (.inr rfl) ?_
  simp only[push_cast,seval,aret,aresults,aresult,h1,h2,h5,h4,h6,h29,h30,h41,h42,h43,h44,h45,h47,h48]
  refine ⟨_, rfl, ?_⟩
  first | (simp only[push_cast,seval,h1,h2,h5,h4,h6,h29,h30,h41,h42,h43,h44,h45,h47,h48] <;> rfl) | rfl
 try simp only[push_cast,seval] at h48
 obtain ⟨h49, h⟩ := F_ck h
 try simp only[push_cast,seval] at h49
 obtain ⟨h50, h⟩ := F_ck h
 try simp only[push_cast,seval] at h50
 obtain ⟨h51, h⟩ := F_ck h
 try simp only[push_cast,seval] at h51
 obtain rfl := Option.some.inj h
 simp only[push_cast,seval,h1,h2,h5,h4,h6,h29,h30,h41,h42,h43,h44,h45,h47,h48,h49,h50,h51]
 refine e_ret (.inr rfl) ?_
 simp only[push_cast,seval,aret,aresults,aresult,h1,h2,h5,h4,h6,h29,h30,h41,h42,h43,h44,h45,h47,h48,h49,h50,h51]
 refine ⟨_, rfl, ?_⟩
 first | (simp only[push_cast,seval,h1,h2,h5,h4,h6,h29,h30,h41,h42,h43,h44,h45,h47,h48,h49,h50,h51] <;> rfl) | rfl

def f157g0 : List RO := [o_ 4 (.mv (.const (.int .i64 0))), o_ 5 (.mv (.const (.int .i64 0))), o_ 6 (.mv (.const (.int .i64 0)))]
def f157g1 : List RO := [o_ 11 (.mv (t_ 0)), o_ 12 (.call (.func 139) [(t_ 11)]), o_ 10 (.mv (t_ 12)), o_ 13 (.ext (t_ 10) 0), o_ 14 (.ext (t_ 10) 1), o_ 15 (.ext (t_ 10) 2), o_ 7 (.mv (t_ 13)), o_ 8 (.mv (t_ 14)), o_ 9 (.mv (t_ 15))]
def f157g2 : List RO := [o_ 17 (.mv (t_ 9)), o_ 18 (.bin .neq (t_ 17) (.const (.int .i64 0))), o_ 16 (.mv (t_ 18))]
def f157g3 : List RO := [o_ 19 (.mv (t_ 9)), o_ 4 (.mv (.const (.int .i64 0))), o_ 5 (.mv (.const (.int .i64 0))), o_ 6 (.mv (t_ 19))]
def f157g4 : List RO := [o_ 21 (.mv (t_ 7)), o_ 22 (.bin .lss (t_ 21) (.const (.int .i64 0))), o_ 20 (.mv (t_ 22))]
def f157g5 : List RO := [o_ 4 (.mv (.const (.int .i64 0))), o_ 5 (.mv (.const (.int .i64 0))), o_ 6 (.mv (.const (.int .i64 11)))]
def f157g6 : List RO := [o_ 24 (.mv (t_ 7)), o_ 25 (.mv (t_ 0)), o_ 26 (.len .false (t_ 25)), o_ 27 (.mv (t_ 8)), o_ 28 (.bin .sub (t_ 26) (t_ 27)), o_ 29 (.mv (t_ 1)), o_ 30 (.bin .quo (t_ 28) (t_ 29)), o_ 31 (.bin .gtr (t_ 24) (t_ 30)), o_ 23 (.mv (t_ 31))]
def f157g7 : List RO := [o_ 4 (.mv (.const (.int .i64 0))), o_ 5 (.mv (.const (.int .i64 0))), o_ 6 (.mv (.const (.int .i64 10)))]
def f157g8 : List RO := [o_ 32 (.mv (t_ 7)), o_ 33 (.mv (t_ 8)), o_ 4 (.mv (t_ 32)), o_ 5 (.mv (t_ 33)), o_ 6 (.mv (.const (.int .i64 0)))]
def f157c : RCode := (.seq (.reg .false f157g0) (.seq (.reg .false f157g1) (.seq (.block 0 (.seq (.reg .false f157g2) (.cond (t_ 16) (.seq (.reg .false f157g3) .ret) (.seq (.reg .false f157g4) (.cond (t_ 20) (.seq (.reg .false f157g5) .ret) (.seq (.reg .false f157g6) (.cond (t_ 23) (.seq (.reg .false f157g7) .ret) .skip))))))) (.seq (.reg .false f157g8) .ret))))
def f157r : List RRes := [(.tmp 4), (.tmp 5), (.tmp 6)]
attribute [push_cast] f157g0 f157g1 f157g2 f157g3 f157g4 f157g5 f157g6 f157g7 f157g8
def F_wire_length (N : Nat) (p0 : (List Int)) (p1 : Int) : Option (Int × Int × Int) := bd? (F_wire_GetInt N p0) fun v1 => if? ((v1.2.2 != 0)) (some (0, 0, v1.2.2)) (if? (decide (v1.1 < 0)) (some (0, 0, 11)) (ck .i64 ((p0.length : Int) - v1.2.1) (gd? (p1 ≠ 0) (ck .i64 (Int.tdiv ((p0.length : Int) - v1.2.1) p1) (if? (decide (v1.1 > (Int.tdiv ((p0.length : Int) - v1.2.1) p1))) (some (0, 0, 10)) (some (v1.1, v1.2.1, 0)))))))
theorem c_wire_length (N : Nat) (p0 : (List Int)) (p1 : Int) (r : (Int × Int × Int)) (h : F_wire_length N p0 p1 = some r) : ACall Tryd.prog 157 [.D (.L (p0.map (rI .u8))), .D (.I .i64 p1)] [] (.tup [.D (.I .i64 r.1), .D (.I .i64 r.2.1), .D (.I .i64 r.2.2)]) [] [] := by
 refine ACall.of_bodyW [] (fn := Tryd.f157) (rc := f157c) (rs := f157r) Tryd.func157 rfl rfl (by kernel_rfl) (by kernel_rfl) (by kernel_rfl) (by rw [Tryd.ntmps157]; simp) ?_
 unfold F_wire_length at h
 unfold f157c f157r
 rw [entry_eq _ _]
 obtain ⟨v1, h1, h⟩ := F_bd h
 simp only[push_cast,seval]
 refine call_flat (by rfl) (c_wire_GetInt N _ _ h1) ?_ rfl ?_
 ·simp only[push_cast,seval] <;> rfl
 rcases F_if h with ⟨h2, h⟩ | ⟨h2, h⟩
 ·obtain rfl := Option.some.inj h
  simp only[push_cast,seval,h2]
  refine e_ret (.inr rfl) ?_
  simp only[push_cast,seval,aret,aresults,aresult,h2]
  refine ⟨_, rfl, ?_⟩
  first | (simp only[push_cast,seval,h2] <;> rfl) | rfl
 rcases F_if h with ⟨h3, h⟩ | ⟨h3, h⟩
 ·obtain rfl := Option.some.inj h
  simp only[push_cast,seval,h2,h3]
  refine e_ret (.inr rfl) ?_
  simp only[push_cast,seval,aret,aresults,aresult,h2,h3]
  refine ⟨_, rfl, ?_⟩
  first | (simp only[push_cast,seval,h2,h3] <;> rfl) | rfl
 obtain ⟨h4, h⟩ := F_ck h
 try simp only[push_cast,seval] at h4
 obtain ⟨h5, h⟩ := F_gd h
 obtain ⟨h6, h⟩ := F_ck h
 try simp only[push_cast,seval] at h6
 rcases F_if h with ⟨h7, h⟩ | ⟨h7, h⟩
 ·try simp only[push_cast,seval] at h7
  obtain rfl := Option.some.inj h
  simp only[push_cast,seval,h2,h3,h4,h5,h6,h7]
  refine e_ret (.inr rfl) ?_
  simp only[push_cast,seval,aret,aresults,aresult,h2,h3,h4,h5,h6,h7]
  refine ⟨_, rfl, ?_⟩
  first | (simp only[push_cast,seval,h2,h3,h4,h5,h6,h7] <;> rfl) | rfl
 try simp only[push_cast,seval] at h7
 obtain rfl := Option.some.inj h
 simp only[push_cast,seval,h2,h3,h4,h5,h6,h7]
 refine e_ret (.inr rfl) ?_
 simp only[push_cast,seval,aret,aresults,aresult,h2,h3,h4,h5,h6,h7]
 refine ⟨_, rfl, ?_⟩
 first | (simp only[push_cast,seval,h2,h3,h4,h5,h6,h7] <;> rfl) | rfl

def f141g0 : List RO := [o_ 6 (.mv (.const (.slice .none 0 0))), o_ 7 (.mv (.const (.int .i64 0))), o_ 8 (.mv (.const (.int .i64 0)))]
def f141g1 : List RO := [o_ 17 (.mv (t_ 0)), o_ 18 (.mv (t_ 1)), o_ 19 (.call (.func 157) [(t_ 17), (t_ 18)]), o_ 16 (.mv (t_ 19)), o_ 20 (.ext (t_ 16) 0), o_ 21 (.ext (t_ 16) 1), o_ 22 (.ext (t_ 16) 2), o_ 9 (.mv (t_ 20)), o_ 10 (.mv (t_ 21)), o_ 11 (.mv (t_ 22))]
def f141g2 : List RO := [o_ 23 (.mv (t_ 11)), o_ 24 (.bin .neq (t_ 23) (.const (.int .i64 0)))]
def f141g3 : List RO := [o_ 25 (.mv (t_ 11)), o_ 6 (.mv (.const (.slice .none 0 0))), o_ 7 (.mv (.const (.int .i64 0))), o_ 8 (.mv (t_ 25))]
def f141g4 : List RO := [o_ 12 (.mv (.const (.slice .none 0 0)))]
def f141g5 : List RO := [o_ 26 (.mv (t_ 9)), o_ 27 (.mv (.const (.int .i64 0)))]
def f141g6 : List RO := [o_ 28 (.bin .lss (t_ 27) (t_ 26))]
def f141g7 : List RO := [o_ 30 (.mv (t_ 2)), o_ 31 (.mv (t_ 0)), o_ 32 (.mv (t_ 10)), o_ 33 (.sll 1 (t_ 31) (.some (t_ 32)) .none .none), o_ 34 (.call (t_ 30) [(t_ 33)]), o_ 29 (.mv (t_ 34)), o_ 35 (.ext (t_ 29) 0), o_ 36 (.ext (t_ 29) 1), o_ 37 (.ext (t_ 29) 2), o_ 13 (.mv (t_ 35)), o_ 14 (.mv (t_ 36)), o_ 15 (.mv (t_ 37))]
def f141g8 : List RO := [o_ 38 (.mv (t_ 15)), o_ 39 (.bin .neq (t_ 38) (.const (.int .i64 0)))]
def f141g9 : List RO := [o_ 40 (.mv (t_ 15)), o_ 6 (.mv (.const (.slice .none 0 0))), o_ 7 (.mv (.const (.int .i64 0))), o_ 8 (.mv (t_ 40))]
def f141g10 : List RO := [o_ 41 (.mv (t_ 12)), o_ 42 (.mv (t_ 13)), o_ 43 (.bslice 1 [(t_ 42)]), o_ 44 (.appE 1 8 (t_ 41) (t_ 43)), o_ 45 (.mv (t_ 10)), o_ 46 (.mv (t_ 14)), o_ 47 (.bin .add (t_ 45) (t_ 46)), o_ 12 (.mv (t_ 44)), o_ 10 (.mv (t_ 47))]
def f141g11 : List RO := [o_ 48 (.bin .add (t_ 27) (.const (.int .i64 1))), o_ 27 (.mv (t_ 48))]
def f141b12 : RCode := (.seq (.reg .false f141g6) (.seq (.cond (t_ 28) .skip (.exit 0)) (.seq (.block 1 (.seq (.reg .false f141g7) (.seq (.seq (.reg .false f141g8) (.cond (t_ 39) (.seq (.reg .false f141g9) .ret) .skip)) (.reg .false f141g10)))) (.reg .false f141g11))))
def f141g13 : List RO := [o_ 49 (.mv (t_ 12)), o_ 50 (.mv (t_ 10)), o_ 6 (.mv (t_ 49)), o_ 7 (.mv (t_ 50)), o_ 8 (.mv (.const (.int .i64 0)))]
def f141c : RCode := (.seq (.reg .false f141g0) (.seq (.reg .false f141g1) (.seq (.seq (.reg .false f141g2) (.cond (t_ 24) (.seq (.reg .false f141g3) .ret) .skip)) (.seq (.reg .false f141g4) (.seq (.seq (.reg .false f141g5) (.block 0 (.loop f141b12))) (.seq (.reg .false f141g13) .ret))))))
def f141r : List RRes := [(.tmp 6), (.tmp 7), (.tmp 8)]
attribute [push_cast] f141g0 f141g1 f141g2 f141g3 f141g4 f141g5 f141g6 f141g7 f141g8 f141g9 f141g10 f141g11 f141g13
def L_wire_get_int_0 (N : Nat) (p0 : (List Int)) (v1 : (Int × Int × Int)) : Nat → Int → Int → (List Int) → Option ((List Int) × Int × Int)
  | 0, _, _, _ => none
  | m1+1, a2, a3, a4 => if? (decide (a3 < v1.1)) (gd? (0 ≤ a2) (gd? (a2.toNat ≤ p0.length) (bd? (F_wire_GetInt N ((p0.drop a2.toNat).take (p0.length - a2.toNat))) fun v5 => if? ((v5.2.2 != 0)) (some ([], 0, v5.2.2)) (gd? ((a4.length + [v5.1].length) * 8 ≤ 140737488355328) (ck .i64 (a2 + v5.2.1) (ck .i64 (a3 + 1) (L_wire_get_int_0 N p0 v1 m1 (a2 + v5.2.1) (a3 + 1) (a4 ++ [v5.1])))))))) (some (a4, a2, 0))
def I_wire_get_int_0 (N : Nat) (p0 : (List Int)) (v1 : (Int × Int × Int)) (r : ((List Int) × Int × Int)) (n : Nat) (s : AState) : Prop := ∃ (a2 : Int) (a3 : Int) (a4 : (List Int)), L_wire_get_int_0 N p0 v1 n a2 a3 a4 = some r ∧ s = ⟨envL [(0, .D (.L (p0.map (rI .u8)))), (2, .clo 139 []), (10, .D (.I .i64 a2)), (12, .sl (.O 0) 1 0 a4.length), (26, .D (.I .i64 v1.1)), (27, .D (.I .i64 a3))], ownL [], ownL [some (.row true 1 (a4.map (rI .i64)))], 1⟩
def F_wire_get_int (N : Nat) (p0 : (List Int)) (p1 : Int) : Option ((List Int) × Int × Int) := bd? (F_wire_length N p0 p1) fun v1 => if? ((v1.2.2 != 0)) (some ([], 0, v1.2.2)) (L_wire_get_int_0 N p0 v1 N v1.2.1 0 [])
theorem c_wire_get_int (N : Nat) (p0 : (List Int)) (p1 : Int) (r : ((List Int) × Int × Int)) (h : F_wire_get_int N p0 p1 = some r) : ACall Tryd.prog 141 [.D (.L (p0.map (rI .u8))), .D (.I .i64 p1), .clo 139 []] [] (.tup [.sl (.O 0) 1 0 r.1.length, .D (.I .i64 r.2.1), .D (.I .i64 r.2.2)]) [] [.row true 1 (r.1.map (rI .i64))] := by
 refine ACall.of_bodyW [44] (fn := Tryd.f141) (rc := f141c) (rs := f141r) Tryd.func141 rfl rfl (by kernel_rfl) (by kernel_rfl) (by kernel_rfl) (by rw [Tryd.ntmps141]; simp) ?_
 unfold F_wire_get_int at h
 unfold f141c f141r
 rw [entry_eq _ _]
 obtain ⟨v1, h1, h⟩ := F_bd h
 simp only[push_cast,seval]
 refine call_flat (by rfl) (c_wire_length N _ _ _ h1) ?_ rfl ?_
 ·simp only[push_cast,seval] <;> rfl
 rcases F_if h with ⟨h2, h⟩ | ⟨h2, h⟩
 ·obtain rfl := Option.some.inj h
  simp only[push_cast,seval,h2]
  refine end_own0 6 1 rfl ?_
  simp only[push_cast,seval,h2]
  refine AEndW.of [0] (.inr rfl) (by decide) rfl ?_ rfl ?_
  ·simp only[push_cast,seval,h2] <;> rfl
  ·simp only[push_cast,seval,h2] <;> rfl
 simp only[push_cast,seval,h2]
 refine loop_own0 12 1 rfl ?_
 simp only[push_cast,seval,h2]
 refine loop_of (I_wire_get_int_0 N p0 v1 _) N [0, 2, 10, 12, 26, 27] [0] (by decide) ⟨v1.2.1, 0, [], h, ?_⟩ ?_
 ·rw [wk_mk]
  simp only[push_cast,seval,h2] <;> rfl
 rintro n s ⟨a2, a3, a4, h, rfl⟩
 rcases n with _ | m1
 ·exact absurd h (by simp [L_wire_get_int_0])
 rw [L_wire_get_int_0] at h
 unfold f141b12
 rcases F_if h with ⟨h3, h⟩ | ⟨h3, h⟩
 rotate_left
 ·obtain rfl := Option.some.inj h
  simp only[push_cast,seval,h2,h3]
  refine AEndW.of [0] (.inr rfl) (by decide) rfl ?_ rfl ?_
  ·simp only[push_cast,seval,h2,h3] <;> rfl
  ·simp only[push_cast,seval,h2,h3] <;> rfl
 obtain ⟨h4, h⟩ := F_gd h
 obtain ⟨h5, h⟩ := F_gd h
 try simp only[push_cast,seval] at h5
 obtain ⟨v5, h6, h⟩ := F_bd h
 simp only[push_cast,seval,h2,h3,h4,h5]
 refine call_flat (by rfl) (c_wire_GetInt N _ _ h6) ?_ rfl ?_
 ·simp only[push_cast,seval,h2,h3,h4,h5] <;> rfl
 rcases F_if h with ⟨h7, h⟩ | ⟨h7, h⟩
 ·obtain rfl := Option.some.inj h
  simp only[push_cast,seval,h2,h3,h4,h5,h7]
  refine end_own0 6 1 rfl ?_
  simp only[push_cast,seval,h2,h3,h4,h5,h7]
  refine AEndW.of [1] (.inr rfl) (by decide) rfl ?_ rfl ?_
  ·simp only[push_cast,seval,h2,h3,h4,h5,h7] <;> rfl
  ·simp only[push_cast,seval,h2,h3,h4,h5,h7] <;> rfl
 obtain ⟨h8, h⟩ := F_gd h
 try simp only[push_cast,seval] at h8
 obtain ⟨h9, h⟩ := F_ck h
 try simp only[push_cast,seval] at h9
 obtain ⟨h10, h⟩ := F_ck h
 try simp only[push_cast,seval] at h10
 simp only[push_cast,seval,h2,h3,h4,h5,h7,h8,h9,h10]
 refine lpK_of m1 [0, 2, 10, 12, 26, 27] [2] (by omega) (by decide) ⟨(a2 + v5.2.1), (a3 + 1), (a4 ++ [v5.1]), (by first | exact h | simpa only [*] using h), ?_⟩
 rw [wk_mk]
 simp only[push_cast,seval,h2,h3,h4,h5,h7,h8,h9,h10] <;> rfl

def f109g0 : List RO := [o_ 2 (.mv (.const (.slice .none 0 0))), o_ 3 (.mv (.const (.int .i64 0))), o_ 4 (.mv (.const (.int .i64 0)))]
def f109g1 : List RO := [o_ 5 (.mv (t_ 0)), o_ 6 (.call (.func 141) [(t_ 5), (.const (.int .i64 1)), (.func 139)]), o_ 7 (.ext (t_ 6) 0), o_ 8 (.ext (t_ 6) 1), o_ 9 (.ext (t_ 6) 2), o_ 2 (.mv (t_ 7)), o_ 3 (.mv (t_ 8)), o_ 4 (.mv (t_ 9))]
def f109c : RCode := (.seq (.reg .false f109g0) (.seq (.reg .false f109g1) .ret))
def f109r : List RRes := [(.tmp 2), (.tmp 3), (.tmp 4)]
attribute [push_cast] f109g0 f109g1
def F_wire_GetInts (N : Nat) (p0 : (List Int)) : Option ((List Int) × Int × Int) := bd? (F_wire_get_int N p0 1) fun v1 => some (v1.1, v1.2.1, v1.2.2)
theorem c_wire_GetInts (N : Nat) (p0 : (List Int)) (r : ((List Int) × Int × Int)) (h : F_wire_GetInts N p0 = some r) : ACall Tryd.prog 109 [.D (.L (p0.map (rI .u8)))] [] (.tup [.D (.L (r.1.map (rI .i64))), .D (.I .i64 r.2.1), .D (.I .i64 r.2.2)]) [] [] := by
 refine ACall.of_bodyW [] (fn := Tryd.f109) (rc := f109c) (rs := f109r) Tryd.func109 rfl rfl (by kernel_rfl) (by kernel_rfl) (by kernel_rfl) (by rw [Tryd.ntmps109]; simp) ?_
 unfold F_wire_GetInts at h
 unfold f109c f109r
 rw [entry_eq _ _]
 obtain ⟨v1, h1, h⟩ := F_bd h
 simp only[push_cast,seval]
 refine call_new (by rfl) (c_wire_get_int N _ _ _ h1) ?_ rfl ?_
 ·simp only[push_cast,seval] <;> rfl
 obtain rfl := Option.some.inj h
 simp only[push_cast,seval]
 refine e_ret (.inr rfl) ?_
 simp only[push_cast,seval,aret,aresults,aresult]
 refine ⟨_, rfl, ?_⟩
 first | (simp only[push_cast,seval] <;> rfl) | rfl

def f105g0 : List RO := [o_ 2 (.mv (t_ 0)), o_ 3 (.un .not (t_ 2))]
def f105g1 : List RO := [o_ 4 (.build [] []), o_ 5 (.mkI 221 (t_ 4)), n_ (.pan (t_ 5))]
def f105c : RCode := (.seq (.reg .false f105g0) (.cond (t_ 3) (.regP f105g1) .skip))
def f105r : List RRes := []
attribute [push_cast] f105g0 f105g1
def F_leaf_must (N : Nat) (p0 : Bool) : Option (Option Unit) := if? (p0) (some (some (()))) (some (none))
theorem c_leaf_must (N : Nat) (p0 : Bool) (r : (Option Unit)) (h : F_leaf_must N p0 = some r) : AOut Tryd.prog 105 [.D (.B p0)] (.iface 221 (.agg #[])) (Option.map (fun r : Unit => ((.tup [] : AV), ([] : List Blk))) r) := by
 refine AOut.of_body [] (fn := Tryd.f105) (rc := f105c) (rs := f105r) Tryd.func105 rfl rfl (by kernel_rfl) (by kernel_rfl) (by kernel_rfl) (by rw [Tryd.ntmps105]; simp) ?_
 unfold F_leaf_must at h
 unfold f105c f105r
 rw [entry_eq _ _]
 rcases F_if h with ⟨h1, h⟩ | ⟨h1, h⟩
 rotate_left
 ·obtain rfl := Option.some.inj h
  simp only[push_cast,seval,h1]
  exact endP_none0
 obtain rfl := Option.some.inj h
 simp only[push_cast,seval,h1]
 refine endP_some0 ?_
 simp only[push_cast,seval,h1]
 refine e_ret (.inl rfl) ?_
 simp only[push_cast,seval,aret,aresults,aresult,h1]
 refine ⟨_, rfl, ?_⟩
 first | (simp only[push_cast,seval,h1] <;> rfl) | rfl

def f155g0 : List RO := [o_ 2 (.mv (.const (.string ⟨#[]⟩))), o_ 3 (.mv (.const (.int .i64 0))), o_ 4 (.mv (.const (.int .i64 0)))]
def f155g1 : List RO := [o_ 9 (.mv (t_ 0)), o_ 10 (.call (.func 157) [(t_ 9), (.const (.int .i64 1))]), o_ 8 (.mv (t_ 10)), o_ 11 (.ext (t_ 8) 0), o_ 12 (.ext (t_ 8) 1), o_ 13 (.ext (t_ 8) 2), o_ 5 (.mv (t_ 11)), o_ 6 (.mv (t_ 12)), o_ 7 (.mv (t_ 13))]
def f155g2 : List RO := [o_ 14 (.mv (t_ 7)), o_ 15 (.bin .neq (t_ 14) (.const (.int .i64 0)))]
def f155g3 : List RO := [o_ 16 (.mv (t_ 7)), o_ 2 (.mv (.const (.string ⟨#[]⟩))), o_ 3 (.mv (.const (.int .i64 0))), o_ 4 (.mv (t_ 16))]
def f155g4 : List RO := [o_ 17 (.mv (t_ 0)), o_ 18 (.mv (t_ 6)), o_ 19 (.mv (t_ 6)), o_ 20 (.mv (t_ 5)), o_ 21 (.bin .add (t_ 19) (t_ 20)), o_ 22 (.sll 1 (t_ 17) (.some (t_ 18)) (.some (t_ 21)) .none), o_ 23 (.cvS (t_ 22)), o_ 24 (.mv (t_ 6)), o_ 25 (.mv (t_ 5)), o_ 26 (.bin .add (t_ 24) (t_ 25)), o_ 2 (.mv (t_ 23)), o_ 3 (.mv (t_ 26)), o_ 4 (.mv (.const (.int .i64 0)))]
def f155c : RCode := (.seq (.reg .false f155g0) (.seq (.reg .false f155g1) (.seq (.seq (.reg .false f155g2) (.cond (t_ 15) (.seq (.reg .false f155g3) .ret) .skip)) (.seq (.reg .false f155g4) .ret))))
def f155r : List RRes := [(.tmp 2), (.tmp 3), (.tmp 4)]
attribute [push_cast] f155g0 f155g1 f155g2 f155g3 f155g4
def F_wire_GetBytes (N : Nat) (p0 : (List Int)) : Option (Str × Int × Int) := bd? (F_wire_length N p0 1) fun v1 => if? ((v1.2.2 != 0)) (some (([] : Str), 0, v1.2.2)) (ck .i64 (v1.2.1 + v1.1) (gd? (0 ≤ v1.2.1) (gd? (0 ≤ (v1.2.1 + v1.1)) (gd? (v1.2.1.toNat ≤ (v1.2.1 + v1.1).toNat) (gd? ((v1.2.1 + v1.1).toNat ≤ p0.length) (some ((bytesI ((p0.drop v1.2.1.toNat).take ((v1.2.1 + v1.1).toNat - v1.2.1.toNat))), (v1.2.1 + v1.1), 0)))))))
theorem c_wire_GetBytes (N : Nat) (p0 : (List Int)) (r : (Str × Int × Int)) (h : F_wire_GetBytes N p0 = some r) : ACall Tryd.prog 155 [.D (.L (p0.map (rI .u8)))] [] (.tup [.D (.S r.1), .D (.I .i64 r.2.1), .D (.I .i64 r.2.2)]) [] [] := by
 refine ACall.of_bodyW [] (fn := Tryd.f155) (rc := f155c) (rs := f155r) Tryd.func155 rfl rfl (by kernel_rfl) (by kernel_rfl) (by kernel_rfl) (by rw [Tryd.ntmps155]; simp) ?_
 unfold F_wire_GetBytes at h
 unfold f155c f155r
 rw [entry_eq _ _]
 obtain ⟨v1, h1, h⟩ := F_bd h
 simp only[push_cast,seval]
 refine call_flat (by rfl) (c_wire_length N _ _ _ h1) ?_ rfl ?_
 ·simp only[push_cast,seval] <;> rfl
 rcases F_if h with ⟨h2, h⟩ | ⟨h2, h⟩
 ·obtain rfl := Option.some.inj h
  simp only[push_cast,seval,h2]
  refine e_ret (.inr rfl) ?_
  simp only[push_cast,seval,aret,aresults,aresult,h2]
  refine ⟨_, rfl, ?_⟩
  first | (simp only[push_cast,seval,h2] <;> rfl) | rfl
 obtain ⟨h3, h⟩ := F_ck h
 try simp only[push_cast,seval] at h3
 obtain ⟨h4, h⟩ := F_gd h
 obtain ⟨h5, h⟩ := F_gd h
 try simp only[push_cast,seval] at h5
 obtain ⟨h6, h⟩ := F_gd h
 try simp only[push_cast,seval] at h6
 obtain ⟨h7, h⟩ := F_gd h
 try simp only[push_cast,seval] at h7
 obtain rfl := Option.some.inj h
 simp only[push_cast,seval,h2,h3,h4,h5,h6,h7]
 refine e_ret (.inr rfl) ?_
 simp only[push_cast,seval,aret,aresults,aresult,h2,h3,h4,h5,h6,h7]
 refine ⟨_, rfl, ?_⟩
 first | (simp only[push_cast,seval,h2,h3,h4,h5,h6,h7] <;> rfl) | rfl

def f154g0 : List RO := [o_ 6 (.mv (.const (.slice .none 0 0))), o_ 7 (.mv (.const (.int .i64 0))), o_ 8 (.mv (.const (.int .i64 0)))]
def f154g1 : List RO := [o_ 17 (.mv (t_ 0)), o_ 18 (.mv (t_ 1)), o_ 19 (.call (.func 157) [(t_ 17), (t_ 18)]), o_ 16 (.mv (t_ 19)), o_ 20 (.ext (t_ 16) 0), o_ 21 (.ext (t_ 16) 1), o_ 22 (.ext (t_ 16) 2), o_ 9 (.mv (t_ 20)), o_ 10 (.mv (t_ 21)), o_ 11 (.mv (t_ 22))]
def f154g2 : List RO := [o_ 23 (.mv (t_ 11)), o_ 24 (.bin .neq (t_ 23) (.const (.int .i64 0)))]
def f154g3 : List RO := [o_ 25 (.mv (t_ 11)), o_ 6 (.mv (.const (.slice .none 0 0))), o_ 7 (.mv (.const (.int .i64 0))), o_ 8 (.mv (t_ 25))]
def f154g4 : List RO := [o_ 12 (.mv (.const (.slice .none 0 0)))]
def f154g5 : List RO := [o_ 26 (.mv (t_ 9)), o_ 27 (.mv (.const (.int .i64 0)))]
def f154g6 : List RO := [o_ 28 (.bin .lss (t_ 27) (t_ 26))]
def f154g7 : List RO := [o_ 30 (.mv (t_ 2)), o_ 31 (.mv (t_ 0)), o_ 32 (.mv (t_ 10)), o_ 33 (.sll 1 (t_ 31) (.some (t_ 32)) .none .none), o_ 34 (.call (t_ 30) [(t_ 33)]), o_ 29 (.mv (t_ 34)), o_ 35 (.ext (t_ 29) 0), o_ 36 (.ext (t_ 29) 1), o_ 37 (.ext (t_ 29) 2), o_ 13 (.mv (t_ 35)), o_ 14 (.mv (t_ 36)), o_ 15 (.mv (t_ 37))]
def f154g8 : List RO := [o_ 38 (.mv (t_ 15)), o_ 39 (.bin .neq (t_ 38) (.const (.int .i64 0)))]
def f154g9 : List RO := [o_ 40 (.mv (t_ 15)), o_ 6 (.mv (.const (.slice .none 0 0))), o_ 7 (.mv (.const (.int .i64 0))), o_ 8 (.mv (t_ 40))]
def f154g10 : List RO := [o_ 41 (.mv (t_ 12)), o_ 42 (.mv (t_ 13)), o_ 43 (.bslice 1 [(t_ 42)]), o_ 44 (.appE 1 16 (t_ 41) (t_ 43)), o_ 45 (.mv (t_ 10)), o_ 46 (.mv (t_ 14)), o_ 47 (.bin .add (t_ 45) (t_ 46)), o_ 12 (.mv (t_ 44)), o_ 10 (.mv (t_ 47))]
def f154g11 : List RO := [o_ 48 (.bin .add (t_ 27) (.const (.int .i64 1))), o_ 27 (.mv (t_ 48))]
def f154b12 : RCode := (.seq (.reg .false f154g6) (.seq (.cond (t_ 28) .skip (.exit 0)) (.seq (.block 1 (.seq (.reg .false f154g7) (.seq (.seq (.reg .false f154g8) (.cond (t_ 39) (.seq (.reg .false f154g9) .ret) .skip)) (.reg .false f154g10)))) (.reg .false f154g11))))
def f154g13 : List RO := [o_ 49 (.mv (t_ 12)), o_ 50 (.mv (t_ 10)), o_ 6 (.mv (t_ 49)), o_ 7 (.mv (t_ 50)), o_ 8 (.mv (.const (.int .i64 0)))]
def f154c : RCode := (.seq (.reg .false f154g0) (.seq (.reg .false f154g1) (.seq (.seq (.reg .false f154g2) (.cond (t_ 24) (.seq (.reg .false f154g3) .ret) .skip)) (.seq (.reg .false f154g4) (.seq (.seq (.reg .false f154g5) (.block 0 (.loop f154b12))) (.seq (.reg .false f154g13) .ret))))))
def f154r : List RRes := [(.tmp 6), (.tmp 7), (.tmp 8)]
attribute [push_cast] f154g0 f154g1 f154g2 f154g3 f154g4 f154g5 f154g6 f154g7 f154g8 f154g9 f154g10 f154g11 f154g13
def L_wire_get_string_0 (N : Nat) (p0 : (List Int)) (v1 : (Int × Int × Int)) : Nat → Int → Int → (List Str) → Option ((List Str) × Int × Int)
  | 0, _, _, _ => none
  | m1+1, a2, a3, a4 => if? (decide (a3 < v1.1)) (gd? (0 ≤ a2) (gd? (a2.toNat ≤ p0.length) (bd? (F_wire_GetBytes N ((p0.drop a2.toNat).take (p0.length - a2.toNat))) fun v5 => if? ((v5.2.2 != 0)) (some ([], 0, v5.2.2)) (gd? ((a4.length + [v5.1].length) * 16 ≤ 140737488355328) (ck .i64 (a2 + v5.2.1) (ck .i64 (a3 + 1) (L_wire_get_string_0 N p0 v1 m1 (a2 + v5.2.1) (a3 + 1) (a4 ++ [v5.1])))))))) (some (a4, a2, 0))
def I_wire_get_string_0 (N : Nat) (p0 : (List Int)) (v1 : (Int × Int × Int)) (r : ((List Str) × Int × Int)) (n : Nat) (s : AState) : Prop := ∃ (a2 : Int) (a3 : Int) (a4 : (List Str)), L_wire_get_string_0 N p0 v1 n a2 a3 a4 = some r ∧ s = ⟨envL [(0, .D (.L (p0.map (rI .u8)))), (2, .clo 155 []), (10, .D (.I .i64 a2)), (12, .sl (.O 0) 1 0 a4.length), (26, .D (.I .i64 v1.1)), (27, .D (.I .i64 a3))], ownL [], ownL [some (.row true 1 (a4.map rS))], 1⟩
def F_wire_get_string (N : Nat) (p0 : (List Int)) (p1 : Int) : Option ((List Str) × Int × Int) := bd? (F_wire_length N p0 p1) fun v1 => if? ((v1.2.2 != 0)) (some ([], 0, v1.2.2)) (L_wire_get_string_0 N p0 v1 N v1.2.1 0 [])
theorem c_wire_get_string (N : Nat) (p0 : (List Int)) (p1 : Int) (r : ((List Str) × Int × Int)) (h : F_wire_get_string N p0 p1 = some r) : ACall Tryd.prog 154 [.D (.L (p0.map (rI .u8))), .D (.I .i64 p1), .clo 155 []] [] (.tup [.sl (.O 0) 1 0 r.1.length, .D (.I .i64 r.2.1), .D (.I .i64 r.2.2)]) [] [.row true 1 (r.1.map rS)] := by
 refine ACall.of_bodyW [44] (fn := Tryd.f154) (rc := f154c) (rs := f154r) Tryd.func154 rfl rfl (by kernel_rfl) (by kernel_rfl) (by kernel_rfl) (by rw [Tryd.ntmps154]; simp) ?_
 unfold F_wire_get_string at h
 unfold f154c f154r
 rw [entry_eq _ _]
 obtain ⟨v1, h1, h⟩ := F_bd h
 simp only[push_cast,seval]
 refine call_flat (by rfl) (c_wire_length N _ _ _ h1) ?_ rfl ?_
 ·simp only[push_cast,seval] <;> rfl
 rcases F_if h with ⟨h2, h⟩ | ⟨h2, h⟩
 ·obtain rfl := Option.some.inj h
  simp only[push_cast,seval,h2]
  refine end_own0 6 1 rfl ?_
  simp only[push_cast,seval,h2]
  refine AEndW.of [0] (.inr rfl) (by decide) rfl ?_ rfl ?_
  ·simp only[push_cast,seval,h2] <;> rfl
  ·simp only[push_cast,seval,h2] <;> rfl
 simp only[push_cast,seval,h2]
 refine loop_own0 12 1 rfl ?_
 simp only[push_cast,seval,h2]
 refine loop_of (I_wire_get_string_0 N p0 v1 _) N [0, 2, 10, 12, 26, 27] [0] (by decide) ⟨v1.2.1, 0, [], h, ?_⟩ ?_
 ·rw [wk_mk]
  simp only[push_cast,seval,h2] <;> rfl
 rintro n s ⟨a2, a3, a4, h, rfl⟩
 rcases n with _ | m1
 ·exact absurd h (by simp [L_wire_get_string_0])
 rw [L_wire_get_string_0] at h
 unfold f154b12
 rcases F_if h with ⟨h3, h⟩ | ⟨h3, h⟩
 rotate_left
 ·obtain rfl := Option.some.inj h
  simp only[push_cast,seval,h2,h3]
  refine AEndW.of [0] (.inr rfl) (by decide) rfl ?_ rfl ?_
  ·simp only[push_cast,seval,h2,h3] <;> rfl
  ·simp only[push_cast,seval,h2,h3] <;> rfl
 obtain ⟨h4, h⟩ := F_gd h
 obtain ⟨h5, h⟩ := F_gd h
 try simp only[push_cast,seval] at h5
 obtain ⟨v5, h6, h⟩ := F_bd h
 simp only[push_cast,seval,h2,h3,h4,h5]
 refine call_flat (by rfl) (c_wire_GetBytes N _ _ h6) ?_ rfl ?_
 ·simp only[push_cast,seval,h2,h3,h4,h5] <;> rfl
 rcases F_if h with ⟨h7, h⟩ | ⟨h7, h⟩
 ·obtain rfl := Option.some.inj h
  simp only[push_cast,seval,h2,h3,h4,h5,h7]
  refine end_own0 6 1 rfl ?_
  simp only[push_cast,seval,h2,h3,h4,h5,h7]
  refine AEndW.of [1] (.inr rfl) (by decide) rfl ?_ rfl ?_
  ·simp only[push_cast,seval,h2,h3,h4,h5,h7] <;> rfl
  ·simp only[push_cast,seval,h2,h3,h4,h5,h7] <;> rfl
 obtain ⟨h8, h⟩ := F_gd h
 try simp only[push_cast,seval] at h8
 obtain ⟨h9, h⟩ := F_ck h
 try simp only[push_cast,seval] at h9
 obtain ⟨h10, h⟩ := F_ck h
 try simp only[push_cast,seval] at h10
 simp only[push_cast,seval,h2,h3,h4,h5,h7,h8,h9,h10]
 refine lpK_of m1 [0, 2, 10, 12, 26, 27] [2] (by omega) (by decide) ⟨(a2 + v5.2.1), (a3 + 1), (a4 ++ [v5.1]), (by first | exact h | simpa only [*] using h), ?_⟩
 rw [wk_mk]
 simp only[push_cast,seval,h2,h3,h4,h5,h7,h8,h9,h10] <;> rfl

def f137g0 : List RO := [o_ 2 (.mv (.const (.slice .none 0 0))), o_ 3 (.mv (.const (.int .i64 0))), o_ 4 (.mv (.const (.int .i64 0)))]
def f137g1 : List RO := [o_ 5 (.mv (t_ 0)), o_ 6 (.call (.func 154) [(t_ 5), (.const (.int .i64 1)), (.func 155)]), o_ 7 (.ext (t_ 6) 0), o_ 8 (.ext (t_ 6) 1), o_ 9 (.ext (t_ 6) 2), o_ 2 (.mv (t_ 7)), o_ 3 (.mv (t_ 8)), o_ 4 (.mv (t_ 9))]
def f137c : RCode := (.seq (.reg .false f137g0) (.seq (.reg .false f137g1) .ret))
def f137r : List RRes := [(.tmp 2), (.tmp 3), (.tmp 4)]
attribute [push_cast] f137g0 f137g1
def F_wire_GetStrings (N : Nat) (p0 : (List Int)) : Option ((List Str) × Int × Int) := bd? (F_wire_get_string N p0 1) fun v1 => some (v1.1, v1.2.1, v1.2.2)
theorem c_wire_GetStrings (N : Nat) (p0 : (List Int)) (r : ((List Str) × Int × Int)) (h : F_wire_GetStrings N p0 = some r) : ACall Tryd.prog 137 [.D (.L (p0.map (rI .u8)))] [] (.tup [.D (.L (r.1.map rS)), .D (.I .i64 r.2.1), .D (.I .i64 r.2.2)]) [] [] := by
 refine ACall.of_bodyW [] (fn := Tryd.f137) (rc := f137c) (rs := f137r) Tryd.func137 rfl rfl (by kernel_rfl) (by kernel_rfl) (by kernel_rfl) (by rw [Tryd.ntmps137]; simp) ?_
 unfold F_wire_GetStrings at h
 unfold f137c f137r
 rw [entry_eq _ _]
 obtain ⟨v1, h1, h⟩ := F_bd h
 simp only[push_cast,seval]
 refine call_new (by rfl) (c_wire_get_string N _ _ _ h1) ?_ rfl ?_
 ·simp only[push_cast,seval] <;> rfl
 obtain rfl := Option.some.inj h
 simp only[push_cast,seval]
 refine e_ret (.inr rfl) ?_
 simp only[push_cast,seval,aret,aresults,aresult]
 refine ⟨_, rfl, ?_⟩
 first | (simp only[push_cast,seval] <;> rfl) | rfl

def f103g0 : List RO := [o_ 8 (.mv (.const (.slice .none 0 0))), o_ 9 (.mv (.const (.slice .none 0 0)))]
def f103g1 : List RO := [o_ 16 (.mv (t_ 0)), o_ 17 (.cvB (t_ 16)), o_ 18 (.call (.func 109) [(t_ 17)]), o_ 15 (.mv (t_ 18)), o_ 19 (.ext (t_ 15) 0), o_ 20 (.ext (t_ 15) 1), o_ 21 (.ext (t_ 15) 2), o_ 10 (.mv (t_ 19)), o_ 11 (.mv (t_ 20)), o_ 12 (.mv (t_ 21))]
def f103g2 : List RO := [o_ 22 (.mv (t_ 12)), o_ 23 (.bin .eql (t_ 22) (.const (.int .i64 0))), o_ 24 (.mv (t_ 23)), ⟨(.some 25), (.mv (t_ 10)), (.some (24, .true))⟩, ⟨(.some 26), (.len .false (t_ 25)), (.some (24, .true))⟩, ⟨(.some 27), (.mv (t_ 2)), (.some (24, .true))⟩, ⟨(.some 28), (.bin .eql (t_ 26) (t_ 27)), (.some (24, .true))⟩, o_ 29 (.pick (t_ 24) (t_ 28) (.const (.bool .false))), o_ 30 (.mv (t_ 29)), ⟨(.some 31), (.mv (t_ 10)), (.some (30, .true))⟩, ⟨(.some 32), (.iaddr 1 (t_ 31) (.const (.int .i64 0))), (.some (30, .true))⟩, ⟨(.some 33), (.load .none (t_ 32)), (.some (30, .true))⟩, ⟨(.some 34), (.mv (t_ 1)), (.some (30, .true))⟩, ⟨(.some 35), (.bin .eql (t_ 33) (t_ 34)), (.some (30, .true))⟩, o_ 36 (.pick (t_ 30) (t_ 35) (.const (.bool .false))), o_ 37 (.callP (.func 105) [(t_ 36)])]
def f103g3 : List RO := [o_ 38 (.mv (t_ 3)), o_ 39 (.un .not (t_ 38))]
def f103g4 : List RO := [o_ 40 (.mv (t_ 11)), o_ 41 (.mv (t_ 0)), o_ 42 (.len .true (t_ 41)), o_ 43 (.bin .eql (t_ 40) (t_ 42)), o_ 44 (.callP (.func 105) [(t_ 43)])]
def f103g5 : List RO := [o_ 45 (.mv (t_ 10)), o_ 8 (.mv (t_ 45)), o_ 9 (.mv (.const (.slice .none 0 0)))]
def f103g6 : List RO := [o_ 47 (.mv (t_ 0)), o_ 48 (.mv (t_ 11)), o_ 49 (.sls (t_ 47) (.some (t_ 48)) .none), o_ 50 (.cvB (t_ 49)), o_ 51 (.call (.func 137) [(t_ 50)]), o_ 46 (.mv (t_ 51)), o_ 52 (.ext (t_ 46) 0), o_ 53 (.ext (t_ 46) 1), o_ 54 (.ext (t_ 46) 2), o_ 13 (.mv (t_ 52)), o_ 14 (.mv (t_ 53)), o_ 12 (.mv (t_ 54))]
def f103g7 : List RO := [o_ 55 (.mv (t_ 12)), o_ 56 (.bin .eql (t_ 55) (.const (.int .i64 0))), o_ 57 (.mv (t_ 56)), ⟨(.some 58), (.mv (t_ 11)), (.some (57, .true))⟩, ⟨(.some 59), (.mv (t_ 14)), (.some (57, .true))⟩, ⟨(.some 60), (.bin .add (t_ 58) (t_ 59)), (.some (57, .true))⟩, ⟨(.some 61), (.mv (t_ 0)), (.some (57, .true))⟩, ⟨(.some 62), (.len .true (t_ 61)), (.some (57, .true))⟩, ⟨(.some 63), (.bin .eql (t_ 60) (t_ 62)), (.some (57, .true))⟩, o_ 64 (.pick (t_ 57) (t_ 63) (.const (.bool .false))), o_ 65 (.callP (.func 105) [(t_ 64)])]
def f103g8 : List RO := [o_ 66 (.mv (t_ 10)), o_ 67 (.mv (t_ 13)), o_ 8 (.mv (t_ 66)), o_ 9 (.mv (t_ 67))]
def f103c : RCode := (.seq (.reg .false f103g0) (.seq (.reg .false f103g1) (.seq (.regP f103g2) (.seq (.seq (.reg .false f103g3) (.cond (t_ 39) (.seq (.regP f103g4) (.seq (.reg .false f103g5) .ret)) .skip)) (.seq (.reg .false f103g6) (.seq (.regP f103g7) (.seq (.reg .false f103g8) .ret)))))))
def f103r : List RRes := [(.tmp 8), (.tmp 9)]
attribute [push_cast] f103g0 f103g1 f103g2 f103g3 f103g4 f103g5 f103g6 f103g7 f103g8
def F_leaf_head (N : Nat) (p0 : Str) (p1 : Int) (p2 : Int) (p3 : Bool) : Option (Option ((List Int) × (List Str))) := bd? (F_wire_GetInts N (intsS p0)) fun v1 => if? ((v1.2.2 == 0)) (if? (((v1.1.length : Int) == p2)) (get? v1.1 (0) fun x2 => bdp? (F_leaf_must N (x2 == p1)) (some (none)) fun v3 => if? (p3) (gd? (0 ≤ v1.2.1) (gd? (v1.2.1.toNat ≤ p0.length) (bd? (F_wire_GetStrings N (intsS ((p0.drop v1.2.1.toNat).take (p0.length - v1.2.1.toNat)))) fun v4 => if? ((v4.2.2 == 0)) (ck .i64 (v1.2.1 + v4.2.1) (bdp? (F_leaf_must N ((v1.2.1 + v4.2.1) == (p0.length : Int))) (some (none)) fun v5 => some (some (v1.1, v4.1)))) (bdp? (F_leaf_must N false) (some (none)) fun v6 => none)))) (bdp? (F_leaf_must N (v1.2.1 == (p0.length : Int))) (some (none)) fun v7 => some (some (v1.1, [])))) (bdp? (F_leaf_must N false) (some (none)) fun v8 => none)) (bdp? (F_leaf_must N false) (some (none)) fun v9 => none)
theorem c_leaf_head (N : Nat) (p0 : Str) (p1 : Int) (p2 : Int) (p3 : Bool) (r : (Option ((List Int) × (List Str)))) (h : F_leaf_head N p0 p1 p2 p3 = some r) : AOut Tryd.prog 103 [.D (.S p0), .D (.I .i64 p1), .D (.I .i64 p2), .D (.B p3)] (.iface 221 (.agg #[])) (Option.map (fun r : ((List Int) × (List Str)) => ((.tup [.D (.L (r.1.map (rI .i64))), .D (.L (r.2.map rS))] : AV), ([] : List Blk))) r) := by
 refine AOut.of_body [4000105] (fn := Tryd.f103) (rc := f103c) (rs := f103r) Tryd.func103 rfl rfl (by kernel_rfl) (by kernel_rfl) (by kernel_rfl) (by rw [Tryd.ntmps103]; simp) ?_
 unfold F_leaf_head at h
 unfold f103c f103r
 rw [entry_eq _ _]
 obtain ⟨v1, h1, h⟩ := F_bd h
 simp only[push_cast,seval]
 refine call_new (by rfl) (c_wire_GetInts N _ _ h1) ?_ rfl ?_
 ·simp only[push_cast,seval] <;> rfl
 rcases F_if h with ⟨h2, h⟩ | ⟨h2, h⟩
 rotate_left
 ·rcases F_bdp h with ⟨h3, h⟩ | ⟨v9, h3, h⟩
  rotate_left
  ·cases h
  simp only[push_cast,seval,h2]
  refine callP_pn (by rfl) (c_leaf_must N _ _ h3) ?_ ?_
  ·simp only[push_cast,seval,h2] <;> rfl
  obtain rfl := Option.some.inj h
  simp only[push_cast,seval,h2]
  exact endP_none0
 rcases F_if h with ⟨h4, h⟩ | ⟨h4, h⟩
 rotate_left
 ·rcases F_bdp h with ⟨h5, h⟩ | ⟨v8, h5, h⟩
  rotate_left
  ·cases h
  simp only[push_cast,seval,h2,h4]
  refine callP_pn (by rfl) (c_leaf_must N _ _ h5) ?_ ?_
  ·simp only[push_cast,seval,h2,h4] <;> rfl
  obtain rfl := Option.some.inj h
  simp only[push_cast,seval,h2,h4]
  exact endP_none0
 obtain ⟨x2, h6, h7, h⟩ := F_get h
 have h8 := get_lt h6 h7
 have h9 := map_get (rI .i64) h7
 try simp only[push_cast,seval] at h9
 rcases F_bdp h with ⟨h10, h⟩ | ⟨v3, h10, h⟩
 ·simp only[push_cast,seval,h2,h4,h6,h9,h8]
  refine callP_pn (by rfl) (c_leaf_must N _ _ h10) ?_ ?_
  ·simp only[push_cast,seval,h2,h4,h6,h9,h8] <;> rfl
  obtain rfl := Option.some.inj h
  simp only[push_cast,seval,h2,h4,h6,h9,h8]
  exact endP_none0
 simp only[push_cast,seval,h2,h4,h6,h9,h8]
 refine callP_flat (by rfl) (c_leaf_must N _ _ h10) ?_ rfl ?_
 ·simp only[push_cast,seval,h2,h4,h6,h9,h8] <;> rfl
 rcases F_if h with ⟨h11, h⟩ | ⟨h11, h⟩
 rotate_left
 ·rcases F_bdp h with ⟨h12, h⟩ | ⟨v7, h12, h⟩
  ·simp only[push_cast,seval,h2,h4,h6,h9,h8,h11]
   refine callP_pn (by rfl) (c_leaf_must N _ _ h12) ?_ ?_
   ·simp only[push_cast,seval,h2,h4,h6,h9,h8,h11] <;> rfl
   obtain rfl := Option.some.inj h
   simp only[push_cast,seval,h2,h4,h6,h9,h8,h11]
   exact endP_none0
  simp only[push_cast,seval,h2,h4,h6,h9,h8,h11]
  refine callP_flat (by rfl) (c_leaf_must N _ _ h12) ?_ rfl ?_
  ·simp only[push_cast,seval,h2,h4,h6,h9,h8,h11] <;> rfl
  obtain rfl := Option.some.inj h
  simp only[push_cast,seval,h2,h4,h6,h9,h8,h11]
  refine endP_some0 ?_
  simp only[push_cast,seval,h2,h4,h6,h9,h8,h11]
  refine e_ret (.inr rfl) ?_
  simp only[push_cast,seval,aret,aresults,aresult,h2,h4,h6,h9,h8,h11]
  refine ⟨_, rfl, ?_⟩
  first | (simp only[push_cast,seval,h2,h4,h6,h9,h8,h11] <;> rfl) | rfl
 obtain ⟨h13, h⟩ := F_gd h
 obtain ⟨h14, h⟩ := F_gd h
 try simp only[push_cast,seval] at h14
 obtain ⟨v4, h15, h⟩ := F_bd h
 simp only[push_cast,seval,h2,h4,h6,h9,h8,h11,h13,h14]
 refine call_new (by rfl) (c_wire_GetStrings N _ _ h15) ?_ rfl ?_
 ·simp only[push_cast,seval,h2,h4,h6,h9,h8,h11,h13,h14] <;> rfl
 rcases F_if h with ⟨h16, h⟩ | ⟨h16, h⟩
 rotate_left
 ·rcases F_bdp h with ⟨h17, h⟩ | ⟨v6, h17, h⟩
  rotate_left
  ·cases h
  simp only[push_cast,seval,h2,h4,h6,h9,h8,h11,h13,h14,h16]
  refine callP_pn (by rfl) (c_leaf_must N _ _ h17) ?_ ?_
  ·simp only[push_cast,seval,h2,h4,h6,h9,h8,h11,h13,h14,h16] <;> rfl
  obtain rfl := Option.some.inj h
  simp only[push_cast,seval,h2,h4,h6,h9,h8,h11,h13,h14,h16]
  exact endP_none0
 obtain ⟨h18, h⟩ := F_ck h
 try simp only[push_cast,seval] at h18
 rcases F_bdp h with ⟨h19, h⟩ | ⟨v5, h19, h⟩
 ·simp only[push_cast,seval,h2,h4,h6,h9,h8,h11,h13,h14,h16,h18]
  refine callP_pn (by rfl) (c_leaf_must N _ _ h19) ?_ ?_
  ·simp only[push_cast,seval,h2,h4,h6,h9,h8,h11,h13,h14,h16,h18] <;> rfl
  obtain rfl := Option.some.inj h
  simp only[push_cast,seval,h2,h4,h6,h9,h8,h11,h13,h14,h16,h18]
  exact endP_none0
 simp only[push_cast,seval,h2,h4,h6,h9,h8,h11,h13,h14,h16,h18]
 refine callP_flat (by rfl) (c_leaf_must N _ _ h19) ?_ rfl ?_
 ·simp only[push_cast,seval,h2,h4,h6,h9,h8,h11,h13,h14,h16,h18] <;> rfl
 obtain rfl := Option.some.inj h
 simp only[push_cast,seval,h2,h4,h6,h9,h8,h11,h13,h14,h16,h18]
 refine endP_some0 ?_
 simp only[push_cast,seval,h2,h4,h6,h9,h8,h11,h13,h14,h16,h18]
 refine e_ret (.inr rfl) ?_
 simp only[push_cast,seval,aret,aresults,aresult,h2,h4,h6,h9,h8,h11,h13,h14,h16,h18]
 refine ⟨_, rfl, ?_⟩
 first | (simp only[push_cast,seval,h2,h4,h6,h9,h8,h11,h13,h14,h16,h18] <;> rfl) | rfl

def f52g0 : List RO := [o_ 2 (.new [(.D (.I .i64 0)), (.D (.I .i64 0)), (.D (.I .i64 0)), (.D (.I .i64 0)), (.D (.I .i64 0)), (.D (.I .i64 0))]), o_ 3 (.new [(.D (.I .i64 0))])]
def f52g1 : List RO := []
def f52g2 : List RO := [o_ 7 (.mv (t_ 0)), o_ 8 (.callP (.func 103) [(t_ 7), (.const (.int .i64 1)), (.const (.int .i64 7)), (.const (.bool .false))]), o_ 6 (.mv (t_ 8)), o_ 9 (.ext (t_ 6) 0), o_ 10 (.ext (t_ 6) 1), o_ 4 (.mv (t_ 9)), o_ 5 (.mv (t_ 10))]
def f52g3 : List RO := [o_ 11 (.mv (t_ 4)), o_ 12 (.iaddrD 1 (t_ 11) (.const (.int .i64 1))), o_ 13 (.loadD .none (t_ 12)), o_ 14 (.mv (t_ 4)), o_ 15 (.iaddrD 1 (t_ 14) (.const (.int .i64 2))), o_ 16 (.loadD .none (t_ 15)), o_ 17 (.mv (t_ 4)), o_ 18 (.iaddrD 1 (t_ 17) (.const (.int .i64 3))), o_ 19 (.loadD .none (t_ 18)), o_ 20 (.mv (t_ 4)), o_ 21 (.iaddrD 1 (t_ 20) (.const (.int .i64 4))), o_ 22 (.loadD .none (t_ 21)), o_ 23 (.mv (t_ 4)), o_ 24 (.iaddrD 1 (t_ 23) (.const (.int .i64 5))), o_ 25 (.loadD .none (t_ 24)), o_ 26 (.mv (t_ 4)), o_ 27 (.iaddrD 1 (t_ 26) (.const (.int .i64 6))), o_ 28 (.loadD .none (t_ 27)), n_ (.store 6 (t_ 2) (.const (.agg #[(.int .i64 0), (.int .i64 0), (.int .i64 0), (.int .i64 0), (.int .i64 0), (.int .i64 0)]))), o_ 29 (.faddr 0 (t_ 2)), n_ (.store 1 (t_ 29) (t_ 13)), o_ 30 (.faddr 1 (t_ 2)), n_ (.store 1 (t_ 30) (t_ 16)), o_ 31 (.faddr 2 (t_ 2)), n_ (.store 1 (t_ 31) (t_ 19)), o_ 32 (.faddr 3 (t_ 2)), n_ (.store 1 (t_ 32) (t_ 22)), o_ 33 (.faddr 4 (t_ 2)), n_ (.store 1 (t_ 33) (t_ 25)), o_ 34 (.faddr 5 (t_ 2)), n_ (.store 1 (t_ 34) (t_ 28)), n_ (.store 1 (t_ 3) (.const (.int .i64 0)))]
def f52p0 : RCode := (.reg .false f52g0)
def f52c : RCode := (.seq (.regP f52g2) (.seq (.reg .true f52g3) .ret))
def f52r : List RRes := [(.cell (.some 6) 2), (.cell .none 3)]
attribute [push_cast] f52g0 f52g1 f52g2 f52g3
def F_leaf_GetReading (N : Nat) (p0 : Str) : Option (Reading × Int) := bdp? (F_leaf_head N p0 1 7 false) (some ((Reading.mk 0 0 0 0 0 0), 11)) fun v1 => get? v1.1 (1) fun x2 => get? v1.1 (2) fun x3 => get? v1.1 (3) fun x4 => get? v1.1 (4) fun x5 => get? v1.1 (5) fun x6 => get? v1.1 (6) fun x7 => some ((Reading.mk x2 x3 x4 x5 x6 x7), 0)
theorem c_leaf_GetReading (N : Nat) (p0 : Str) (r : (Reading × Int)) (h : F_leaf_GetReading N p0 = some r) : ACall Tryd.prog 52 [.D (.S p0)] [] (.tup [.agg [.D (.I .i64 r.1.Gauge), .D (.I .i64 r.1.Seq), .D (.I .i64 r.1.From), .D (.I .i64 r.1.To), .D (.I .i64 r.1.Stage), .D (.I .i64 r.1.Known)], .D (.I .i64 r.2)]) [] [] := by
 refine ACall.of_bodyRK [3000012, 3000013, 3000015, 3000016, 3000018, 3000019, 3000021, 3000022, 3000024, 3000025, 3000027, 3000028, 4000103, 4000105, 4000106] (fn := Tryd.f52) (rcs := [f52p0]) (ros := f52g1) (rc := f52c) (g := 102) (xs := [.tmp 3]) (rs := f52r) (N := 35) Tryd.func52 rfl rfl (by kernel_rfl) (by kernel_rfl) (by kernel_rfl) Tryd.ntmps52 (by rw [Tryd.ntmps52]; simp) ?_
 unfold F_leaf_GetReading at h
 unfold f52p0 f52c f52r
 rw [entry_eq _ _]
 rcases F_bdp h with ⟨h1, h⟩ | ⟨v1, h1, h⟩
 ·simp only[push_cast,seval]
  refine callP_pn (by rfl) (c_leaf_head N _ _ _ _ _ h1) ?_ ?_
  ·simp only[push_cast,seval] <;> rfl
  simp only[push_cast,seval]
  refine DEndR.pan [.O 1] (c_rec_pan102 (x := 0)) (by decide) rfl ?_ ?_ ?_ ?_
  ·simp only[push_cast,seval] <;> rfl
  ·simp only[push_cast,seval] <;> rfl
  ·simp only[push_cast,seval] <;> rfl
  obtain rfl := Option.some.inj h
  simp only[push_cast,seval]
  refine e_ret (.inr rfl) ?_
  simp only[push_cast,seval,aret,aresults,aresult]
  refine ⟨_, rfl, ?_⟩
  first | (simp only[push_cast,seval] <;> rfl) | rfl
 simp only[push_cast,seval]
 refine callP_new (by rfl) (c_leaf_head N _ _ _ _ _ h1) ?_ rfl ?_
 ·simp only[push_cast,seval] <;> rfl
 obtain ⟨x2, h2, h3, h⟩ := F_get h
 have h4 := get_lt h2 h3
 have h5 := map_get (rI .i64) h3
 try simp only[push_cast,seval] at h5
 obtain ⟨x3, h6, h7, h⟩ := F_get h
 have h8 := get_lt h6 h7
 have h9 := map_get (rI .i64) h7
 try simp only[push_cast,seval] at h9
 obtain ⟨x4, h10, h11, h⟩ := F_get h
 have h12 := get_lt h10 h11
 have h13 := map_get (rI .i64) h11
 try simp only[push_cast,seval] at h13
 obtain ⟨x5, h14, h15, h⟩ := F_get h
 have h16 := get_lt h14 h15
 have h17 := map_get (rI .i64) h15
 try simp only[push_cast,seval] at h17
 obtain ⟨x6, h18, h19, h⟩ := F_get h
 have h20 := get_lt h18 h19
 have h21 := map_get (rI .i64) h19
 try simp only[push_cast,seval] at h21
 obtain ⟨x7, h22, h23, h⟩ := F_get h
 have h24 := get_lt h22 h23
 have h25 := map_get (rI .i64) h23
 try simp only[push_cast,seval] at h25
 simp only[push_cast,seval,h2,h5,h4,h6,h9,h8,h10,h13,h12,h14,h17,h16,h18,h21,h20,h22,h25,h24]
 refine DEndR.ret [.O 1] (.inr rfl) (c_rec_ret102 (x := 0)) (by decide) rfl ?_ ?_ ?_ ?_
 ·simp only[push_cast,seval,h2,h5,h4,h6,h9,h8,h10,h13,h12,h14,h17,h16,h18,h21,h20,h22,h25,h24] <;> rfl
 ·simp only[push_cast,seval,h2,h5,h4,h6,h9,h8,h10,h13,h12,h14,h17,h16,h18,h21,h20,h22,h25,h24] <;> rfl
 ·simp only[push_cast,seval,h2,h5,h4,h6,h9,h8,h10,h13,h12,h14,h17,h16,h18,h21,h20,h22,h25,h24] <;> rfl
 obtain rfl := Option.some.inj h
 simp only[push_cast,seval,h2,h5,h4,h6,h9,h8,h10,h13,h12,h14,h17,h16,h18,h21,h20,h22,h25,h24]
 refine e_ret (.inr rfl) ?_
 simp only[push_cast,seval,aret,aresults,aresult,h2,h5,h4,h6,h9,h8,h10,h13,h12,h14,h17,h16,h18,h21,h20,h22,h25,h24]
 refine ⟨_, rfl, ?_⟩
 first | (simp only[push_cast,seval,h2,h5,h4,h6,h9,h8,h10,h13,h12,h14,h17,h16,h18,h21,h20,h22,h25,h24] <;> rfl) | rfl

def f56g0 : List RO := [o_ 2 (.new [(.D (.I .i64 0)), (.D (.I .i64 0)), (.D (.I .i64 0)), (.D (.I .i64 0)), (.D (.I .i64 0)), (.fl [])]), o_ 3 (.new [(.D (.I .i64 0))])]
def f56g1 : List RO := []
def f56g2 : List RO := [o_ 14 (.mv (t_ 0)), o_ 15 (.callP (.func 103) [(t_ 14), (.const (.int .i64 3)), (.const (.int .i64 6)), (.const (.bool .true))]), o_ 13 (.mv (t_ 15)), o_ 16 (.ext (t_ 13) 0), o_ 17 (.ext (t_ 13) 1), o_ 4 (.mv (t_ 16)), o_ 5 (.mv (t_ 17))]
def f56g3 : List RO := [o_ 6 (.mv (.const (.slice .none 0 0)))]
def f56g4 : List RO := [o_ 18 (.mv (t_ 5)), o_ 19 (.len .false (t_ 18)), o_ 20 (.mv (.const (.int .i64 0)))]
def f56g5 : List RO := [o_ 21 (.bin .lss (t_ 20) (t_ 19))]
def f56g6 : List RO := [o_ 22 (.iaddr 1 (t_ 18) (t_ 20)), o_ 23 (.load .none (t_ 22)), o_ 8 (.mv (t_ 23))]
def f56g7 : List RO := [o_ 25 (.mv (t_ 8)), o_ 26 (.cvB (t_ 25)), o_ 27 (.call (.func 109) [(t_ 26)]), o_ 24 (.mv (t_ 27)), o_ 28 (.ext (t_ 24) 0), o_ 29 (.ext (t_ 24) 1), o_ 30 (.ext (t_ 24) 2), o_ 9 (.mv (t_ 28)), o_ 10 (.mv (t_ 29)), o_ 11 (.mv (t_ 30))]
def f56g8 : List RO := [o_ 31 (.mv (t_ 11)), o_ 32 (.bin .eql (t_ 31) (.const (.int .i64 0))), o_ 33 (.mv (t_ 32)), ⟨(.some 34), (.mv (t_ 10)), (.some (33, .true))⟩, ⟨(.some 35), (.mv (t_ 8)), (.some (33, .true))⟩, ⟨(.some 36), (.len .true (t_ 35)), (.some (33, .true))⟩, ⟨(.some 37), (.bin .eql (t_ 34) (t_ 36)), (.some (33, .true))⟩, o_ 38 (.pick (t_ 33) (t_ 37) (.const (.bool .false))), o_ 39 (.mv (t_ 38)), ⟨(.some 40), (.mv (t_ 9)), (.some (39, .true))⟩, ⟨(.some 41), (.len .false (t_ 40)), (.some (39, .true))⟩, ⟨(.some 42), (.bin .geq (t_ 41) (.const (.int .i64 4))), (.some (39, .true))⟩, o_ 43 (.pick (t_ 39) (t_ 42) (.const (.bool .false))), o_ 44 (.mv (t_ 43)), ⟨(.some 45), (.mv (t_ 9)), (.some (44, .true))⟩, ⟨(.some 46), (.len .false (t_ 45)), (.some (44, .true))⟩, ⟨(.some 47), (.bin .rem (t_ 46) (.const (.int .i64 2))), (.some (44, .true))⟩, ⟨(.some 48), (.bin .eql (t_ 47) (.const (.int .i64 0))), (.some (44, .true))⟩, o_ 49 (.pick (t_ 44) (t_ 48) (.const (.bool .false))), o_ 50 (.callP (.func 105) [(t_ 49)])]
def f56g9 : List RO := [o_ 51 (.mv (t_ 9)), o_ 52 (.iaddr 1 (t_ 51) (.const (.int .i64 0))), o_ 53 (.load .none (t_ 52)), o_ 54 (.mv (t_ 9)), o_ 55 (.iaddr 1 (t_ 54) (.const (.int .i64 1))), o_ 56 (.load .none (t_ 55)), o_ 57 (.mv (t_ 9)), o_ 58 (.iaddr 1 (t_ 57) (.const (.int .i64 2))), o_ 59 (.load .none (t_ 58)), o_ 60 (.mv (t_ 9)), o_ 61 (.iaddr 1 (t_ 60) (.const (.int .i64 3))), o_ 62 (.load .none (t_ 61)), o_ 63 (.build [(.D (.I .i64 0)), (.D (.I .i64 0)), (.fl []), (.D (.I .i64 0)), (.D (.I .i64 0))] [(0, (1, (t_ 53))), (1, (1, (t_ 56))), (3, (1, (t_ 59))), (4, (1, (t_ 62)))]), o_ 12 (.new [(.D (.I .i64 0)), (.D (.I .i64 0)), (.fl []), (.D (.I .i64 0)), (.D (.I .i64 0))]), n_ (.store 5 (t_ 12) (t_ 63))]
def f56g10 : List RO := [o_ 64 (.mv (t_ 9)), o_ 65 (.sll 1 (t_ 64) (.some (.const (.int .i64 4))) .none .none), o_ 9 (.mv (t_ 65))]
def f56g11 : List RO := [o_ 66 (.mv (t_ 9)), o_ 67 (.len .false (t_ 66)), o_ 68 (.bin .gtr (t_ 67) (.const (.int .i64 0)))]
def f56g12 : List RO := [o_ 71 (.faddr 2 (t_ 12)), o_ 72 (.load .none (t_ 71)), o_ 73 (.mv (t_ 9)), o_ 74 (.iaddr 1 (t_ 73) (.const (.int .i64 0))), o_ 75 (.load .none (t_ 74)), o_ 76 (.mv (t_ 9)), o_ 77 (.iaddr 1 (t_ 76) (.const (.int .i64 1))), o_ 78 (.load .none (t_ 77)), o_ 79 (.build [(.D (.I .i64 0)), (.D (.I .i64 0))] [(0, (1, (t_ 75))), (1, (1, (t_ 78)))]), o_ 80 (.bslice 2 [(t_ 79)]), o_ 81 (.appE 2 16 (t_ 72) (t_ 80)), o_ 82 (.faddr 2 (t_ 12)), n_ (.store 1 (t_ 82) (t_ 81))]
def f56g13 : List RO := [o_ 69 (.mv (t_ 9)), o_ 70 (.sll 1 (t_ 69) (.some (.const (.int .i64 2))) .none .none), o_ 9 (.mv (t_ 70))]
def f56b14 : RCode := (.seq (.seq (.reg .false f56g11) (.cond (t_ 68) .skip (.exit 2))) (.seq (.block 3 (.reg .true f56g12)) (.reg .false f56g13)))
def f56g15 : List RO := [o_ 83 (.mv (t_ 6)), o_ 84 (.load (.some 5) (t_ 12)), o_ 85 (.bslice 5 [(t_ 84)]), o_ 86 (.appE 5 56 (t_ 83) (t_ 85)), o_ 6 (.mv (t_ 86))]
def f56g16 : List RO := [o_ 87 (.bin .add (t_ 20) (.const (.int .i64 1))), o_ 20 (.mv (t_ 87))]
def f56b17 : RCode := (.seq (.reg .false f56g5) (.seq (.cond (t_ 21) .skip (.exit 0)) (.seq (.block 1 (.seq (.reg .false f56g6) (.seq (.reg .false f56g7) (.seq (.regP f56g8) (.seq (.reg .true f56g9) (.seq (.seq (.reg .false f56g10) (.block 2 (.loop f56b14))) (.reg .false f56g15))))))) (.reg .false f56g16))))
def f56g18 : List RO := [o_ 88 (.mv (t_ 4)), o_ 89 (.iaddrD 1 (t_ 88) (.const (.int .i64 1))), o_ 90 (.loadD .none (t_ 89)), o_ 91 (.mv (t_ 4)), o_ 92 (.iaddrD 1 (t_ 91) (.const (.int .i64 2))), o_ 93 (.loadD .none (t_ 92)), o_ 94 (.mv (t_ 4)), o_ 95 (.iaddrD 1 (t_ 94) (.const (.int .i64 3))), o_ 96 (.loadD .none (t_ 95)), o_ 97 (.mv (t_ 4)), o_ 98 (.iaddrD 1 (t_ 97) (.const (.int .i64 4))), o_ 99 (.loadD .none (t_ 98)), o_ 100 (.mv (t_ 4)), o_ 101 (.iaddrD 1 (t_ 100) (.const (.int .i64 5))), o_ 102 (.loadD .none (t_ 101)), o_ 103 (.mv (t_ 6)), n_ (.store 6 (t_ 2) (.const (.agg #[(.int .i64 0), (.int .i64 0), (.int .i64 0), (.int .i64 0), (.int .i64 0), (.slice .none 0 0)]))), o_ 104 (.faddr 0 (t_ 2)), n_ (.store 1 (t_ 104) (t_ 90)), o_ 105 (.faddr 1 (t_ 2)), n_ (.store 1 (t_ 105) (t_ 93)), o_ 106 (.faddr 2 (t_ 2)), n_ (.store 1 (t_ 106) (t_ 96)), o_ 107 (.faddr 3 (t_ 2)), n_ (.store 1 (t_ 107) (t_ 99)), o_ 108 (.faddr 4 (t_ 2)), n_ (.store 1 (t_ 108) (t_ 102)), o_ 109 (.faddr 5 (t_ 2)), n_ (.store 1 (t_ 109) (t_ 103)), n_ (.store 1 (t_ 3) (.const (.int .i64 0)))]
def f56p0 : RCode := (.reg .false f56g0)
def f56c : RCode := (.seq (.regP f56g2) (.seq (.reg .false f56g3) (.seq (.seq (.reg .false f56g4) (.block 0 (.loop f56b17))) (.seq (.reg .true f56g18) .ret))))
def f56r : List RRes := [(.cell (.some 6) 2), (.cell .none 3)]
attribute [push_cast] f56g0 f56g1 f56g2 f56g3 f56g4 f56g5 f56g6 f56g7 f56g8 f56g9 f56g10 f56g11 f56g12 f56g13 f56g15 f56g16 f56g18
def L_leaf_GetBlock_1 (N : Nat) (k0 : Int → Int → Int → Int → Int → Int → Int → (List Run) → Option (Block × Int)) (a2 : Int) (a3 : Int) (a4 : Int) (a5 : Int) (a6 : Int) (a7 : Int) (a8 : Int) (a9 : (List Run)) (x13 : Int) (x14 : Int) (x15 : Int) (x16 : Int) : Nat → (List Int) → (List Hold) → Option (Block × Int)
  | 0, _, _ => none
  | m2+1, a17, a18 => if? (decide ((a17.length : Int) > 0)) (get? a17 (0) fun x19 => get? a17 (1) fun x20 => gd? ((a18.length + [(Hold.mk x19 x20)].length) * 16 ≤ 140737488355328) (gd? ((2 : Int).toNat ≤ a17.length) (L_leaf_GetBlock_1 N k0 a2 a3 a4 a5 a6 a7 a8 a9 x13 x14 x15 x16 m2 ((a17.drop (2 : Int).toNat).take (a17.length - (2 : Int).toNat)) (a18 ++ [(Hold.mk x19 x20)])))) (gd? ((a9.length + [(Run.mk x13 x14 a18 x15 x16)].length) * 56 ≤ 140737488355328) (ck .i64 (a2 + 1) (k0 (a2 + 1) a3 a4 a5 a6 a7 a8 (a9 ++ [(Run.mk x13 x14 a18 x15 x16)]))))
def I_leaf_GetBlock_1 (N : Nat) (k0 : Int → Int → Int → Int → Int → Int → Int → (List Run) → Option (Block × Int)) (v1 : ((List Int) × (List Str))) (a2 : Int) (a3 : Int) (a4 : Int) (a5 : Int) (a6 : Int) (a7 : Int) (a8 : Int) (a9 : (List Run)) (x13 : Int) (x14 : Int) (x15 : Int) (x16 : Int) (r : (Block × Int)) (n : Nat) (s : AState) : Prop := ∃ (a17 : (List Int)) (a18 : (List Hold)), L_leaf_GetBlock_1 N k0 a2 a3 a4 a5 a6 a7 a8 a9 x13 x14 x15 x16 n a17 a18 = some r ∧ s = ⟨envL [(2, .ptr (.O 0) 0), (3, .ptr (.O 1) 0), (4, .D (.L (v1.1.map (rI .i64)))), (6, .sl (.O 2) 5 0 a9.length), (9, .D (.L (a17.map (rI .i64)))), (12, .ptr (.O 3) 0), (18, .D (.L (v1.2.map rS))), (19, .D (.I .i64 (v1.2.length : Int))), (20, .D (.I .i64 a2)), (111, .ptr (.O 1) 0)], ownL [], ownL [some (.box ([.D (.I .i64 a3), .D (.I .i64 a4), .D (.I .i64 a5), .D (.I .i64 a6), .D (.I .i64 a7), .D (.L [])])), some (.box ([.D (.I .i64 a8)])), some (.row true 5 (a9.map Run.row)), some (.box ([.D (.I .i64 x13), .D (.I .i64 x14), .sl (.O 4) 2 0 a18.length, .D (.I .i64 x15), .D (.I .i64 x16)])), some (.row true 2 (a18.map Hold.row))], 5⟩
def L_leaf_GetBlock_0 (N : Nat) (v1 : ((List Int) × (List Str))) : Nat → Int → Int → Int → Int → Int → Int → Int → (List Run) → Option (Block × Int)
  | 0, _, _, _, _, _, _, _, _ => none
  | m1+1, a2, a3, a4, a5, a6, a7, a8, a9 => if? (decide (a2 < (v1.2.length : Int))) (get? v1.2 (a2) fun x10 => bd? (F_wire_GetInts N (intsS x10)) fun v11 => if? ((v11.2.2 == 0)) (if? ((v11.2.1 == (x10.length : Int))) (if? (decide ((v11.1.length : Int) ≥ 4)) (bdp? (F_leaf_must N ((Int.tmod (v11.1.length : Int) 2) == 0)) (some ((Block.mk a3 a4 a5 a6 a7 []), 11)) fun v12 => get? v11.1 (0) fun x13 => get? v11.1 (1) fun x14 => get? v11.1 (2) fun x15 => get? v11.1 (3) fun x16 => gd? ((4 : Int).toNat ≤ v11.1.length) (L_leaf_GetBlock_1 N (L_leaf_GetBlock_0 N v1 m1) a2 a3 a4 a5 a6 a7 a8 a9 x13 x14 x15 x16 N ((v11.1.drop (4 : Int).toNat).take (v11.1.length - (4 : Int).toNat)) [])) (bdp? (F_leaf_must N false) (some ((Block.mk a3 a4 a5 a6 a7 []), 11)) fun v21 => none)) (bdp? (F_leaf_must N false) (some ((Block.mk a3 a4 a5 a6 a7 []), 11)) fun v22 => none)) (bdp? (F_leaf_must N false) (some ((Block.mk a3 a4 a5 a6 a7 []), 11)) fun v23 => none)) (get? v1.1 (1) fun x24 => get? v1.1 (2) fun x25 => get? v1.1 (3) fun x26 => get? v1.1 (4) fun x27 => get? v1.1 (5) fun x28 => some ((Block.mk x24 x25 x26 x27 x28 a9), 0))
def I_leaf_GetBlock_0 (N : Nat) (v1 : ((List Int) × (List Str))) (r : (Block × Int)) (n : Nat) (s : AState) : Prop := ∃ (a2 : Int) (a3 : Int) (a4 : Int) (a5 : Int) (a6 : Int) (a7 : Int) (a8 : Int) (a9 : (List Run)), L_leaf_GetBlock_0 N v1 n a2 a3 a4 a5 a6 a7 a8 a9 = some r ∧ s = ⟨envL [(2, .ptr (.O 0) 0), (3, .ptr (.O 1) 0), (4, .D (.L (v1.1.map (rI .i64)))), (6, .sl (.O 2) 5 0 a9.length), (18, .D (.L (v1.2.map rS))), (19, .D (.I .i64 (v1.2.length : Int))), (20, .D (.I .i64 a2)), (111, .ptr (.O 1) 0)], ownL [], ownL [some (.box ([.D (.I .i64 a3), .D (.I .i64 a4), .D (.I .i64 a5), .D (.I .i64 a6), .D (.I .i64 a7), .D (.L [])])), some (.box ([.D (.I .i64 a8)])), some (.row true 5 (a9.map Run.row))], 3⟩
def F_leaf_GetBlock (N : Nat) (p0 : Str) : Option (Block × Int) := bdp? (F_leaf_head N p0 3 6 true) (some ((Block.mk 0 0 0 0 0 []), 11)) fun v1 => L_leaf_GetBlock_0 N v1 N 0 0 0 0 0 0 0 []
theorem c_leaf_GetBlock (N : Nat) (p0 : Str) (r : (Block × Int)) (h : F_leaf_GetBlock N p0 = some r) : ACall Tryd.prog 56 [.D (.S p0)] [] (.tup [.agg [.D (.I .i64 r.1.Gauge), .D (.I .i64 r.1.Level), .D (.I .i64 r.1.From), .D (.I .i64 r.1.To), .D (.I .i64 r.1.Known), .D (.L (r.1.Runs.map Run.row))], .D (.I .i64 r.2)]) [] [] := by
 refine ACall.of_bodyRK [81, 86, 3000089, 3000090, 3000092, 3000093, 3000095, 3000096, 3000098, 3000099, 3000101, 3000102, 4000103, 4000105, 4000106] (fn := Tryd.f56) (rcs := [f56p0]) (ros := f56g1) (rc := f56c) (g := 102) (xs := [.tmp 3]) (rs := f56r) (N := 110) Tryd.func56 rfl rfl (by kernel_rfl) (by kernel_rfl) (by kernel_rfl) Tryd.ntmps56 (by rw [Tryd.ntmps56]; simp) ?_
 unfold F_leaf_GetBlock at h
 unfold f56p0 f56c f56r
 rw [entry_eq _ _]
 rcases F_bdp h with ⟨h1, h⟩ | ⟨v1, h1, h⟩
 ·simp only[push_cast,seval]
  refine callP_pn (by rfl) (c_leaf_head N _ _ _ _ _ h1) ?_ ?_
  ·simp only[push_cast,seval] <;> rfl
  simp only[push_cast,seval]
  refine DEndR.pan [.O 1] (c_rec_pan102 (x := 0)) (by decide) rfl ?_ ?_ ?_ ?_
  ·simp only[push_cast,seval] <;> rfl
  ·simp only[push_cast,seval] <;> rfl
  ·simp only[push_cast,seval] <;> rfl
  obtain rfl := Option.some.inj h
  simp only[push_cast,seval]
  refine e_ret (.inr rfl) ?_
  simp only[push_cast,seval,aret,aresults,aresult]
  refine ⟨_, rfl, ?_⟩
  first | (simp only[push_cast,seval] <;> rfl) | rfl
 simp only[push_cast,seval]
 refine callP_new (by rfl) (c_leaf_head N _ _ _ _ _ h1) ?_ rfl ?_
 ·simp only[push_cast,seval] <;> rfl
 simp only[push_cast,seval]
 refine loop_own0 6 5 rfl ?_
 simp only[push_cast,seval]
 refine loop_of (I_leaf_GetBlock_0 N v1 _) N [2, 3, 4, 6, 18, 19, 20, 111] [0, 1, 2] (by decide) ⟨0, 0, 0, 0, 0, 0, 0, [], h, ?_⟩ ?_
 ·rw [wk_mk]
  simp only[push_cast,seval] <;> rfl
 rintro n s ⟨a2, a3, a4, a5, a6, a7, a8, a9, h, rfl⟩
 rcases n with _ | m1
 ·exact absurd h (by simp [L_leaf_GetBlock_0])
 rw [L_leaf_GetBlock_0] at h
 unfold f56b17
 rcases F_if h with ⟨h2, h⟩ | ⟨h2, h⟩
 rotate_left
 ·obtain ⟨x24, h3, h4, h⟩ := F_get h
  have h5 := get_lt h3 h4
  have h6 := map_get (rI .i64) h4
  try simp only[push_cast,seval] at h6
  obtain ⟨x25, h7, h8, h⟩ := F_get h
  have h9 := get_lt h7 h8
  have h10 := map_get (rI .i64) h8
  try simp only[push_cast,seval] at h10
  obtain ⟨x26, h11, h12, h⟩ := F_get h
  have h13 := get_lt h11 h12
  have h14 := map_get (rI .i64) h12
  try simp only[push_cast,seval] at h14
  obtain ⟨x27, h15, h16, h⟩ := F_get h
  have h17 := get_lt h15 h16
  have h18 := map_get (rI .i64) h16
  try simp only[push_cast,seval] at h18
  obtain ⟨x28, h19, h20, h⟩ := F_get h
  have h21 := get_lt h19 h20
  have h22 := map_get (rI .i64) h20
  try simp only[push_cast,seval] at h22
  simp only[push_cast,seval,h2,h3,h6,h5,h7,h10,h9,h11,h14,h13,h15,h18,h17,h19,h22,h21]
  refine DEndR.ret [.O 1] (.inr rfl) (c_rec_ret102 (x := 0)) (by decide) rfl ?_ ?_ ?_ ?_
  ·simp only[push_cast,seval,h2,h3,h6,h5,h7,h10,h9,h11,h14,h13,h15,h18,h17,h19,h22,h21] <;> rfl
  ·simp only[push_cast,seval,h2,h3,h6,h5,h7,h10,h9,h11,h14,h13,h15,h18,h17,h19,h22,h21] <;> rfl
  ·simp only[push_cast,seval,h2,h3,h6,h5,h7,h10,h9,h11,h14,h13,h15,h18,h17,h19,h22,h21] <;> rfl
  obtain rfl := Option.some.inj h
  simp only[push_cast,seval,h2,h3,h6,h5,h7,h10,h9,h11,h14,h13,h15,h18,h17,h19,h22,h21]
  refine e_ret (.inr rfl) ?_
  simp only[push_cast,seval,aret,aresults,aresult,h2,h3,h6,h5,h7,h10,h9,h11,h14,h13,h15,h18,h17,h19,h22,h21]
  refine ⟨_, rfl, ?_⟩
  first | (simp only[push_cast,seval,h2,h3,h6,h5,h7,h10,h9,h11,h14,h13,h15,h18,h17,h19,h22,h21] <;> rfl) | rfl
 obtain ⟨x10, h23, h24, h⟩ := F_get h
 have h25 := get_lt h23 h24
 have h26 := map_get rS h24
 try simp only[push_cast,seval] at h26
 obtain ⟨v11, h27, h⟩ := F_bd h
 simp only[push_cast,seval,h2,h23,h26,h25]
 refine call_new (by rfl) (c_wire_GetInts N _ _ h27) ?_ rfl ?_
 ·simp only[push_cast,seval,h2,h23,h26,h25] <;> rfl
 rcases F_if h with ⟨h28, h⟩ | ⟨h28, h⟩
 rotate_left
 ·rcases F_bdp h with ⟨h29, h⟩ | ⟨v23, h29, h⟩
  rotate_left
  ·cases h
  simp only[push_cast,seval,h2,h23,h26,h25,h28]
  refine callP_pn (by rfl) (c_leaf_must N _ _ h29) ?_ ?_
  ·simp only[push_cast,seval,h2,h23,h26,h25,h28] <;> rfl
  simp only[push_cast,seval,h2,h23,h26,h25,h28]
  refine DEndR.pan [.O 1] (c_rec_pan102 (x := a8)) (by decide) rfl ?_ ?_ ?_ ?_
  ·simp only[push_cast,seval,h2,h23,h26,h25,h28] <;> rfl
  ·simp only[push_cast,seval,h2,h23,h26,h25,h28] <;> rfl
  ·simp only[push_cast,seval,h2,h23,h26,h25,h28] <;> rfl
  obtain rfl := Option.some.inj h
  simp only[push_cast,seval,h2,h23,h26,h25,h28]
  refine e_ret (.inr rfl) ?_
  simp only[push_cast,seval,aret,aresults,aresult,h2,h23,h26,h25,h28]
  refine ⟨_, rfl, ?_⟩
  first | (simp only[push_cast,seval,h2,h23,h26,h25,h28] <;> rfl) | rfl
 rcases F_if h with ⟨h30, h⟩ | ⟨h30, h⟩
 rotate_left
 ·rcases F_bdp h with ⟨h31, h⟩ | ⟨v22, h31, h⟩
  rotate_left
  ·cases h
  simp only[push_cast,seval,h2,h23,h26,h25,h28,h30]
  refine callP_pn (by rfl) (c_leaf_must N _ _ h31) ?_ ?_
  ·simp only[push_cast,seval,h2,h23,h26,h25,h28,h30] <;> rfl
  simp only[push_cast,seval,h2,h23,h26,h25,h28,h30]
  refine DEndR.pan [.O 1] (c_rec_pan102 (x := a8)) (by decide) rfl ?_ ?_ ?_ ?_
  ·simp only[push_cast,seval,h2,h23,h26,h25,h28,h30] <;> rfl
  ·simp only[push_cast,seval,h2,h23,h26,h25,h28,h30] <;> rfl
  ·simp only[push_cast,seval,h2,h23,h26,h25,h28,h30] <;> rfl
  obtain rfl := Option.some.inj h
  simp only[push_cast,seval,h2,h23,h26,h25,h28,h30]
  refine e_ret (.inr rfl) ?_
  simp only[push_cast,seval,aret,aresults,aresult,h2,h23,h26,h25,h28,h30]
  refine ⟨_, rfl, ?_⟩
  first | (simp only[push_cast,seval,h2,h23,h26,h25,h28,h30] <;> rfl) | rfl
 rcases F_if h with ⟨h32, h⟩ | ⟨h32, h⟩
 rotate_left
 ·rcases F_bdp h with ⟨h33, h⟩ | ⟨v21, h33, h⟩
  rotate_left
  ·cases h
  simp only[push_cast,seval,h2,h23,h26,h25,h28,h30,h32]
  refine callP_pn (by rfl) (c_leaf_must N _ _ h33) ?_ ?_
  ·simp only[push_cast,seval,h2,h23,h26,h25,h28,h30,h32] <;> rfl
  simp only[push_cast,seval,h2,h23,h26,h25,h28,h30,h32]
  refine DEndR.pan [.O 1] (c_rec_pan102 (x := a8)) (by decide) rfl ?_ ?_ ?_ ?_
  ·simp only[push_cast,seval,h2,h23,h26,h25,h28,h30,h32] <;> rfl
  ·simp only[push_cast,seval,h2,h23,h26,h25,h28,h30,h32] <;> rfl
  ·simp only[push_cast,seval,h2,h23,h26,h25,h28,h30,h32] <;> rfl
  obtain rfl := Option.some.inj h
  simp only[push_cast,seval,h2,h23,h26,h25,h28,h30,h32]
  refine e_ret (.inr rfl) ?_
  simp only[push_cast,seval,aret,aresults,aresult,h2,h23,h26,h25,h28,h30,h32]
  refine ⟨_, rfl, ?_⟩
  first | (simp only[push_cast,seval,h2,h23,h26,h25,h28,h30,h32] <;> rfl) | rfl
 rcases F_bdp h with ⟨h34, h⟩ | ⟨v12, h34, h⟩
 ·simp only[push_cast,seval,h2,h23,h26,h25,h28,h30,h32]
  refine callP_pn (by rfl) (c_leaf_must N _ _ h34) ?_ ?_
  ·simp only[push_cast,seval,h2,h23,h26,h25,h28,h30,h32] <;> rfl
  simp only[push_cast,seval,h2,h23,h26,h25,h28,h30,h32]
  refine DEndR.pan [.O 1] (c_rec_pan102 (x := a8)) (by decide) rfl ?_ ?_ ?_ ?_
  ·simp only[push_cast,seval,h2,h23,h26,h25,h28,h30,h32] <;> rfl
  ·simp only[push_cast,seval,h2,h23,h26,h25,h28,h30,h32] <;> rfl
  ·simp only[push_cast,seval,h2,h23,h26,h25,h28,h30,h32] <;> rfl
  obtain rfl := Option.some.inj h
  simp only[push_cast,seval,h2,h23,h26,h25,h28,h30,h32]
  refine e_ret (.inr rfl) ?_
  simp only[push_cast,seval,aret,aresults,aresult,h2,h23,h26,h25,h28,h30,h32]
  refine ⟨_, rfl, ?_⟩
  first | (simp only[push_cast,seval,h2,h23,h26,h25,h28,h30,h32] <;> rfl) | rfl
 simp only[push_cast,seval,h2,h23,h26,h25,h28,h30,h32]
 refine callP_flat (by rfl) (c_leaf_must N _ _ h34) ?_ rfl ?_
 ·simp only[push_cast,seval,h2,h23,h26,h25,h28,h30,h32] <;> rfl
 obtain ⟨x13, h35, h36, h⟩ := F_get h
 have h37 := get_lt h35 h36
 have h38 := map_get (rI .i64) h36
 try simp only[push_cast,seval] at h38
 obtain ⟨x14, h39, h40, h⟩ := F_get h
 have h41 := get_lt h39 h40
 have h42 := map_get (rI .i64) h40
 try simp only[push_cast,seval] at h42
 obtain ⟨x15, h43, h44, h⟩ := F_get h
 have h45 := get_lt h43 h44
 have h46 := map_get (rI .i64) h44
 try simp only[push_cast,seval] at h46
 obtain ⟨x16, h47, h48, h⟩ := F_get h
 have h49 := get_lt h47 h48
 have h50 := map_get (rI .i64) h48
 try simp only[push_cast,seval] at h50
 obtain ⟨h51, h⟩ := F_gd h
 try simp only[push_cast,seval] at h51
 simp only[push_cast,seval,h2,h23,h26,h25,h28,h30,h32,h35,h38,h37,h39,h42,h41,h43,h46,h45,h47,h50,h49,h51]
 refine loop_ownB (.O 3) [.D (.I .i64 x13), .D (.I .i64 x14), .fl [], .D (.I .i64 x15), .D (.I .i64 x16)] 2 2 (by rfl) (by rfl) ?_
 simp only[push_cast,seval,h2,h23,h26,h25,h28,h30,h32,h35,h38,h37,h39,h42,h41,h43,h46,h45,h47,h50,h49,h51]
 refine loop_of (I_leaf_GetBlock_1 N (L_leaf_GetBlock_0 N v1 m1) v1 a2 a3 a4 a5 a6 a7 a8 a9 x13 x14 x15 x16 _) N [2, 3, 4, 6, 9, 12, 18, 19, 20, 111] [0, 1, 2, 3, 4] (by decide) ⟨((v11.1.drop (4 : Int).toNat).take (v11.1.length - (4 : Int).toNat)), [], h, ?_⟩ ?_
 ·rw [wk_mk]
  simp only[push_cast,seval,h2,h23,h26,h25,h28,h30,h32,h35,h38,h37,h39,h42,h41,h43,h46,h45,h47,h50,h49,h51] <;> rfl
 rintro n s ⟨a17, a18, h, rfl⟩
 rcases n with _ | m2
 ·exact absurd h (by simp [L_leaf_GetBlock_1])
 rw [L_leaf_GetBlock_1] at h
 unfold f56b14
 rcases F_if h with ⟨h52, h⟩ | ⟨h52, h⟩
 rotate_left
 ·obtain ⟨h53, h⟩ := F_gd h
  try simp only[push_cast,seval] at h53
  obtain ⟨h54, h⟩ := F_ck h
  try simp only[push_cast,seval] at h54
  simp only[push_cast,seval,h2,h23,h26,h25,h28,h30,h32,h35,h38,h37,h39,h42,h41,h43,h46,h45,h47,h50,h49,h51,h52,h53,h54]
  refine lpK_of m1 [2, 3, 4, 6, 18, 19, 20, 111] [0, 1, 6] (by omega) (by decide) ⟨(a2 + 1), a3, a4, a5, a6, a7, a8, (a9 ++ [(Run.mk x13 x14 a18 x15 x16)]), (by first | exact h | simpa only [*] using h), ?_⟩
  rw [wk_mk]
  simp only[push_cast,seval,h2,h23,h26,h25,h28,h30,h32,h35,h38,h37,h39,h42,h41,h43,h46,h45,h47,h50,h49,h51,h52,h53,h54] <;> rfl
 obtain ⟨x19, h55, h56, h⟩ := F_get h
 have h57 := get_lt h55 h56
 have h58 := map_get (rI .i64) h56
 try simp only[push_cast,seval] at h58
 obtain ⟨x20, h59, h60, h⟩ := F_get h
 have h61 := get_lt h59 h60
 have h62 := map_get (rI .i64) h60
 try simp only[push_cast,seval] at h62
 obtain ⟨h63, h⟩ := F_gd h
 try simp only[push_cast,seval] at h63
 obtain ⟨h64, h⟩ := F_gd h
 try simp only[push_cast,seval] at h64
 simp only[push_cast,seval,h2,h23,h26,h25,h28,h30,h32,h35,h38,h37,h39,h42,h41,h43,h46,h45,h47,h50,h49,h51,h52,h55,h58,h57,h59,h62,h61,h63,h64]
 refine lpK_of m2 [2, 3, 4, 6, 9, 12, 18, 19, 20, 111] [0, 1, 2, 3, 6] (by omega) (by decide) ⟨((a17.drop (2 : Int).toNat).take (a17.length - (2 : Int).toNat)), (a18 ++ [(Hold.mk x19 x20)]), (by first | exact h | simpa only [*] using h), ?_⟩
 rw [wk_mk]
 simp only[push_cast,seval,h2,h23,h26,h25,h28,h30,h32,h35,h38,h37,h39,h42,h41,h43,h46,h45,h47,h50,h49,h51,h52,h55,h58,h57,h59,h62,h61,h63,h64] <;> rfl

def f93g0 : List RO := [o_ 0 (.new [(.D (.C .nilFunc)), (.D (.C .nilFunc)), (.D (.C .nilFunc))])]
def f93g1 : List RO := [o_ 1 (.build [(.D (.C .nilFunc)), (.D (.C .nilFunc)), (.D (.C .nilFunc))] [(0, (1, (.func 130))), (1, (1, (.func 131))), (2, (1, (.func 132)))]), n_ (.store 3 (t_ 0) (t_ 1))]
def f93c : RCode := (.seq (.reg .false f93g0) (.seq (.reg .false f93g1) .ret))
def f93r : List RRes := [(.cell (.some 3) 0)]
attribute [push_cast] f93g0 f93g1
def F_leaf_kinds (N : Nat) : Option Unit := some (())
theorem c_leaf_kinds (N : Nat) (r : Unit) (h : F_leaf_kinds N = some r) : ACall Tryd.prog 93 [] [] (.agg [.clo 130 [], .clo 131 [], .clo 132 []]) [] [] := by
 refine ACall.of_bodyW [] (fn := Tryd.f93) (rc := f93c) (rs := f93r) Tryd.func93 rfl rfl (by kernel_rfl) (by kernel_rfl) (by kernel_rfl) (by rw [Tryd.ntmps93]; simp) ?_
 unfold F_leaf_kinds at h
 unfold f93c f93r
 rw [entry_eq _ _]
 obtain rfl := Option.some.inj h
 simp only[push_cast,seval]
 refine e_ret (.inr rfl) ?_
 simp only[push_cast,seval,aret,aresults,aresult]
 refine ⟨_, rfl, ?_⟩
 first | (simp only[push_cast,seval] <;> rfl) | rfl

def f130g0 : List RO := [o_ 2 (.mv (.const (.int .i64 0))), o_ 3 (.mv (.const (.int .i64 0))), o_ 4 (.mv (.const (.int .i64 0)))]
def f130g1 : List RO := [o_ 8 (.mv (t_ 0)), o_ 9 (.call (.func 52) [(t_ 8)]), o_ 7 (.mv (t_ 9)), o_ 10 (.ext (t_ 7) 0), o_ 11 (.ext (t_ 7) 1), o_ 5 (.new [(.D (.I .i64 0)), (.D (.I .i64 0)), (.D (.I .i64 0)), (.D (.I .i64 0)), (.D (.I .i64 0)), (.D (.I .i64 0))]), n_ (.store 6 (t_ 5) (t_ 10)), o_ 6 (.mv (t_ 11))]
def f130g2 : List RO := [o_ 12 (.faddr 0 (t_ 5)), o_ 13 (.load .none (t_ 12)), o_ 14 (.faddr 2 (t_ 5)), o_ 15 (.load .none (t_ 14)), o_ 16 (.mv (t_ 6)), o_ 2 (.mv (t_ 13)), o_ 3 (.mv (t_ 15)), o_ 4 (.mv (t_ 16))]
def f130c : RCode := (.seq (.reg .false f130g0) (.seq (.reg .false f130g1) (.seq (.reg .true f130g2) .ret)))
def f130r : List RRes := [(.tmp 2), (.tmp 3), (.tmp 4)]
attribute [push_cast] f130g0 f130g1 f130g2
def F_leaf_kinds_1 (N : Nat) (p0 : Str) : Option (Int × Int × Int) := bd? (F_leaf_GetReading N p0) fun v1 => some (v1.1.Gauge, v1.1.From, v1.2)
theorem c_leaf_kinds_1 (N : Nat) (p0 : Str) (r : (Int × Int × Int)) (h : F_leaf_kinds_1 N p0 = some r) : ACall Tryd.prog 130 [.D (.S p0)] [] (.tup [.D (.I .i64 r.1), .D (.I .i64 r.2.1), .D (.I .i64 r.2.2)]) [] [] := by
 refine ACall.of_bodyW [] (fn := Tryd.f130) (rc := f130c) (rs := f130r) Tryd.func130 rfl rfl (by kernel_rfl) (by kernel_rfl) (by kernel_rfl) (by rw [Tryd.ntmps130]; simp) ?_
 unfold F_leaf_kinds_1 at h
 unfold f130c f130r
 rw [entry_eq _ _]
 obtain ⟨v1, h1, h⟩ := F_bd h
 simp only[push_cast,seval]
 refine call_flat (by rfl) (c_leaf_GetReading N _ _ h1) ?_ rfl ?_
 ·simp only[push_cast,seval] <;> rfl
 obtain rfl := Option.some.inj h
 simp only[push_cast,seval]
 refine e_ret (.inr rfl) ?_
 simp only[push_cast,seval,aret,aresults,aresult]
 refine ⟨_, rfl, ?_⟩
 first | (simp only[push_cast,seval] <;> rfl) | rfl

def f106g0 : List RO := [o_ 2 (.mv (.const (.int .i64 0)))]
def f106g1 : List RO := [o_ 7 (.mv (t_ 0)), o_ 8 (.cvB (t_ 7)), o_ 9 (.call (.func 139) [(t_ 8)]), o_ 6 (.mv (t_ 9)), o_ 10 (.ext (t_ 6) 0), o_ 11 (.ext (t_ 6) 1), o_ 12 (.ext (t_ 6) 2), o_ 3 (.mv (t_ 10)), o_ 4 (.mv (t_ 11)), o_ 5 (.mv (t_ 12))]
def f106g2 : List RO := [o_ 13 (.mv (t_ 5)), o_ 14 (.bin .eql (t_ 13) (.const (.int .i64 0))), o_ 15 (.mv (t_ 14)), ⟨(.some 16), (.mv (t_ 4)), (.some (15, .true))⟩, ⟨(.some 17), (.mv (t_ 0)), (.some (15, .true))⟩, ⟨(.some 18), (.len .true (t_ 17)), (.some (15, .true))⟩, ⟨(.some 19), (.bin .eql (t_ 16) (t_ 18)), (.some (15, .true))⟩, o_ 20 (.pick (t_ 15) (t_ 19) (.const (.bool .false))), o_ 21 (.callP (.func 105) [(t_ 20)])]
def f106g3 : List RO := [o_ 22 (.mv (t_ 3)), o_ 2 (.mv (t_ 22))]
def f106c : RCode := (.seq (.reg .false f106g0) (.seq (.reg .false f106g1) (.seq (.regP f106g2) (.seq (.reg .false f106g3) .ret))))
def f106r : List RRes := [(.tmp 2)]
attribute [push_cast] f106g0 f106g1 f106g2 f106g3
def F_leaf_one (N : Nat) (p0 : Str) : Option (Option Int) := bd? (F_wire_GetInt N (intsS p0)) fun v1 => if? ((v1.2.2 == 0)) (bdp? (F_leaf_must N (v1.2.1 == (p0.length : Int))) (some (none)) fun v2 => some (some (v1.1))) (bdp? (F_leaf_must N false) (some (none)) fun v3 => none)
theorem c_leaf_one (N : Nat) (p0 : Str) (r : (Option Int)) (h : F_leaf_one N p0 = some r) : AOut Tryd.prog 106 [.D (.S p0)] (.iface 221 (.agg #[])) (Option.map (fun r : Int => ((.D (.I .i64 r) : AV), ([] : List Blk))) r) := by
 refine AOut.of_body [4000105] (fn := Tryd.f106) (rc := f106c) (rs := f106r) Tryd.func106 rfl rfl (by kernel_rfl) (by kernel_rfl) (by kernel_rfl) (by rw [Tryd.ntmps106]; simp) ?_
 unfold F_leaf_one at h
 unfold f106c f106r
 rw [entry_eq _ _]
 obtain ⟨v1, h1, h⟩ := F_bd h
 simp only[push_cast,seval]
 refine call_flat (by rfl) (c_wire_GetInt N _ _ h1) ?_ rfl ?_
 ·simp only[push_cast,seval] <;> rfl
 rcases F_if h with ⟨h2, h⟩ | ⟨h2, h⟩
 rotate_left
 ·rcases F_bdp h with ⟨h3, h⟩ | ⟨v3, h3, h⟩
  rotate_left
  ·cases h
  simp only[push_cast,seval,h2]
  refine callP_pn (by rfl) (c_leaf_must N _ _ h3) ?_ ?_
  ·simp only[push_cast,seval,h2] <;> rfl
  obtain rfl := Option.some.inj h
  simp only[push_cast,seval,h2]
  exact endP_none0
 rcases F_bdp h with ⟨h4, h⟩ | ⟨v2, h4, h⟩
 ·simp only[push_cast,seval,h2]
  refine callP_pn (by rfl) (c_leaf_must N _ _ h4) ?_ ?_
  ·simp only[push_cast,seval,h2] <;> rfl
  obtain rfl := Option.some.inj h
  simp only[push_cast,seval,h2]
  exact endP_none0
 simp only[push_cast,seval,h2]
 refine callP_flat (by rfl) (c_leaf_must N _ _ h4) ?_ rfl ?_
 ·simp only[push_cast,seval,h2] <;> rfl
 obtain rfl := Option.some.inj h
 simp only[push_cast,seval,h2]
 refine endP_some0 ?_
 simp only[push_cast,seval,h2]
 refine e_ret (.inr rfl) ?_
 simp only[push_cast,seval,aret,aresults,aresult,h2]
 refine ⟨_, rfl, ?_⟩
 first | (simp only[push_cast,seval,h2] <;> rfl) | rfl

def f54g0 : List RO := [o_ 2 (.new [(.D (.I .i64 0)), (.D (.I .i64 0)), (.D (.I .i64 0)), (.D (.I .i64 0)), (.D (.I .i64 0)), (.D (.I .i64 0)), (.D (.I .i64 0)), (.fl [])]), o_ 3 (.new [(.D (.I .i64 0))])]
def f54g1 : List RO := []
def f54g2 : List RO := [o_ 10 (.mv (t_ 0)), o_ 11 (.callP (.func 103) [(t_ 10), (.const (.int .i64 2)), (.const (.int .i64 8)), (.const (.bool .true))]), o_ 9 (.mv (t_ 11)), o_ 12 (.ext (t_ 9) 0), o_ 13 (.ext (t_ 9) 1), o_ 4 (.mv (t_ 12)), o_ 5 (.mv (t_ 13))]
def f54g3 : List RO := [o_ 14 (.mv (t_ 5)), o_ 15 (.len .false (t_ 14)), o_ 16 (.bin .rem (t_ 15) (.const (.int .i64 4))), o_ 17 (.bin .eql (t_ 16) (.const (.int .i64 0))), o_ 18 (.callP (.func 105) [(t_ 17)])]
def f54g4 : List RO := [o_ 6 (.new [(.fl [])])]
def f54g5 : List RO := [o_ 19 (.mv (t_ 5)), o_ 20 (.len .false (t_ 19)), o_ 21 (.bin .gtr (t_ 20) (.const (.int .i64 0)))]
def f54g6 : List RO := [o_ 22 (.mv (t_ 5)), o_ 23 (.iaddrD 1 (t_ 22) (.const (.int .i64 0))), o_ 24 (.loadD .none (t_ 23)), o_ 26 (.mv (t_ 5)), o_ 27 (.iaddrD 1 (t_ 26) (.const (.int .i64 1))), o_ 28 (.loadD .none (t_ 27)), o_ 25 (.callP (.func 106) [(t_ 24)]), o_ 29 (.callP (.func 106) [(t_ 28)]), o_ 7 (.mv (t_ 25)), o_ 8 (.mv (t_ 29))]
def f54g7 : List RO := [o_ 30 (.mv (t_ 8)), o_ 31 (.bin .eql (t_ 30) (.const (.int .i64 0))), o_ 32 (.mv (t_ 31)), ⟨(.some 33), (.mv (t_ 8)), (.some (32, .false))⟩, ⟨(.some 34), (.bin .eql (t_ 33) (.const (.int .i64 1))), (.some (32, .false))⟩, o_ 35 (.pick (t_ 32) (.const (.bool .true)) (t_ 34)), o_ 36 (.callP (.func 105) [(t_ 35)])]
def f54g8 : List RO := [o_ 37 (.faddr 0 (t_ 6)), o_ 38 (.load .none (t_ 37)), o_ 39 (.mv (t_ 7)), o_ 40 (.mv (t_ 8)), o_ 41 (.bin .eql (t_ 40) (.const (.int .i64 1))), o_ 42 (.mv (t_ 5)), o_ 43 (.iaddr 1 (t_ 42) (.const (.int .i64 2))), o_ 44 (.load .none (t_ 43)), o_ 45 (.mv (t_ 5)), o_ 46 (.iaddr 1 (t_ 45) (.const (.int .i64 3))), o_ 47 (.load .none (t_ 46)), o_ 48 (.build [(.D (.B .false)), (.D (.S [])), (.D (.S []))] [(0, (1, (t_ 41))), (1, (1, (t_ 44))), (2, (1, (t_ 47)))]), o_ 49 (.build [(.D (.I .i64 0)), (.D (.B .false)), (.D (.S [])), (.D (.S []))] [(0, (1, (t_ 39))), (1, (3, (t_ 48)))]), o_ 50 (.bslice 4 [(t_ 49)]), o_ 51 (.appE 4 48 (t_ 38) (t_ 50)), o_ 52 (.faddr 0 (t_ 6)), n_ (.store 1 (t_ 52) (t_ 51))]
def f54g9 : List RO := [o_ 53 (.mv (t_ 5)), o_ 54 (.sll 1 (t_ 53) (.some (.const (.int .i64 4))) .none .none), o_ 5 (.mv (t_ 54))]
def f54b10 : RCode := (.seq (.seq (.reg .false f54g5) (.cond (t_ 21) .skip (.exit 0))) (.block 1 (.seq (.regDP f54g6) (.seq (.regP f54g7) (.seq (.reg .true f54g8) (.reg .false f54g9))))))
def f54g11 : List RO := [o_ 55 (.mv (t_ 4)), o_ 56 (.iaddrD 1 (t_ 55) (.const (.int .i64 1))), o_ 57 (.loadD .none (t_ 56)), o_ 58 (.mv (t_ 4)), o_ 59 (.iaddrD 1 (t_ 58) (.const (.int .i64 2))), o_ 60 (.loadD .none (t_ 59)), o_ 61 (.mv (t_ 4)), o_ 62 (.iaddrD 1 (t_ 61) (.const (.int .i64 3))), o_ 63 (.loadD .none (t_ 62)), o_ 64 (.mv (t_ 4)), o_ 65 (.iaddrD 1 (t_ 64) (.const (.int .i64 4))), o_ 66 (.loadD .none (t_ 65)), o_ 67 (.mv (t_ 4)), o_ 68 (.iaddrD 1 (t_ 67) (.const (.int .i64 5))), o_ 69 (.loadD .none (t_ 68)), o_ 70 (.mv (t_ 4)), o_ 71 (.iaddrD 1 (t_ 70) (.const (.int .i64 6))), o_ 72 (.loadD .none (t_ 71)), o_ 73 (.mv (t_ 4)), o_ 74 (.iaddrD 1 (t_ 73) (.const (.int .i64 7))), o_ 75 (.loadD .none (t_ 74)), o_ 76 (.loadS (.some 1) (t_ 6)), n_ (.store 8 (t_ 2) (.const (.agg #[(.int .i64 0), (.int .i64 0), (.int .i64 0), (.int .i64 0), (.int .i64 0), (.int .i64 0), (.int .i64 0), (.slice .none 0 0)]))), o_ 77 (.faddr 0 (t_ 2)), n_ (.store 1 (t_ 77) (t_ 57)), o_ 78 (.faddr 1 (t_ 2)), n_ (.store 1 (t_ 78) (t_ 60)), o_ 79 (.faddr 2 (t_ 2)), n_ (.store 1 (t_ 79) (t_ 63)), o_ 80 (.faddr 3 (t_ 2)), n_ (.store 1 (t_ 80) (t_ 66)), o_ 81 (.faddr 4 (t_ 2)), n_ (.store 1 (t_ 81) (t_ 69)), o_ 82 (.faddr 5 (t_ 2)), n_ (.store 1 (t_ 82) (t_ 72)), o_ 83 (.faddr 6 (t_ 2)), n_ (.store 1 (t_ 83) (t_ 75)), o_ 84 (.faddr 7 (t_ 2)), n_ (.store 1 (t_ 84) (t_ 76)), n_ (.store 1 (t_ 3) (.const (.int .i64 0)))]
def f54p0 : RCode := (.reg .false f54g0)
def f54c : RCode := (.seq (.regP f54g2) (.seq (.regP f54g3) (.seq (.reg .false f54g4) (.seq (.block 0 (.loop f54b10)) (.seq (.regS f54g11) .ret)))))
def f54r : List RRes := [(.cell (.some 8) 2), (.cell .none 3)]
attribute [push_cast] f54g0 f54g1 f54g2 f54g3 f54g4 f54g5 f54g6 f54g7 f54g8 f54g9 f54g11
def L_leaf_GetVersion_0 (N : Nat) (v1 : ((List Int) × (List Str))) : Nat → (List Str) → (List Point) → Option (Version × Int)
  | 0, _, _ => none
  | m1+1, a3, a4 => if? (decide ((a3.length : Int) > 0)) (get? a3 (0) fun x5 => get? a3 (1) fun x6 => bdp? (F_leaf_one N x5) (some ((Version.mk 0 0 0 0 0 0 0 (Curve.mk [])), 11)) fun v7 => bdp? (F_leaf_one N x6) (some ((Version.mk 0 0 0 0 0 0 0 (Curve.mk [])), 11)) fun v8 => if? ((v8 == 0)) (bdp? (F_leaf_must N true) (some ((Version.mk 0 0 0 0 0 0 0 (Curve.mk [])), 11)) fun v9 => get? a3 (2) fun x10 => get? a3 (3) fun x11 => gd? ((a4.length + [(Point.mk v7 (Rat.mk (v8 == 1) x10 x11))].length) * 48 ≤ 140737488355328) (gd? ((4 : Int).toNat ≤ a3.length) (L_leaf_GetVersion_0 N v1 m1 ((a3.drop (4 : Int).toNat).take (a3.length - (4 : Int).toNat)) (a4 ++ [(Point.mk v7 (Rat.mk (v8 == 1) x10 x11))])))) (bdp? (F_leaf_must N (v8 == 1)) (some ((Version.mk 0 0 0 0 0 0 0 (Curve.mk [])), 11)) fun v12 => get? a3 (2) fun x13 => get? a3 (3) fun x14 => gd? ((a4.length + [(Point.mk v7 (Rat.mk (v8 == 1) x13 x14))].length) * 48 ≤ 140737488355328) (gd? ((4 : Int).toNat ≤ a3.length) (L_leaf_GetVersion_0 N v1 m1 ((a3.drop (4 : Int).toNat).take (a3.length - (4 : Int).toNat)) (a4 ++ [(Point.mk v7 (Rat.mk (v8 == 1) x13 x14))]))))) (get? v1.1 (1) fun x15 => get? v1.1 (2) fun x16 => get? v1.1 (3) fun x17 => get? v1.1 (4) fun x18 => get? v1.1 (5) fun x19 => get? v1.1 (6) fun x20 => get? v1.1 (7) fun x21 => some ((Version.mk x15 x16 x17 x18 x19 x20 x21 (Curve.mk a4)), 0))
def I_leaf_GetVersion_0 (N : Nat) (v1 : ((List Int) × (List Str))) (r : (Version × Int)) (n : Nat) (s : AState) : Prop := ∃ (a3 : (List Str)) (a4 : (List Point)), L_leaf_GetVersion_0 N v1 n a3 a4 = some r ∧ s = ⟨envL [(2, .ptr (.O 0) 0), (3, .ptr (.O 1) 0), (4, .D (.L (v1.1.map (rI .i64)))), (5, .D (.L (a3.map rS))), (6, .ptr (.O 2) 0), (86, .ptr (.O 1) 0)], ownL [], ownL [some (.box ([.D (.I .i64 0), .D (.I .i64 0), .D (.I .i64 0), .D (.I .i64 0), .D (.I .i64 0), .D (.I .i64 0), .D (.I .i64 0), .D (.L [])])), some (.box ([.D (.I .i64 0)])), some (.box ([.sl (.O 3) 4 0 a4.length])), some (.row true 4 (a4.map Point.row))], 4⟩
def F_leaf_GetVersion (N : Nat) (p0 : Str) : Option (Version × Int) := bdp? (F_leaf_head N p0 2 8 true) (some ((Version.mk 0 0 0 0 0 0 0 (Curve.mk [])), 11)) fun v1 => bdp? (F_leaf_must N ((Int.tmod (v1.2.length : Int) 4) == 0)) (some ((Version.mk 0 0 0 0 0 0 0 (Curve.mk [])), 11)) fun v2 => L_leaf_GetVersion_0 N v1 N v1.2 []
theorem c_leaf_GetVersion (N : Nat) (p0 : Str) (r : (Version × Int)) (h : F_leaf_GetVersion N p0 = some r) : ACall Tryd.prog 54 [.D (.S p0)] [] (.tup [.agg [.D (.I .i64 r.1.Kind), .D (.I .i64 r.1.Gauge), .D (.I .i64 r.1.Seq), .D (.I .i64 r.1.Known), .D (.I .i64 r.1.From), .D (.I .i64 r.1.To), .D (.I .i64 r.1.Shift), .D (.L (r.1.Curve.Points.map Point.row))], .D (.I .i64 r.2)]) [] [] := by
 refine ACall.of_bodyRK [51, 76, 3000023, 3000024, 3000027, 3000028, 3000056, 3000057, 3000059, 3000060, 3000062, 3000063, 3000065, 3000066, 3000068, 3000069, 3000071, 3000072, 3000074, 3000075, 4000103, 4000105, 4000106] (fn := Tryd.f54) (rcs := [f54p0]) (ros := f54g1) (rc := f54c) (g := 102) (xs := [.tmp 3]) (rs := f54r) (N := 85) Tryd.func54 rfl rfl (by kernel_rfl) (by kernel_rfl) (by kernel_rfl) Tryd.ntmps54 (by rw [Tryd.ntmps54]; simp) ?_
 unfold F_leaf_GetVersion at h
 unfold f54p0 f54c f54r
 rw [entry_eq _ _]
 rcases F_bdp h with ⟨h1, h⟩ | ⟨v1, h1, h⟩
 ·simp only[push_cast,seval]
  refine callP_pn (by rfl) (c_leaf_head N _ _ _ _ _ h1) ?_ ?_
  ·simp only[push_cast,seval] <;> rfl
  simp only[push_cast,seval]
  refine DEndR.pan [.O 1] (c_rec_pan102 (x := 0)) (by decide) rfl ?_ ?_ ?_ ?_
  ·simp only[push_cast,seval] <;> rfl
  ·simp only[push_cast,seval] <;> rfl
  ·simp only[push_cast,seval] <;> rfl
  obtain rfl := Option.some.inj h
  simp only[push_cast,seval]
  refine e_ret (.inr rfl) ?_
  simp only[push_cast,seval,aret,aresults,aresult]
  refine ⟨_, rfl, ?_⟩
  first | (simp only[push_cast,seval] <;> rfl) | rfl
 simp only[push_cast,seval]
 refine callP_new (by rfl) (c_leaf_head N _ _ _ _ _ h1) ?_ rfl ?_
 ·simp only[push_cast,seval] <;> rfl
 rcases F_bdp h with ⟨h2, h⟩ | ⟨v2, h2, h⟩
 ·simp only[push_cast,seval]
  refine callP_pn (by rfl) (c_leaf_must N _ _ h2) ?_ ?_
  ·simp only[push_cast,seval] <;> rfl
  simp only[push_cast,seval]
  refine DEndR.pan [.O 1] (c_rec_pan102 (x := 0)) (by decide) rfl ?_ ?_ ?_ ?_
  ·simp only[push_cast,seval] <;> rfl
  ·simp only[push_cast,seval] <;> rfl
  ·simp only[push_cast,seval] <;> rfl
  obtain rfl := Option.some.inj h
  simp only[push_cast,seval]
  refine e_ret (.inr rfl) ?_
  simp only[push_cast,seval,aret,aresults,aresult]
  refine ⟨_, rfl, ?_⟩
  first | (simp only[push_cast,seval] <;> rfl) | rfl
 simp only[push_cast,seval]
 refine callP_flat (by rfl) (c_leaf_must N _ _ h2) ?_ rfl ?_
 ·simp only[push_cast,seval] <;> rfl
 simp only[push_cast,seval]
 refine loop_ownB (.O 2) [.fl []] 0 4 (by rfl) (by rfl) ?_
 simp only[push_cast,seval]
 refine loop_of (I_leaf_GetVersion_0 N v1 _) N [2, 3, 4, 5, 6, 86] [0, 1, 2, 3] (by decide) ⟨v1.2, [], h, ?_⟩ ?_
 ·rw [wk_mk]
  simp only[push_cast,seval] <;> rfl
 rintro n s ⟨a3, a4, h, rfl⟩
 rcases n with _ | m1
 ·exact absurd h (by simp [L_leaf_GetVersion_0])
 rw [L_leaf_GetVersion_0] at h
 unfold f54b10
 rcases F_if h with ⟨h3, h⟩ | ⟨h3, h⟩
 rotate_left
 ·simp only[push_cast,seval,h3]
  refine regS_of true [.O 2] (by rfl) ?_
  obtain ⟨x15, h4, h5, h⟩ := F_get h
  have h6 := get_lt h4 h5
  have h7 := map_get (rI .i64) h5
  try simp only[push_cast,seval] at h7
  obtain ⟨x16, h8, h9, h⟩ := F_get h
  have h10 := get_lt h8 h9
  have h11 := map_get (rI .i64) h9
  try simp only[push_cast,seval] at h11
  obtain ⟨x17, h12, h13, h⟩ := F_get h
  have h14 := get_lt h12 h13
  have h15 := map_get (rI .i64) h13
  try simp only[push_cast,seval] at h15
  obtain ⟨x18, h16, h17, h⟩ := F_get h
  have h18 := get_lt h16 h17
  have h19 := map_get (rI .i64) h17
  try simp only[push_cast,seval] at h19
  obtain ⟨x19, h20, h21, h⟩ := F_get h
  have h22 := get_lt h20 h21
  have h23 := map_get (rI .i64) h21
  try simp only[push_cast,seval] at h23
  obtain ⟨x20, h24, h25, h⟩ := F_get h
  have h26 := get_lt h24 h25
  have h27 := map_get (rI .i64) h25
  try simp only[push_cast,seval] at h27
  obtain ⟨x21, h28, h29, h⟩ := F_get h
  have h30 := get_lt h28 h29
  have h31 := map_get (rI .i64) h29
  try simp only[push_cast,seval] at h31
  simp only[push_cast,seval,h3,h4,h7,h6,h8,h11,h10,h12,h15,h14,h16,h19,h18,h20,h23,h22,h24,h27,h26,h28,h31,h30]
  refine DEndR.ret [.O 1] (.inr rfl) (c_rec_ret102 (x := 0)) (by decide) rfl ?_ ?_ ?_ ?_
  ·simp only[push_cast,seval,h3,h4,h7,h6,h8,h11,h10,h12,h15,h14,h16,h19,h18,h20,h23,h22,h24,h27,h26,h28,h31,h30] <;> rfl
  ·simp only[push_cast,seval,h3,h4,h7,h6,h8,h11,h10,h12,h15,h14,h16,h19,h18,h20,h23,h22,h24,h27,h26,h28,h31,h30] <;> rfl
  ·simp only[push_cast,seval,h3,h4,h7,h6,h8,h11,h10,h12,h15,h14,h16,h19,h18,h20,h23,h22,h24,h27,h26,h28,h31,h30] <;> rfl
  obtain rfl := Option.some.inj h
  simp only[push_cast,seval,h3,h4,h7,h6,h8,h11,h10,h12,h15,h14,h16,h19,h18,h20,h23,h22,h24,h27,h26,h28,h31,h30]
  refine e_ret (.inr rfl) ?_
  simp only[push_cast,seval,aret,aresults,aresult,h3,h4,h7,h6,h8,h11,h10,h12,h15,h14,h16,h19,h18,h20,h23,h22,h24,h27,h26,h28,h31,h30]
  refine ⟨_, rfl, ?_⟩
  first | (simp only[push_cast,seval,h3,h4,h7,h6,h8,h11,h10,h12,h15,h14,h16,h19,h18,h20,h23,h22,h24,h27,h26,h28,h31,h30] <;> rfl) | rfl
 obtain ⟨x5, h32, h33, h⟩ := F_get h
 have h34 := get_lt h32 h33
 have h35 := map_get rS h33
 try simp only[push_cast,seval] at h35
 obtain ⟨x6, h36, h37, h⟩ := F_get h
 have h38 := get_lt h36 h37
 have h39 := map_get rS h37
 try simp only[push_cast,seval] at h39
 rcases F_bdp h with ⟨h40, h⟩ | ⟨v7, h40, h⟩
 ·simp only[push_cast,seval,h3,h32,h35,h34,h36,h39,h38]
  refine callP_pn (by rfl) (c_leaf_one N _ _ h40) ?_ ?_
  ·simp only[push_cast,seval,h3,h32,h35,h34,h36,h39,h38] <;> rfl
  simp only[push_cast,seval,h3,h32,h35,h34,h36,h39,h38]
  refine DEndR.pan [.O 1] (c_rec_pan102 (x := 0)) (by decide) rfl ?_ ?_ ?_ ?_
  ·simp only[push_cast,seval,h3,h32,h35,h34,h36,h39,h38] <;> rfl
  ·simp only[push_cast,seval,h3,h32,h35,h34,h36,h39,h38] <;> rfl
  ·simp only[push_cast,seval,h3,h32,h35,h34,h36,h39,h38] <;> rfl
  obtain rfl := Option.some.inj h
  simp only[push_cast,seval,h3,h32,h35,h34,h36,h39,h38]
  refine e_ret (.inr rfl) ?_
  simp only[push_cast,seval,aret,aresults,aresult,h3,h32,h35,h34,h36,h39,h38]
  refine ⟨_, rfl, ?_⟩
  first | (simp only[push_cast,seval,h3,h32,h35,h34,h36,h39,h38] <;> rfl) | rfl
 simp only[push_cast,seval,h3,h32,h35,h34,h36,h39,h38]
 refine callP_flat (by rfl) (c_leaf_one N _ _ h40) ?_ rfl ?_
 ·simp only[push_cast,seval,h3,h32,h35,h34,h36,h39,h38] <;> rfl
 rcases F_bdp h with ⟨h41, h⟩ | ⟨v8, h41, h⟩
 ·simp only[push_cast,seval,h3,h32,h35,h34,h36,h39,h38]
  refine callP_pn (by rfl) (c_leaf_one N _ _ h41) ?_ ?_
  ·simp only[push_cast,seval,h3,h32,h35,h34,h36,h39,h38] <;> rfl
  simp only[push_cast,seval,h3,h32,h35,h34,h36,h39,h38]
  refine DEndR.pan [.O 1] (c_rec_pan102 (x := 0)) (by decide) rfl ?_ ?_ ?_ ?_
  ·simp only[push_cast,seval,h3,h32,h35,h34,h36,h39,h38] <;> rfl
  ·simp only[push_cast,seval,h3,h32,h35,h34,h36,h39,h38] <;> rfl
  ·simp only[push_cast,seval,h3,h32,h35,h34,h36,h39,h38] <;> rfl
  obtain rfl := Option.some.inj h
  simp only[push_cast,seval,h3,h32,h35,h34,h36,h39,h38]
  refine e_ret (.inr rfl) ?_
  simp only[push_cast,seval,aret,aresults,aresult,h3,h32,h35,h34,h36,h39,h38]
  refine ⟨_, rfl, ?_⟩
  first | (simp only[push_cast,seval,h3,h32,h35,h34,h36,h39,h38] <;> rfl) | rfl
 simp only[push_cast,seval,h3,h32,h35,h34,h36,h39,h38]
 refine callP_flat (by rfl) (c_leaf_one N _ _ h41) ?_ rfl ?_
 ·simp only[push_cast,seval,h3,h32,h35,h34,h36,h39,h38] <;> rfl
 rcases F_if h with ⟨h42, h⟩ | ⟨h42, h⟩
 ·rcases F_bdp h with ⟨h43, h⟩ | ⟨v9, h43, h⟩
  ·simp only[push_cast,seval,h3,h32,h35,h34,h36,h39,h38,h42]
   refine callP_pn (by rfl) (c_leaf_must N _ _ h43) ?_ ?_
   ·simp only[push_cast,seval,h3,h32,h35,h34,h36,h39,h38,h42] <;> rfl
   simp only[push_cast,seval,h3,h32,h35,h34,h36,h39,h38,h42]
   refine DEndR.pan [.O 1] (c_rec_pan102 (x := 0)) (by decide) rfl ?_ ?_ ?_ ?_
   ·simp only[push_cast,seval,h3,h32,h35,h34,h36,h39,h38,h42] <;> rfl
   ·simp only[push_cast,seval,h3,h32,h35,h34,h36,h39,h38,h42] <;> rfl
   ·simp only[push_cast,seval,h3,h32,h35,h34,h36,h39,h38,h42] <;> rfl
   obtain rfl := Option.some.inj h
   simp only[push_cast,seval,h3,h32,h35,h34,h36,h39,h38,h42]
   refine e_ret (.inr rfl) ?_
   simp only[push_cast,seval,aret,aresults,aresult,h3,h32,h35,h34,h36,h39,h38,h42]
   refine ⟨_, rfl, ?_⟩
   first | (simp only[push_cast,seval,h3,h32,h35,h34,h36,h39,h38,h42] <;> rfl) | rfl
  simp only[push_cast,seval,h3,h32,h35,h34,h36,h39,h38,h42]
  refine callP_flat (by rfl) (c_leaf_must N _ _ h43) ?_ rfl ?_
  ·simp only[push_cast,seval,h3,h32,h35,h34,h36,h39,h38,h42] <;> rfl
  obtain ⟨x10, h44, h45, h⟩ := F_get h
  have h46 := get_lt h44 h45
  have h47 := map_get rS h45
  try simp only[push_cast,seval] at h47
  obtain ⟨x11, h48, h49, h⟩ := F_get h
  have h50 := get_lt h48 h49
  have h51 := map_get rS h49
  try simp only[push_cast,seval] at h51
  obtain ⟨h52, h⟩ := F_gd h
  try simp only[push_cast,seval] at h52
  obtain ⟨h53, h⟩ := F_gd h
  try simp only[push_cast,seval] at h53
  simp only[push_cast,seval,h3,h32,h35,h34,h36,h39,h38,h42,h44,h47,h46,h48,h51,h50,h52,h53]
  refine lpK_of m1 [2, 3, 4, 5, 6, 86] [0, 1, 2, 5] (by omega) (by decide) ⟨((a3.drop (4 : Int).toNat).take (a3.length - (4 : Int).toNat)), (a4 ++ [(Point.mk v7 (Rat.mk (v8 == 1) x10 x11))]), (by first | exact h | simpa only [*] using h), ?_⟩
  rw [wk_mk]
  simp only[push_cast,seval,h3,h32,h35,h34,h36,h39,h38,h42,h44,h47,h46,h48,h51,h50,h52,h53] <;> rfl
 rcases F_bdp h with ⟨h54, h⟩ | ⟨v12, h54, h⟩
 ·simp only[push_cast,seval,h3,h32,h35,h34,h36,h39,h38,h42]
  refine callP_pn (by rfl) (c_leaf_must N _ _ h54) ?_ ?_
  ·simp only[push_cast,seval,h3,h32,h35,h34,h36,h39,h38,h42] <;> rfl
  simp only[push_cast,seval,h3,h32,h35,h34,h36,h39,h38,h42]
  refine DEndR.pan [.O 1] (c_rec_pan102 (x := 0)) (by decide) rfl ?_ ?_ ?_ ?_
  ·simp only[push_cast,seval,h3,h32,h35,h34,h36,h39,h38,h42] <;> rfl
  ·simp only[push_cast,seval,h3,h32,h35,h34,h36,h39,h38,h42] <;> rfl
  ·simp only[push_cast,seval,h3,h32,h35,h34,h36,h39,h38,h42] <;> rfl
  obtain rfl := Option.some.inj h
  simp only[push_cast,seval,h3,h32,h35,h34,h36,h39,h38,h42]
  refine e_ret (.inr rfl) ?_
  simp only[push_cast,seval,aret,aresults,aresult,h3,h32,h35,h34,h36,h39,h38,h42]
  refine ⟨_, rfl, ?_⟩
  first | (simp only[push_cast,seval,h3,h32,h35,h34,h36,h39,h38,h42] <;> rfl) | rfl
 simp only[push_cast,seval,h3,h32,h35,h34,h36,h39,h38,h42]
 refine callP_flat (by rfl) (c_leaf_must N _ _ h54) ?_ rfl ?_
 ·simp only[push_cast,seval,h3,h32,h35,h34,h36,h39,h38,h42] <;> rfl
 obtain ⟨x13, h55, h56, h⟩ := F_get h
 have h57 := get_lt h55 h56
 have h58 := map_get rS h56
 try simp only[push_cast,seval] at h58
 obtain ⟨x14, h59, h60, h⟩ := F_get h
 have h61 := get_lt h59 h60
 have h62 := map_get rS h60
 try simp only[push_cast,seval] at h62
 obtain ⟨h63, h⟩ := F_gd h
 try simp only[push_cast,seval] at h63
 obtain ⟨h64, h⟩ := F_gd h
 try simp only[push_cast,seval] at h64
 simp only[push_cast,seval,h3,h32,h35,h34,h36,h39,h38,h42,h55,h58,h57,h59,h62,h61,h63,h64]
 refine lpK_of m1 [2, 3, 4, 5, 6, 86] [0, 1, 2, 5] (by omega) (by decide) ⟨((a3.drop (4 : Int).toNat).take (a3.length - (4 : Int).toNat)), (a4 ++ [(Point.mk v7 (Rat.mk (v8 == 1) x13 x14))]), (by first | exact h | simpa only [*] using h), ?_⟩
 rw [wk_mk]
 simp only[push_cast,seval,h3,h32,h35,h34,h36,h39,h38,h42,h55,h58,h57,h59,h62,h61,h63,h64] <;> rfl

def f131g0 : List RO := [o_ 2 (.mv (.const (.int .i64 0))), o_ 3 (.mv (.const (.int .i64 0))), o_ 4 (.mv (.const (.int .i64 0)))]
def f131g1 : List RO := [o_ 8 (.mv (t_ 0)), o_ 9 (.call (.func 54) [(t_ 8)]), o_ 7 (.mv (t_ 9)), o_ 10 (.ext (t_ 7) 0), o_ 11 (.ext (t_ 7) 1), o_ 5 (.new [(.D (.I .i64 0)), (.D (.I .i64 0)), (.D (.I .i64 0)), (.D (.I .i64 0)), (.D (.I .i64 0)), (.D (.I .i64 0)), (.D (.I .i64 0)), (.fl [])]), n_ (.store 8 (t_ 5) (t_ 10)), o_ 6 (.mv (t_ 11))]
def f131g2 : List RO := [o_ 12 (.faddr 1 (t_ 5)), o_ 13 (.load .none (t_ 12)), o_ 14 (.faddr 4 (t_ 5)), o_ 15 (.load .none (t_ 14)), o_ 16 (.mv (t_ 6)), o_ 2 (.mv (t_ 13)), o_ 3 (.mv (t_ 15)), o_ 4 (.mv (t_ 16))]
def f131c : RCode := (.seq (.reg .false f131g0) (.seq (.reg .false f131g1) (.seq (.reg .true f131g2) .ret)))
def f131r : List RRes := [(.tmp 2), (.tmp 3), (.tmp 4)]
attribute [push_cast] f131g0 f131g1 f131g2
def F_leaf_kinds_2 (N : Nat) (p0 : Str) : Option (Int × Int × Int) := bd? (F_leaf_GetVersion N p0) fun v1 => some (v1.1.Gauge, v1.1.From, v1.2)
theorem c_leaf_kinds_2 (N : Nat) (p0 : Str) (r : (Int × Int × Int)) (h : F_leaf_kinds_2 N p0 = some r) : ACall Tryd.prog 131 [.D (.S p0)] [] (.tup [.D (.I .i64 r.1), .D (.I .i64 r.2.1), .D (.I .i64 r.2.2)]) [] [] := by
 refine ACall.of_bodyW [] (fn := Tryd.f131) (rc := f131c) (rs := f131r) Tryd.func131 rfl rfl (by kernel_rfl) (by kernel_rfl) (by kernel_rfl) (by rw [Tryd.ntmps131]; simp) ?_
 unfold F_leaf_kinds_2 at h
 unfold f131c f131r
 rw [entry_eq _ _]
 obtain ⟨v1, h1, h⟩ := F_bd h
 simp only[push_cast,seval]
 refine call_new (by rfl) (c_leaf_GetVersion N _ _ h1) ?_ rfl ?_
 ·simp only[push_cast,seval] <;> rfl
 obtain rfl := Option.some.inj h
 simp only[push_cast,seval]
 refine e_ret (.inr rfl) ?_
 simp only[push_cast,seval,aret,aresults,aresult]
 refine ⟨_, rfl, ?_⟩
 first | (simp only[push_cast,seval] <;> rfl) | rfl

def f132g0 : List RO := [o_ 2 (.mv (.const (.int .i64 0))), o_ 3 (.mv (.const (.int .i64 0))), o_ 4 (.mv (.const (.int .i64 0)))]
def f132g1 : List RO := [o_ 8 (.mv (t_ 0)), o_ 9 (.call (.func 56) [(t_ 8)]), o_ 7 (.mv (t_ 9)), o_ 10 (.ext (t_ 7) 0), o_ 11 (.ext (t_ 7) 1), o_ 5 (.new [(.D (.I .i64 0)), (.D (.I .i64 0)), (.D (.I .i64 0)), (.D (.I .i64 0)), (.D (.I .i64 0)), (.fl [])]), n_ (.store 6 (t_ 5) (t_ 10)), o_ 6 (.mv (t_ 11))]
def f132g2 : List RO := [o_ 12 (.faddr 0 (t_ 5)), o_ 13 (.load .none (t_ 12)), o_ 14 (.faddr 2 (t_ 5)), o_ 15 (.load .none (t_ 14)), o_ 16 (.mv (t_ 6)), o_ 2 (.mv (t_ 13)), o_ 3 (.mv (t_ 15)), o_ 4 (.mv (t_ 16))]
def f132c : RCode := (.seq (.reg .false f132g0) (.seq (.reg .false f132g1) (.seq (.reg .true f132g2) .ret)))
def f132r : List RRes := [(.tmp 2), (.tmp 3), (.tmp 4)]
attribute [push_cast] f132g0 f132g1 f132g2
def F_leaf_kinds_3 (N : Nat) (p0 : Str) : Option (Int × Int × Int) := bd? (F_leaf_GetBlock N p0) fun v1 => some (v1.1.Gauge, v1.1.From, v1.2)
theorem c_leaf_kinds_3 (N : Nat) (p0 : Str) (r : (Int × Int × Int)) (h : F_leaf_kinds_3 N p0 = some r) : ACall Tryd.prog 132 [.D (.S p0)] [] (.tup [.D (.I .i64 r.1), .D (.I .i64 r.2.1), .D (.I .i64 r.2.2)]) [] [] := by
 refine ACall.of_bodyW [] (fn := Tryd.f132) (rc := f132c) (rs := f132r) Tryd.func132 rfl rfl (by kernel_rfl) (by kernel_rfl) (by kernel_rfl) (by rw [Tryd.ntmps132]; simp) ?_
 unfold F_leaf_kinds_3 at h
 unfold f132c f132r
 rw [entry_eq _ _]
 obtain ⟨v1, h1, h⟩ := F_bd h
 simp only[push_cast,seval]
 refine call_new (by rfl) (c_leaf_GetBlock N _ _ h1) ?_ rfl ?_
 ·simp only[push_cast,seval] <;> rfl
 obtain rfl := Option.some.inj h
 simp only[push_cast,seval]
 refine e_ret (.inr rfl) ?_
 simp only[push_cast,seval,aret,aresults,aresult]
 refine ⟨_, rfl, ?_⟩
 first | (simp only[push_cast,seval] <;> rfl) | rfl

def f151g0 : List RO := [o_ 2 (.mv (.const (.bool .false)))]
def f151g1 : List RO := [o_ 3 (.mv (t_ 0)), o_ 4 (.bin .rem (t_ 3) (.const (.int .i64 4))), o_ 5 (.bin .eql (t_ 4) (.const (.int .i64 0))), o_ 6 (.mv (t_ 5)), ⟨(.some 7), (.mv (t_ 0)), (.some (6, .true))⟩, ⟨(.some 8), (.bin .rem (t_ 7) (.const (.int .i64 100))), (.some (6, .true))⟩, ⟨(.some 9), (.bin .neq (t_ 8) (.const (.int .i64 0))), (.some (6, .true))⟩, o_ 10 (.pick (t_ 6) (t_ 9) (.const (.bool .false))), o_ 11 (.mv (t_ 10)), ⟨(.some 12), (.mv (t_ 0)), (.some (11, .false))⟩, ⟨(.some 13), (.bin .rem (t_ 12) (.const (.int .i64 400))), (.some (11, .false))⟩, ⟨(.some 14), (.bin .eql (t_ 13) (.const (.int .i64 0))), (.some (11, .false))⟩, o_ 15 (.pick (t_ 11) (.const (.bool .true)) (t_ 14)), o_ 2 (.mv (t_ 15))]
def f151c : RCode := (.seq (.reg .false f151g0) (.seq (.reg .false f151g1) .ret))
def f151r : List RRes := [(.tmp 2)]
attribute [push_cast] f151g0 f151g1
def F_calendar_Leap (N : Nat) (p0 : Int) : Option Bool := if? (((Int.tmod p0 4) == 0)) (if? (((Int.tmod p0 100) != 0)) (some (true)) (some (((Int.tmod p0 400) == 0)))) (some (((Int.tmod p0 400) == 0)))
theorem c_calendar_Leap (N : Nat) (p0 : Int) (r : Bool) (h : F_calendar_Leap N p0 = some r) : ACall Tryd.prog 151 [.D (.I .i64 p0)] [] (.D (.B r)) [] [] := by
 refine ACall.of_bodyW [] (fn := Tryd.f151) (rc := f151c) (rs := f151r) Tryd.func151 rfl rfl (by kernel_rfl) (by kernel_rfl) (by kernel_rfl) (by rw [Tryd.ntmps151]; simp) ?_
 unfold F_calendar_Leap at h
 unfold f151c f151r
 rw [entry_eq _ _]
 rcases F_if h with ⟨h1, h⟩ | ⟨h1, h⟩
 rotate_left
 ·try simp only[push_cast,seval] at h1
  obtain rfl := Option.some.inj h
  simp only[push_cast,seval,h1]
  refine e_ret (.inr rfl) ?_
  simp only[push_cast,seval,aret,aresults,aresult,h1]
  refine ⟨_, rfl, ?_⟩
  first | (simp only[push_cast,seval,h1] <;> rfl) | rfl
 try simp only[push_cast,seval] at h1
 rcases F_if h with ⟨h2, h⟩ | ⟨h2, h⟩
 ·try simp only[push_cast,seval] at h2
  obtain rfl := Option.some.inj h
  simp only[push_cast,seval,h1,h2]
  refine e_ret (.inr rfl) ?_
  simp only[push_cast,seval,aret,aresults,aresult,h1,h2]
  refine ⟨_, rfl, ?_⟩
  first | (simp only[push_cast,seval,h1,h2] <;> rfl) | rfl
 try simp only[push_cast,seval] at h2
 obtain rfl := Option.some.inj h
 simp only[push_cast,seval,h1,h2]
 refine e_ret (.inr rfl) ?_
 simp only[push_cast,seval,aret,aresults,aresult,h1,h2]
 refine ⟨_, rfl, ?_⟩
 first | (simp only[push_cast,seval,h1,h2] <;> rfl) | rfl

def f133g0 : List RO := [o_ 2 (.mv (.const (.int .i64 0)))]
def f133g1 : List RO := [o_ 3 (.mv (t_ 0)), o_ 4 (.call (.func 151) [(t_ 3)])]
def f133g2 : List RO := [o_ 2 (.mv (.const (.int .i64 366)))]
def f133g3 : List RO := [o_ 2 (.mv (.const (.int .i64 365)))]
def f133c : RCode := (.seq (.reg .false f133g0) (.seq (.seq (.reg .false f133g1) (.cond (t_ 4) (.seq (.reg .false f133g2) .ret) .skip)) (.seq (.reg .false f133g3) .ret)))
def f133r : List RRes := [(.tmp 2)]
attribute [push_cast] f133g0 f133g1 f133g2 f133g3
def F_calendar_days (N : Nat) (p0 : Int) : Option Int := bd? (F_calendar_Leap N p0) fun v1 => if? (v1) (some (366)) (some (365))
theorem c_calendar_days (N : Nat) (p0 : Int) (r : Int) (h : F_calendar_days N p0 = some r) : ACall Tryd.prog 133 [.D (.I .i64 p0)] [] (.D (.I .i64 r)) [] [] := by
 refine ACall.of_bodyW [] (fn := Tryd.f133) (rc := f133c) (rs := f133r) Tryd.func133 rfl rfl (by kernel_rfl) (by kernel_rfl) (by kernel_rfl) (by rw [Tryd.ntmps133]; simp) ?_
 unfold F_calendar_days at h
 unfold f133c f133r
 rw [entry_eq _ _]
 obtain ⟨v1, h1, h⟩ := F_bd h
 simp only[push_cast,seval]
 refine call_flat (by rfl) (c_calendar_Leap N _ _ h1) ?_ rfl ?_
 ·simp only[push_cast,seval] <;> rfl
 rcases F_if h with ⟨h2, h⟩ | ⟨h2, h⟩
 ·obtain rfl := Option.some.inj h
  simp only[push_cast,seval,h2]
  refine e_ret (.inr rfl) ?_
  simp only[push_cast,seval,aret,aresults,aresult,h2]
  refine ⟨_, rfl, ?_⟩
  first | (simp only[push_cast,seval,h2] <;> rfl) | rfl
 obtain rfl := Option.some.inj h
 simp only[push_cast,seval,h2]
 refine e_ret (.inr rfl) ?_
 simp only[push_cast,seval,aret,aresults,aresult,h2]
 refine ⟨_, rfl, ?_⟩
 first | (simp only[push_cast,seval,h2] <;> rfl) | rfl

def f134g0 : List RO := [o_ 4 (.mv (.const (.int .i64 0)))]
def f134g1 : List RO := [o_ 5 (.mv (t_ 1)), o_ 6 (.bin .eql (t_ 5) (.const (.int .i64 2))), o_ 7 (.mv (t_ 6)), ⟨(.some 8), (.mv (t_ 0)), (.some (7, .true))⟩, ⟨(.some 9), (.call (.func 151) [(t_ 8)]), (.some (7, .true))⟩, o_ 10 (.pick (t_ 7) (t_ 9) (.const (.bool .false)))]
def f134g2 : List RO := [o_ 4 (.mv (.const (.int .i64 29)))]
def f134g3 : List RO := [o_ 11 (.mv (t_ 1)), o_ 12 (.bin .sub (t_ 11) (.const (.int .i64 1))), o_ 13 (.iaddrA 12 1 (.global 2) (t_ 12)), o_ 14 (.load .none (t_ 13)), o_ 4 (.mv (t_ 14))]
def f134c : RCode := (.seq (.reg .false f134g0) (.seq (.seq (.reg .false f134g1) (.cond (t_ 10) (.seq (.reg .false f134g2) .ret) .skip)) (.seq (.reg .false f134g3) .ret)))
def f134r : List RRes := [(.tmp 4)]
attribute [push_cast] f134g0 f134g1 f134g2 f134g3
def F_calendar_length (N : Nat) (p0 : Int) (p1 : Int) : Option Int := if? ((p1 == 2)) (bd? (F_calendar_Leap N p0) fun v1 => if? (v1) (some (29)) (ck .i64 (p1 - 1) (gd? (0 ≤ (p1 - 1)) (gd? ((p1 - 1) < 12) (get? gA2.l ((p1 - 1)) fun x2 => some (x2)))))) (ck .i64 (p1 - 1) (gd? (0 ≤ (p1 - 1)) (gd? ((p1 - 1) < 12) (get? gA2.l ((p1 - 1)) fun x3 => some (x3)))))
theorem c_calendar_length (N : Nat) (p0 : Int) (p1 : Int) (r : Int) (h : F_calendar_length N p0 p1 = some r) : ACall Tryd.prog 134 [.D (.I .i64 p0), .D (.I .i64 p1)] [] (.D (.I .i64 r)) [] [] := by
 refine ACall.of_bodyW [] (fn := Tryd.f134) (rc := f134c) (rs := f134r) Tryd.func134 rfl rfl (by kernel_rfl) (by kernel_rfl) (by kernel_rfl) (by rw [Tryd.ntmps134]; simp) ?_
 unfold F_calendar_length at h
 unfold f134c f134r
 rw [entry_eq _ _]
 rcases F_if h with ⟨h1, h⟩ | ⟨h1, h⟩
 rotate_left
 ·obtain ⟨h2, h⟩ := F_ck h
  try simp only[push_cast,seval] at h2
  obtain ⟨h3, h⟩ := F_gd h
  try simp only[push_cast,seval] at h3
  obtain ⟨h4, h⟩ := F_gd h
  try simp only[push_cast,seval] at h4
  obtain ⟨x3, h5, h6, h⟩ := F_get h
  have h7 := get_lt h5 h6
  have h8 := map_getG (DV.I .i64) h6
  try simp only[push_cast,seval] at h8 h5 h7
  obtain rfl := Option.some.inj h
  simp only[push_cast,seval,h1,h2,h3,h4,h5,h8,h7]
  refine e_ret (.inr rfl) ?_
  simp only[push_cast,seval,aret,aresults,aresult,h1,h2,h3,h4,h5,h8,h7]
  refine ⟨_, rfl, ?_⟩
  first | (simp only[push_cast,seval,h1,h2,h3,h4,h5,h8,h7] <;> rfl) | rfl
 obtain ⟨v1, h9, h⟩ := F_bd h
 simp only[push_cast,seval,h1]
 refine call_flat (by rfl) (c_calendar_Leap N _ _ h9) ?_ rfl ?_
 ·simp only[push_cast,seval,h1] <;> rfl
 rcases F_if h with ⟨h10, h⟩ | ⟨h10, h⟩
 ·obtain rfl := Option.some.inj h
  simp only[push_cast,seval,h1,h10]
  refine e_ret (.inr rfl) ?_
  simp only[push_cast,seval,aret,aresults,aresult,h1,h10]
  refine ⟨_, rfl, ?_⟩
  first | (simp only[push_cast,seval,h1,h10] <;> rfl) | rfl
 obtain ⟨h11, h⟩ := F_ck h
 try simp only[push_cast,seval] at h11
 obtain ⟨h12, h⟩ := F_gd h
 try simp only[push_cast,seval] at h12
 obtain ⟨h13, h⟩ := F_gd h
 try simp only[push_cast,seval] at h13
 obtain ⟨x2, h14, h15, h⟩ := F_get h
 have h16 := get_lt h14 h15
 have h17 := map_getG (DV.I .i64) h15
 try simp only[push_cast,seval] at h17 h14 h16
 obtain rfl := Option.some.inj h
 simp only[push_cast,seval,h1,h10,h11,h12,h13,h14,h17,h16]
 refine e_ret (.inr rfl) ?_
 simp only[push_cast,seval,aret,aresults,aresult,h1,h10,h11,h12,h13,h14,h17,h16]
 refine ⟨_, rfl, ?_⟩
 first | (simp only[push_cast,seval,h1,h10,h11,h12,h13,h14,h17,h16] <;> rfl) | rfl

def f94g0 : List RO := [o_ 2 (.mv (.const (.int .i64 0))), o_ 3 (.mv (.const (.int .i64 0))), o_ 4 (.mv (.const (.int .i64 0))), o_ 5 (.mv (.const (.int .i64 0)))]
def f94g1 : List RO := [o_ 6 (.mv (t_ 0)), o_ 7 (.bin .lss (t_ 6) (.const (.int .i64 0))), o_ 8 (.mv (t_ 7)), ⟨(.some 9), (.mv (t_ 0)), (.some (8, .false))⟩, ⟨(.some 10), (.bin .gtr (t_ 9) (.const (.int .i64 14609))), (.some (8, .false))⟩, o_ 11 (.pick (t_ 8) (.const (.bool .true)) (t_ 10))]
def f94g2 : List RO := [o_ 2 (.mv (.const (.int .i64 0))), o_ 3 (.mv (.const (.int .i64 0))), o_ 4 (.mv (.const (.int .i64 0))), o_ 5 (.mv (.const (.int .i64 3)))]
def f94g3 : List RO := [o_ 2 (.mv (.const (.int .i64 2000))), o_ 3 (.mv (.const (.int .i64 1)))]
def f94g4 : List RO := [o_ 12 (.mv (t_ 0)), o_ 13 (.mv (t_ 2)), o_ 14 (.call (.func 133) [(t_ 13)]), o_ 15 (.bin .geq (t_ 12) (t_ 14))]
def f94g5 : List RO := [o_ 18 (.mv (t_ 0)), o_ 19 (.mv (t_ 2)), o_ 20 (.call (.func 133) [(t_ 19)]), o_ 21 (.bin .sub (t_ 18) (t_ 20)), o_ 0 (.mv (t_ 21))]
def f94g6 : List RO := [o_ 16 (.mv (t_ 2)), o_ 17 (.bin .add (t_ 16) (.const (.int .i64 1))), o_ 2 (.mv (t_ 17))]
def f94b7 : RCode := (.seq (.seq (.reg .false f94g4) (.cond (t_ 15) .skip (.exit 0))) (.seq (.block 1 (.reg .false f94g5)) (.reg .false f94g6)))
def f94g8 : List RO := [o_ 22 (.mv (t_ 0)), o_ 23 (.mv (t_ 2)), o_ 24 (.mv (t_ 3)), o_ 25 (.call (.func 134) [(t_ 23), (t_ 24)]), o_ 26 (.bin .geq (t_ 22) (t_ 25))]
def f94g9 : List RO := [o_ 29 (.mv (t_ 0)), o_ 30 (.mv (t_ 2)), o_ 31 (.mv (t_ 3)), o_ 32 (.call (.func 134) [(t_ 30), (t_ 31)]), o_ 33 (.bin .sub (t_ 29) (t_ 32)), o_ 0 (.mv (t_ 33))]
def f94g10 : List RO := [o_ 27 (.mv (t_ 3)), o_ 28 (.bin .add (t_ 27) (.const (.int .i64 1))), o_ 3 (.mv (t_ 28))]
def f94b11 : RCode := (.seq (.seq (.reg .false f94g8) (.cond (t_ 26) .skip (.exit 2))) (.seq (.block 3 (.reg .false f94g9)) (.reg .false f94g10)))
def f94g12 : List RO := [o_ 34 (.mv (t_ 2)), o_ 35 (.mv (t_ 3)), o_ 36 (.mv (t_ 0)), o_ 37 (.bin .add (t_ 36) (.const (.int .i64 1))), o_ 2 (.mv (t_ 34)), o_ 3 (.mv (t_ 35)), o_ 4 (.mv (t_ 37)), o_ 5 (.mv (.const (.int .i64 0)))]
def f94c : RCode := (.seq (.reg .false f94g0) (.seq (.seq (.reg .false f94g1) (.cond (t_ 11) (.seq (.reg .false f94g2) .ret) .skip)) (.seq (.reg .false f94g3) (.seq (.block 0 (.loop f94b7)) (.seq (.block 2 (.loop f94b11)) (.seq (.reg .false f94g12) .ret))))))
def f94r : List RRes := [(.tmp 2), (.tmp 3), (.tmp 4), (.tmp 5)]
attribute [push_cast] f94g0 f94g1 f94g2 f94g3 f94g4 f94g5 f94g6 f94g8 f94g9 f94g10 f94g12
def L_calendar_Date_1 (N : Nat) (a2 : Int) : Nat → Int → Int → Option (Int × Int × Int × Int)
  | 0, _, _ => none
  | m3+1, a5, a6 => bd? (F_calendar_length N a2 a6) fun v7 => if? (decide (a5 ≥ v7)) (bd? (F_calendar_length N a2 a6) fun v8 => ck .i64 (a5 - v8) (ck .i64 (a6 + 1) (L_calendar_Date_1 N a2 m3 (a5 - v8) (a6 + 1)))) (ck .i64 (a5 + 1) (some (a2, a6, (a5 + 1), 0)))
def I_calendar_Date_1 (N : Nat) (a2 : Int) (r : (Int × Int × Int × Int)) (n : Nat) (s : AState) : Prop := ∃ (a5 : Int) (a6 : Int), L_calendar_Date_1 N a2 n a5 a6 = some r ∧ s = ⟨envL [(0, .D (.I .i64 a5)), (2, .D (.I .i64 a2)), (3, .D (.I .i64 a6))], ownL [], ownL [], 0⟩
def L_calendar_Date_0 (N : Nat) : Nat → Int → Int → Option (Int × Int × Int × Int)
  | 0, _, _ => none
  | m1+1, a1, a2 => bd? (F_calendar_days N a2) fun v3 => if? (decide (a1 ≥ v3)) (bd? (F_calendar_days N a2) fun v4 => ck .i64 (a1 - v4) (ck .i64 (a2 + 1) (L_calendar_Date_0 N m1 (a1 - v4) (a2 + 1)))) (L_calendar_Date_1 N a2 N a1 1)
def I_calendar_Date_0 (N : Nat) (r : (Int × Int × Int × Int)) (n : Nat) (s : AState) : Prop := ∃ (a1 : Int) (a2 : Int), L_calendar_Date_0 N n a1 a2 = some r ∧ s = ⟨envL [(0, .D (.I .i64 a1)), (2, .D (.I .i64 a2)), (3, .D (.I .i64 1))], ownL [], ownL [], 0⟩
def F_calendar_Date (N : Nat) (p0 : Int) : Option (Int × Int × Int × Int) := if? (decide (p0 < 0)) (some (0, 0, 0, 3)) (if? (decide (p0 > 14609)) (some (0, 0, 0, 3)) (L_calendar_Date_0 N N p0 2000))
theorem c_calendar_Date (N : Nat) (p0 : Int) (r : (Int × Int × Int × Int)) (h : F_calendar_Date N p0 = some r) : ACall Tryd.prog 94 [.D (.I .i64 p0)] [] (.tup [.D (.I .i64 r.1), .D (.I .i64 r.2.1), .D (.I .i64 r.2.2.1), .D (.I .i64 r.2.2.2)]) [] [] := by
 refine ACall.of_bodyW [] (fn := Tryd.f94) (rc := f94c) (rs := f94r) Tryd.func94 rfl rfl (by kernel_rfl) (by kernel_rfl) (by kernel_rfl) (by rw [Tryd.ntmps94]; simp) ?_
 unfold F_calendar_Date at h
 unfold f94c f94r
 rw [entry_eq _ _]
 rcases F_if h with ⟨h1, h⟩ | ⟨h1, h⟩
 ·obtain rfl := Option.some.inj h
  simp only[push_cast,seval,h1]
  refine e_ret (.inr rfl) ?_
  simp only[push_cast,seval,aret,aresults,aresult,h1]
  refine ⟨_, rfl, ?_⟩
  first | (simp only[push_cast,seval,h1] <;> rfl) | rfl
 rcases F_if h with ⟨h2, h⟩ | ⟨h2, h⟩
 ·obtain rfl := Option.some.inj h
  simp only[push_cast,seval,h1,h2]
  refine e_ret (.inr rfl) ?_
  simp only[push_cast,seval,aret,aresults,aresult,h1,h2]
  refine ⟨_, rfl, ?_⟩
  first | (simp only[push_cast,seval,h1,h2] <;> rfl) | rfl
 simp only[push_cast,seval,h1,h2]
 refine loop_of (I_calendar_Date_0 N _) N [0, 2, 3] [] (by decide) ⟨p0, 2000, h, ?_⟩ ?_
 ·rw [wk_mk]
  simp only[push_cast,seval,h1,h2] <;> rfl
 rintro n s ⟨a1, a2, h, rfl⟩
 rcases n with _ | m1
 ·exact absurd h (by simp [L_calendar_Date_0])
 rw [L_calendar_Date_0] at h
 unfold f94b7
 obtain ⟨v3, h3, h⟩ := F_bd h
 simp only[push_cast,seval,h1,h2]
 refine call_flat (by rfl) (c_calendar_days N _ _ h3) ?_ rfl ?_
 ·simp only[push_cast,seval,h1,h2] <;> rfl
 rcases F_if h with ⟨h4, h⟩ | ⟨h4, h⟩
 ·obtain ⟨v4, h5, h⟩ := F_bd h
  simp only[push_cast,seval,h1,h2,h4]
  refine call_flat (by rfl) (c_calendar_days N _ _ h5) ?_ rfl ?_
  ·simp only[push_cast,seval,h1,h2,h4] <;> rfl
  obtain ⟨h6, h⟩ := F_ck h
  try simp only[push_cast,seval] at h6
  obtain ⟨h7, h⟩ := F_ck h
  try simp only[push_cast,seval] at h7
  simp only[push_cast,seval,h1,h2,h4,h6,h7]
  refine lpK_of m1 [0, 2, 3] [] (by omega) (by decide) ⟨(a1 - v4), (a2 + 1), (by first | exact h | simpa only [*] using h), ?_⟩
  rw [wk_mk]
  simp only[push_cast,seval,h1,h2,h4,h6,h7] <;> rfl
 simp only[push_cast,seval,h1,h2,h4]
 refine loop_of (I_calendar_Date_1 N a2 _) N [0, 2, 3] [] (by decide) ⟨a1, 1, h, ?_⟩ ?_
 ·rw [wk_mk]
  simp only[push_cast,seval,h1,h2,h4] <;> rfl
 rintro n s ⟨a5, a6, h, rfl⟩
 rcases n with _ | m3
 ·exact absurd h (by simp [L_calendar_Date_1])
 rw [L_calendar_Date_1] at h
 unfold f94b11
 obtain ⟨v7, h8, h⟩ := F_bd h
 simp only[push_cast,seval,h1,h2,h4]
 refine call_flat (by rfl) (c_calendar_length N _ _ _ h8) ?_ rfl ?_
 ·simp only[push_cast,seval,h1,h2,h4] <;> rfl
 rcases F_if h with ⟨h9, h⟩ | ⟨h9, h⟩
 rotate_left
 ·obtain ⟨h10, h⟩ := F_ck h
  try simp only[push_cast,seval] at h10
  obtain rfl := Option.some.inj h
  simp only[push_cast,seval,h1,h2,h4,h9,h10]
  refine e_ret (.inr rfl) ?_
  simp only[push_cast,seval,aret,aresults,aresult,h1,h2,h4,h9,h10]
  refine ⟨_, rfl, ?_⟩
  first | (simp only[push_cast,seval,h1,h2,h4,h9,h10] <;> rfl) | rfl
 obtain ⟨v8, h11, h⟩ := F_bd h
 simp only[push_cast,seval,h1,h2,h4,h9]
 refine call_flat (by rfl) (c_calendar_length N _ _ _ h11) ?_ rfl ?_
 ·simp only[push_cast,seval,h1,h2,h4,h9] <;> rfl
 obtain ⟨h12, h⟩ := F_ck h
 try simp only[push_cast,seval] at h12
 obtain ⟨h13, h⟩ := F_ck h
 try simp only[push_cast,seval] at h13
 simp only[push_cast,seval,h1,h2,h4,h9,h12,h13]
 refine lpK_of m3 [0, 2, 3] [] (by omega) (by decide) ⟨(a5 - v8), (a6 + 1), (by first | exact h | simpa only [*] using h), ?_⟩
 rw [wk_mk]
 simp only[push_cast,seval,h1,h2,h4,h9,h12,h13] <;> rfl

def f42g0 : List RO := [o_ 2 (.mv (.const (.int .i64 0))), o_ 3 (.mv (.const (.int .i64 0))), o_ 4 (.mv (.const (.int .i64 0)))]
def f42g1 : List RO := [o_ 14 (.call (.func 93) []), o_ 15 (.mv (.const (.int .i64 0)))]
def f42g2 : List RO := [o_ 16 (.bin .lss (t_ 15) (.const (.int .i64 3)))]
def f42g3 : List RO := [o_ 17 (.idxA 3 1 .none (t_ 14) (t_ 15)), o_ 6 (.mv (t_ 17))]
def f42g4 : List RO := [o_ 19 (.mv (t_ 6)), o_ 20 (.mv (t_ 0)), o_ 21 (.call (t_ 19) [(t_ 20)]), o_ 18 (.mv (t_ 21)), o_ 22 (.ext (t_ 18) 0), o_ 23 (.ext (t_ 18) 1), o_ 24 (.ext (t_ 18) 2), o_ 7 (.mv (t_ 22)), o_ 8 (.mv (t_ 23)), o_ 9 (.mv (t_ 24))]
def f42g5 : List RO := [o_ 25 (.mv (t_ 9)), o_ 26 (.bin .neq (t_ 25) (.const (.int .i64 0)))]
def f42g6 : List RO := [o_ 27 (.mv (t_ 7)), o_ 28 (.bin .lss (t_ 27) (.const (.int .i64 0))), o_ 29 (.mv (t_ 28)), ⟨(.some 30), (.mv (t_ 7)), (.some (29, .false))⟩, ⟨(.some 31), (.bin .geq (t_ 30) (.const (.int .i64 40))), (.some (29, .false))⟩, o_ 32 (.pick (t_ 29) (.const (.bool .true)) (t_ 31)), o_ 33 (.mv (t_ 32)), ⟨(.some 34), (.mv (t_ 8)), (.some (33, .false))⟩, ⟨(.some 35), (.bin .lss (t_ 34) (.const (.int .i64 0))), (.some (33, .false))⟩, o_ 36 (.pick (t_ 33) (.const (.bool .true)) (t_ 35)), o_ 37 (.mv (t_ 36)), ⟨(.some 38), (.mv (t_ 8)), (.some (37, .false))⟩, ⟨(.some 39), (.bin .geq (t_ 38) (.const (.int .i64 1402560))), (.some (37, .false))⟩, o_ 40 (.pick (t_ 37) (.const (.bool .true)) (t_ 39))]
def f42g7 : List RO := [o_ 2 (.mv (.const (.int .i64 0))), o_ 3 (.mv (.const (.int .i64 0))), o_ 4 (.mv (.const (.int .i64 3)))]
def f42g8 : List RO := [o_ 42 (.mv (t_ 8)), o_ 43 (.bin .quo (t_ 42) (.const (.int .i64 96))), o_ 44 (.call (.func 94) [(t_ 43)]), o_ 41 (.mv (t_ 44)), o_ 45 (.ext (t_ 41) 0), o_ 46 (.ext (t_ 41) 1), o_ 47 (.ext (t_ 41) 2), o_ 48 (.ext (t_ 41) 3), o_ 10 (.mv (t_ 45)), o_ 11 (.mv (t_ 46)), o_ 12 (.mv (t_ 47)), o_ 13 (.mv (t_ 48))]
def f42g9 : List RO := [o_ 49 (.mv (t_ 7)), o_ 50 (.mv (t_ 10)), o_ 2 (.mv (t_ 49)), o_ 3 (.mv (t_ 50)), o_ 4 (.mv (.const (.int .i64 0)))]
def f42g10 : List RO := [o_ 51 (.bin .add (t_ 15) (.const (.int .i64 1))), o_ 15 (.mv (t_ 51))]
def f42b11 : RCode := (.seq (.reg .false f42g2) (.seq (.cond (t_ 16) .skip (.exit 0)) (.seq (.block 1 (.seq (.reg .false f42g3) (.seq (.reg .false f42g4) (.seq (.seq (.reg .false f42g5) (.cond (t_ 26) (.exit 1) .skip)) (.seq (.seq (.reg .false f42g6) (.cond (t_ 40) (.seq (.reg .false f42g7) .ret) .skip)) (.seq (.reg .false f42g8) (.seq (.reg .false f42g9) .ret))))))) (.reg .false f42g10))))
def f42g12 : List RO := [o_ 2 (.mv (.const (.int .i64 0))), o_ 3 (.mv (.const (.int .i64 0))), o_ 4 (.mv (.const (.int .i64 11)))]
def f42c : RCode := (.seq (.reg .false f42g0) (.seq (.seq (.reg .false f42g1) (.block 0 (.loop f42b11))) (.seq (.reg .false f42g12) .ret)))
def f42r : List RRes := [(.tmp 2), (.tmp 3), (.tmp 4)]
attribute [push_cast] f42g0 f42g1 f42g2 f42g3 f42g4 f42g5 f42g6 f42g7 f42g8 f42g9 f42g10 f42g12
def F_leaf_Where (N : Nat) (p0 : Str) : Option (Int × Int × Int) := bd? (F_leaf_kinds N ) fun v1 => bd? (F_leaf_kinds_1 N p0) fun v2 => if? ((v2.2.2 != 0)) (bd? (F_leaf_kinds_2 N p0) fun v3 => if? ((v3.2.2 != 0)) (bd? (F_leaf_kinds_3 N p0) fun v4 => if? ((v4.2.2 != 0)) (some (0, 0, 11)) (if? (decide (v4.1 < 0)) (some (0, 0, 3)) (if? (decide (v4.1 ≥ 40)) (some (0, 0, 3)) (if? (decide (v4.2.1 < 0)) (some (0, 0, 3)) (if? (decide (v4.2.1 ≥ 1402560)) (some (0, 0, 3)) (ck .i64 (Int.tdiv v4.2.1 96) (bd? (F_calendar_Date N (Int.tdiv v4.2.1 96)) fun v5 => some (v4.1, v5.1, 0)))))))) (if? (decide (v3.1 < 0)) (some (0, 0, 3)) (if? (decide (v3.1 ≥ 40)) (some (0, 0, 3)) (if? (decide (v3.2.1 < 0)) (some (0, 0, 3)) (if? (decide (v3.2.1 ≥ 1402560)) (some (0, 0, 3)) (ck .i64 (Int.tdiv v3.2.1 96) (bd? (F_calendar_Date N (Int.tdiv v3.2.1 96)) fun v6 => some (v3.1, v6.1, 0)))))))) (if? (decide (v2.1 < 0)) (some (0, 0, 3)) (if? (decide (v2.1 ≥ 40)) (some (0, 0, 3)) (if? (decide (v2.2.1 < 0)) (some (0, 0, 3)) (if? (decide (v2.2.1 ≥ 1402560)) (some (0, 0, 3)) (ck .i64 (Int.tdiv v2.2.1 96) (bd? (F_calendar_Date N (Int.tdiv v2.2.1 96)) fun v7 => some (v2.1, v7.1, 0)))))))
theorem c_leaf_Where (N : Nat) (p0 : Str) (r : (Int × Int × Int)) (h : F_leaf_Where N p0 = some r) : ACall Tryd.prog 42 [.D (.S p0)] [] (.tup [.D (.I .i64 r.1), .D (.I .i64 r.2.1), .D (.I .i64 r.2.2)]) [] [] := by
 refine ACall.of_bodyW [] (fn := Tryd.f42) (rc := f42c) (rs := f42r) Tryd.func42 rfl rfl (by kernel_rfl) (by kernel_rfl) (by kernel_rfl) (by rw [Tryd.ntmps42]; simp) ?_
 unfold F_leaf_Where at h
 unfold f42c f42r
 rw [entry_eq _ _]
 obtain ⟨v1, h1, h⟩ := F_bd h
 simp only[push_cast,seval]
 refine call_new (by rfl) (c_leaf_kinds N _ h1) ?_ (by simp [AV.flat, AV.flatL, flatL_aI, flatL_app, DV.flat]) ?_
 ·simp only[push_cast,seval] <;> rfl
 simp only[push_cast,seval]
 refine unr_of 5 ?_
 refine unr_s ?_
 try unfold f42b11
 obtain ⟨v2, h2, h⟩ := F_bd h
 simp only[push_cast,seval]
 refine call_flat (by rfl) (c_leaf_kinds_1 N _ _ h2) ?_ rfl ?_
 ·simp only[push_cast,seval] <;> rfl
 rcases F_if h with ⟨h3, h⟩ | ⟨h3, h⟩
 rotate_left
 ·rcases F_if h with ⟨h4, h⟩ | ⟨h4, h⟩
  ·obtain rfl := Option.some.inj h
   simp only[push_cast,seval,h3,h4]
   refine e_ret (.inr rfl) ?_
   simp only[push_cast,seval,aret,aresults,aresult,h3,h4]
   refine ⟨_, rfl, ?_⟩
   first | (simp only[push_cast,seval,h3,h4] <;> rfl) | rfl
  rcases F_if h with ⟨h5, h⟩ | ⟨h5, h⟩
  ·obtain rfl := Option.some.inj h
   simp only[push_cast,seval,h3,h4,h5]
   refine e_ret (.inr rfl) ?_
   simp only[push_cast,seval,aret,aresults,aresult,h3,h4,h5]
   refine ⟨_, rfl, ?_⟩
   first | (simp only[push_cast,seval,h3,h4,h5] <;> rfl) | rfl
  rcases F_if h with ⟨h6, h⟩ | ⟨h6, h⟩
  ·obtain rfl := Option.some.inj h
   simp only[push_cast,seval,h3,h4,h5,h6]
   refine e_ret (.inr rfl) ?_
   simp only[push_cast,seval,aret,aresults,aresult,h3,h4,h5,h6]
   refine ⟨_, rfl, ?_⟩
   first | (simp only[push_cast,seval,h3,h4,h5,h6] <;> rfl) | rfl
  rcases F_if h with ⟨h7, h⟩ | ⟨h7, h⟩
  ·obtain rfl := Option.some.inj h
   simp only[push_cast,seval,h3,h4,h5,h6,h7]
   refine e_ret (.inr rfl) ?_
   simp only[push_cast,seval,aret,aresults,aresult,h3,h4,h5,h6,h7]
   refine ⟨_, rfl, ?_⟩
   first | (simp only[push_cast,seval,h3,h4,h5,h6,h7] <;> rfl) | rfl
  obtain ⟨h8, h⟩ := F_ck h
  try simp only[push_cast,seval] at h8
  obtain ⟨v7, h9, h⟩ := F_bd h
  simp only[push_cast,seval,h3,h4,h5,h6,h7,h8]
  refine call_flat (by rfl) (c_calendar_Date N _ _ h9) ?_ rfl ?_
  ·simp only[push_cast,seval,h3,h4,h5,h6,h7,h8] <;> rfl
  obtain rfl := Option.some.inj h
  simp only[push_cast,seval,h3,h4,h5,h6,h7,h8]
  refine e_ret (.inr rfl) ?_
  simp only[push_cast,seval,aret,aresults,aresult,h3,h4,h5,h6,h7,h8]
  refine ⟨_, rfl, ?_⟩
  first | (simp only[push_cast,seval,h3,h4,h5,h6,h7,h8] <;> rfl) | rfl
 simp only[push_cast,seval,h3]
 refine unr_s ?_
 try unfold f42b11
 obtain ⟨v3, h10, h⟩ := F_bd h
 simp only[push_cast,seval,h3]
 refine call_flat (by rfl) (c_leaf_kinds_2 N _ _ h10) ?_ rfl ?_
 ·simp only[push_cast,seval,h3] <;> rfl
 rcases F_if h with ⟨h11, h⟩ | ⟨h11, h⟩
 rotate_left
 ·rcases F_if h with ⟨h12, h⟩ | ⟨h12, h⟩
  ·obtain rfl := Option.some.inj h
   simp only[push_cast,seval,h3,h11,h12]
   refine e_ret (.inr rfl) ?_
   simp only[push_cast,seval,aret,aresults,aresult,h3,h11,h12]
   refine ⟨_, rfl, ?_⟩
   first | (simp only[push_cast,seval,h3,h11,h12] <;> rfl) | rfl
  rcases F_if h with ⟨h13, h⟩ | ⟨h13, h⟩
  ·obtain rfl := Option.some.inj h
   simp only[push_cast,seval,h3,h11,h12,h13]
   refine e_ret (.inr rfl) ?_
   simp only[push_cast,seval,aret,aresults,aresult,h3,h11,h12,h13]
   refine ⟨_, rfl, ?_⟩
   first | (simp only[push_cast,seval,h3,h11,h12,h13] <;> rfl) | rfl
  rcases F_if h with ⟨h14, h⟩ | ⟨h14, h⟩
  ·obtain rfl := Option.some.inj h
   simp only[push_cast,seval,h3,h11,h12,h13,h14]
   refine e_ret (.inr rfl) ?_
   simp only[push_cast,seval,aret,aresults,aresult,h3,h11,h12,h13,h14]
   refine ⟨_, rfl, ?_⟩
   first | (simp only[push_cast,seval,h3,h11,h12,h13,h14] <;> rfl) | rfl
  rcases F_if h with ⟨h15, h⟩ | ⟨h15, h⟩
  ·obtain rfl := Option.some.inj h
   simp only[push_cast,seval,h3,h11,h12,h13,h14,h15]
   refine e_ret (.inr rfl) ?_
   simp only[push_cast,seval,aret,aresults,aresult,h3,h11,h12,h13,h14,h15]
   refine ⟨_, rfl, ?_⟩
   first | (simp only[push_cast,seval,h3,h11,h12,h13,h14,h15] <;> rfl) | rfl
  obtain ⟨h16, h⟩ := F_ck h
  try simp only[push_cast,seval] at h16
  obtain ⟨v6, h17, h⟩ := F_bd h
  simp only[push_cast,seval,h3,h11,h12,h13,h14,h15,h16]
  refine call_flat (by rfl) (c_calendar_Date N _ _ h17) ?_ rfl ?_
  ·simp only[push_cast,seval,h3,h11,h12,h13,h14,h15,h16] <;> rfl
  obtain rfl := Option.some.inj h
  simp only[push_cast,seval,h3,h11,h12,h13,h14,h15,h16]
  refine e_ret (.inr rfl) ?_
  simp only[push_cast,seval,aret,aresults,aresult,h3,h11,h12,h13,h14,h15,h16]
  refine ⟨_, rfl, ?_⟩
  first | (simp only[push_cast,seval,h3,h11,h12,h13,h14,h15,h16] <;> rfl) | rfl
 simp only[push_cast,seval,h3,h11]
 refine unr_s ?_
 try unfold f42b11
 obtain ⟨v4, h18, h⟩ := F_bd h
 simp only[push_cast,seval,h3,h11]
 refine call_flat (by rfl) (c_leaf_kinds_3 N _ _ h18) ?_ rfl ?_
 ·simp only[push_cast,seval,h3,h11] <;> rfl
 rcases F_if h with ⟨h19, h⟩ | ⟨h19, h⟩
 ·simp only[push_cast,seval,h3,h11,h19]
  refine unr_s ?_
  try unfold f42b11
  obtain rfl := Option.some.inj h
  simp only[push_cast,seval,h3,h11,h19]
  refine e_ret (.inr rfl) ?_
  simp only[push_cast,seval,aret,aresults,aresult,h3,h11,h19]
  refine ⟨_, rfl, ?_⟩
  first | (simp only[push_cast,seval,h3,h11,h19] <;> rfl) | rfl
 rcases F_if h with ⟨h20, h⟩ | ⟨h20, h⟩
 ·obtain rfl := Option.some.inj h
  simp only[push_cast,seval,h3,h11,h19,h20]
  refine e_ret (.inr rfl) ?_
  simp only[push_cast,seval,aret,aresults,aresult,h3,h11,h19,h20]
  refine ⟨_, rfl, ?_⟩
  first | (simp only[push_cast,seval,h3,h11,h19,h20] <;> rfl) | rfl
 rcases F_if h with ⟨h21, h⟩ | ⟨h21, h⟩
 ·obtain rfl := Option.some.inj h
  simp only[push_cast,seval,h3,h11,h19,h20,h21]
  refine e_ret (.inr rfl) ?_
  simp only[push_cast,seval,aret,aresults,aresult,h3,h11,h19,h20,h21]
  refine ⟨_, rfl, ?_⟩
  first | (simp only[push_cast,seval,h3,h11,h19,h20,h21] <;> rfl) | rfl
 rcases F_if h with ⟨h22, h⟩ | ⟨h22, h⟩
 ·obtain rfl := Option.some.inj h
  simp only[push_cast,seval,h3,h11,h19,h20,h21,h22]
  refine e_ret (.inr rfl) ?_
  simp only[push_cast,seval,aret,aresults,aresult,h3,h11,h19,h20,h21,h22]
  refine ⟨_, rfl, ?_⟩
  first | (simp only[push_cast,seval,h3,h11,h19,h20,h21,h22] <;> rfl) | rfl
 rcases F_if h with ⟨h23, h⟩ | ⟨h23, h⟩
 ·obtain rfl := Option.some.inj h
  simp only[push_cast,seval,h3,h11,h19,h20,h21,h22,h23]
  refine e_ret (.inr rfl) ?_
  simp only[push_cast,seval,aret,aresults,aresult,h3,h11,h19,h20,h21,h22,h23]
  refine ⟨_, rfl, ?_⟩
  first | (simp only[push_cast,seval,h3,h11,h19,h20,h21,h22,h23] <;> rfl) | rfl
 obtain ⟨h24, h⟩ := F_ck h
 try simp only[push_cast,seval] at h24
 obtain ⟨v5, h25, h⟩ := F_bd h
 simp only[push_cast,seval,h3,h11,h19,h20,h21,h22,h23,h24]
 refine call_flat (by rfl) (c_calendar_Date N _ _ h25) ?_ rfl ?_
 ·simp only[push_cast,seval,h3,h11,h19,h20,h21,h22,h23,h24] <;> rfl
 obtain rfl := Option.some.inj h
 simp only[push_cast,seval,h3,h11,h19,h20,h21,h22,h23,h24]
 refine e_ret (.inr rfl) ?_
 simp only[push_cast,seval,aret,aresults,aresult,h3,h11,h19,h20,h21,h22,h23,h24]
 refine ⟨_, rfl, ?_⟩
 first | (simp only[push_cast,seval,h3,h11,h19,h20,h21,h22,h23,h24] <;> rfl) | rfl

def f88g0 : List RO := [o_ 6 (.mv (.const (.bool .false)))]
def f88g1 : List RO := [o_ 11 (.mv (t_ 0)), o_ 12 (.call (.func 42) [(t_ 11)]), o_ 10 (.mv (t_ 12)), o_ 13 (.ext (t_ 10) 0), o_ 14 (.ext (t_ 10) 1), o_ 15 (.ext (t_ 10) 2), o_ 7 (.mv (t_ 13)), o_ 8 (.mv (t_ 14)), o_ 9 (.mv (t_ 15))]
def f88g2 : List RO := [o_ 16 (.mv (t_ 9)), o_ 17 (.bin .eql (t_ 16) (.const (.int .i64 0))), o_ 18 (.mv (t_ 17)), ⟨(.some 19), (.mv (t_ 7)), (.some (18, .true))⟩, ⟨(.some 20), (.mv (t_ 1)), (.some (18, .true))⟩, ⟨(.some 21), (.bin .eql (t_ 19) (t_ 20)), (.some (18, .true))⟩, o_ 22 (.pick (t_ 18) (t_ 21) (.const (.bool .false))), o_ 23 (.mv (t_ 22)), ⟨(.some 24), (.mv (t_ 8)), (.some (23, .true))⟩, ⟨(.some 25), (.mv (t_ 2)), (.some (23, .true))⟩, ⟨(.some 26), (.bin .eql (t_ 24) (t_ 25)), (.some (23, .true))⟩, o_ 27 (.pick (t_ 23) (t_ 26) (.const (.bool .false))), o_ 6 (.mv (t_ 27))]
def f88c : RCode := (.seq (.reg .false f88g0) (.seq (.reg .false f88g1) (.seq (.reg .false f88g2) .ret)))
def f88r : List RRes := [(.tmp 6)]
attribute [push_cast] f88g0 f88g1 f88g2
def F_leaf_here (N : Nat) (p0 : Str) (p1 : Int) (p2 : Int) : Option Bool := bd? (F_leaf_Where N p0) fun v1 => if? ((v1.2.2 == 0)) (if? ((v1.1 == p1)) (some ((v1.2.1 == p2))) (some (false))) (some (false))
theorem c_leaf_here (N : Nat) (p0 : Str) (p1 : Int) (p2 : Int) (r : Bool) (h : F_leaf_here N p0 p1 p2 = some r) : ACall Tryd.prog 88 [.D (.S p0), .D (.I .i64 p1), .D (.I .i64 p2)] [] (.D (.B r)) [] [] := by
 refine ACall.of_bodyW [] (fn := Tryd.f88) (rc := f88c) (rs := f88r) Tryd.func88 rfl rfl (by kernel_rfl) (by kernel_rfl) (by kernel_rfl) (by rw [Tryd.ntmps88]; simp) ?_
 unfold F_leaf_here at h
 unfold f88c f88r
 rw [entry_eq _ _]
 obtain ⟨v1, h1, h⟩ := F_bd h
 simp only[push_cast,seval]
 refine call_flat (by rfl) (c_leaf_Where N _ _ h1) ?_ rfl ?_
 ·simp only[push_cast,seval] <;> rfl
 rcases F_if h with ⟨h2, h⟩ | ⟨h2, h⟩
 rotate_left
 ·obtain rfl := Option.some.inj h
  simp only[push_cast,seval,h2]
  refine e_ret (.inr rfl) ?_
  simp only[push_cast,seval,aret,aresults,aresult,h2]
  refine ⟨_, rfl, ?_⟩
  first | (simp only[push_cast,seval,h2] <;> rfl) | rfl
 rcases F_if h with ⟨h3, h⟩ | ⟨h3, h⟩
 ·obtain rfl := Option.some.inj h
  simp only[push_cast,seval,h2,h3]
  refine e_ret (.inr rfl) ?_
  simp only[push_cast,seval,aret,aresults,aresult,h2,h3]
  refine ⟨_, rfl, ?_⟩
  first | (simp only[push_cast,seval,h2,h3] <;> rfl) | rfl
 obtain rfl := Option.some.inj h
 simp only[push_cast,seval,h2,h3]
 refine e_ret (.inr rfl) ?_
 simp only[push_cast,seval,aret,aresults,aresult,h2,h3]
 refine ⟨_, rfl, ?_⟩
 first | (simp only[push_cast,seval,h2,h3] <;> rfl) | rfl

def f37g0 : List RO := [o_ 1 (.box (t_ 0)), o_ 2 (.mv (.const (.int .i64 0)))]
def f37g1 : List RO := [o_ 5 (.faddr 0 (t_ 1)), o_ 6 (.load .none (t_ 5)), o_ 7 (.bin .lss (t_ 6) (.const (.int .i64 0))), o_ 8 (.mv (t_ 7)), ⟨(.some 9), (.faddr 0 (t_ 1)), (.some (8, .false))⟩, ⟨(.some 10), (.load .none (t_ 9)), (.some (8, .false))⟩, ⟨(.some 11), (.bin .geq (t_ 10) (.const (.int .i64 40))), (.some (8, .false))⟩, o_ 12 (.pick (t_ 8) (.const (.bool .true)) (t_ 11)), o_ 13 (.mv (t_ 12)), ⟨(.some 14), (.faddr 1 (t_ 1)), (.some (13, .false))⟩, ⟨(.some 15), (.load .none (t_ 14)), (.some (13, .false))⟩, ⟨(.some 16), (.bin .lss (t_ 15) (.const (.int .i64 2000))), (.some (13, .false))⟩, o_ 17 (.pick (t_ 13) (.const (.bool .true)) (t_ 16)), o_ 18 (.mv (t_ 17)), ⟨(.some 19), (.faddr 1 (t_ 1)), (.some (18, .false))⟩, ⟨(.some 20), (.load .none (t_ 19)), (.some (18, .false))⟩, ⟨(.some 21), (.bin .geq (t_ 20) (.const (.int .i64 2040))), (.some (18, .false))⟩, o_ 22 (.pick (t_ 18) (.const (.bool .true)) (t_ 21))]
def f37g2 : List RO := [o_ 2 (.mv (.const (.int .i64 3)))]
def f37g3 : List RO := [o_ 23 (.faddr 2 (t_ 1)), o_ 24 (.load .none (t_ 23)), o_ 25 (.len .false (t_ 24)), o_ 26 (.bin .gtr (t_ 25) (.const (.int .i64 1000)))]
def f37g4 : List RO := [o_ 2 (.mv (.const (.int .i64 2)))]
def f37g5 : List RO := [o_ 27 (.faddr 2 (t_ 1)), o_ 28 (.load .none (t_ 27)), o_ 29 (.len .false (t_ 28)), o_ 30 (.mv (.const (.int .i64 0)))]
def f37g6 : List RO := [o_ 31 (.bin .lss (t_ 30) (t_ 29))]
def f37g7 : List RO := [o_ 32 (.mv (t_ 30)), o_ 33 (.iaddr 1 (t_ 28) (t_ 30)), o_ 34 (.load .none (t_ 33)), o_ 3 (.mv (t_ 32)), o_ 4 (.mv (t_ 34))]
def f37g8 : List RO := [o_ 35 (.mv (t_ 3)), o_ 36 (.bin .gtr (t_ 35) (.const (.int .i64 0))), o_ 37 (.mv (t_ 36)), ⟨(.some 38), (.mv (t_ 4)), (.some (37, .true))⟩, ⟨(.some 39), (.faddr 2 (t_ 1)), (.some (37, .true))⟩, ⟨(.some 40), (.load .none (t_ 39)), (.some (37, .true))⟩, ⟨(.some 41), (.mv (t_ 3)), (.some (37, .true))⟩, ⟨(.some 42), (.bin .sub (t_ 41) (.const (.int .i64 1))), (.some (37, .true))⟩, ⟨(.some 43), (.iaddr 1 (t_ 40) (t_ 42)), (.some (37, .true))⟩, ⟨(.some 44), (.load .none (t_ 43)), (.some (37, .true))⟩, ⟨(.some 45), (.bin .leq (t_ 38) (t_ 44)), (.some (37, .true))⟩, o_ 46 (.pick (t_ 37) (t_ 45) (.const (.bool .false))), o_ 47 (.mv (t_ 46)), ⟨(.some 48), (.mv (t_ 4)), (.some (47, .false))⟩, ⟨(.some 49), (.faddr 0 (t_ 1)), (.some (47, .false))⟩, ⟨(.some 50), (.load .none (t_ 49)), (.some (47, .false))⟩, ⟨(.some 51), (.faddr 1 (t_ 1)), (.some (47, .false))⟩, ⟨(.some 52), (.load .none (t_ 51)), (.some (47, .false))⟩, ⟨(.some 53), (.call (.func 88) [(t_ 48), (t_ 50), (t_ 52)]), (.some (47, .false))⟩, ⟨(.some 54), (.un .not (t_ 53)), (.some (47, .false))⟩, o_ 55 (.pick (t_ 47) (.const (.bool .true)) (t_ 54))]
def f37g9 : List RO := [o_ 2 (.mv (.const (.int .i64 1)))]
def f37g10 : List RO := [o_ 56 (.bin .add (t_ 30) (.const (.int .i64 1))), o_ 30 (.mv (t_ 56))]
def f37b11 : RCode := (.seq (.reg .false f37g6) (.seq (.cond (t_ 31) .skip (.exit 0)) (.seq (.block 1 (.seq (.reg .false f37g7) (.seq (.reg .false f37g8) (.cond (t_ 55) (.seq (.reg .false f37g9) .ret) .skip)))) (.reg .false f37g10))))
def f37g12 : List RO := [o_ 2 (.mv (.const (.int .i64 0)))]
def f37c : RCode := (.seq (.reg .false f37g0) (.seq (.seq (.reg .false f37g1) (.cond (t_ 22) (.seq (.reg .false f37g2) .ret) .skip)) (.seq (.seq (.reg .false f37g3) (.cond (t_ 26) (.seq (.reg .false f37g4) .ret) .skip)) (.seq (.seq (.reg .false f37g5) (.block 0 (.loop f37b11))) (.seq (.reg .false f37g12) .ret)))))
def f37r : List RRes := [(.tmp 2)]
attribute [push_cast] f37g0 f37g1 f37g2 f37g3 f37g4 f37g5 f37g6 f37g7 f37g8 f37g9 f37g10 f37g12
def L_leaf_Check_0 (N : Nat) (p0 : Folder) : Nat → Int → Option Int
  | 0, _ => none
  | m1+1, a1 => if? (decide (a1 < (p0.Items.length : Int))) (get? p0.Items (a1) fun x2 => if? (decide (a1 > 0)) (ck .i64 (a1 - 1) (get? p0.Items ((a1 - 1)) fun x3 => if? ((Op.bytesLess x2 x3 || x2 == x3)) (some (1)) (bd? (F_leaf_here N x2 p0.Gauge p0.Year) fun v4 => if? (v4) (ck .i64 (a1 + 1) (L_leaf_Check_0 N p0 m1 (a1 + 1))) (some (1))))) (bd? (F_leaf_here N x2 p0.Gauge p0.Year) fun v5 => if? (v5) (ck .i64 (a1 + 1) (L_leaf_Check_0 N p0 m1 (a1 + 1))) (some (1)))) (some (0))
def I_leaf_Check_0 (N : Nat) (p0 : Folder) (r : Int) (n : Nat) (s : AState) : Prop := ∃ (a1 : Int), L_leaf_Check_0 N p0 n a1 = some r ∧ s = ⟨envL [(1, .ptr (.O 0) 0), (28, .D (.L (p0.Items.map rS))), (29, .D (.I .i64 (p0.Items.length : Int))), (30, .D (.I .i64 a1))], ownL [], ownL [some (.box ([.D (.I .i64 p0.Gauge), .D (.I .i64 p0.Year), .D (.L (p0.Items.map rS))]))], 1⟩
def F_leaf_Check (N : Nat) (p0 : Folder) : Option Int := if? (decide (p0.Gauge < 0)) (some (3)) (if? (decide (p0.Gauge ≥ 40)) (some (3)) (if? (decide (p0.Year < 2000)) (some (3)) (if? (decide (p0.Year ≥ 2040)) (some (3)) (if? (decide ((p0.Items.length : Int) > 1000)) (some (2)) (L_leaf_Check_0 N p0 N 0)))))
theorem c_leaf_Check (N : Nat) (p0 : Folder) (r : Int) (h : F_leaf_Check N p0 = some r) : ACall Tryd.prog 37 [.agg [.D (.I .i64 p0.Gauge), .D (.I .i64 p0.Year), .D (.L (p0.Items.map rS))]] [] (.D (.I .i64 r)) [] [] := by
 refine ACall.of_bodyW [] (fn := Tryd.f37) (rc := f37c) (rs := f37r) Tryd.func37 rfl rfl (by kernel_rfl) (by kernel_rfl) (by kernel_rfl) (by rw [Tryd.ntmps37]; simp) ?_
 unfold F_leaf_Check at h
 unfold f37c f37r
 rw [entry_eq _ _]
 rcases F_if h with ⟨h1, h⟩ | ⟨h1, h⟩
 ·obtain rfl := Option.some.inj h
  simp only[push_cast,seval,h1]
  refine e_ret (.inr rfl) ?_
  simp only[push_cast,seval,aret,aresults,aresult,h1]
  refine ⟨_, rfl, ?_⟩
  first | (simp only[push_cast,seval,h1] <;> rfl) | rfl
 rcases F_if h with ⟨h2, h⟩ | ⟨h2, h⟩
 ·obtain rfl := Option.some.inj h
  simp only[push_cast,seval,h1,h2]
  refine e_ret (.inr rfl) ?_
  simp only[push_cast,seval,aret,aresults,aresult,h1,h2]
  refine ⟨_, rfl, ?_⟩
  first | (simp only[push_cast,seval,h1,h2] <;> rfl) | rfl
 rcases F_if h with ⟨h3, h⟩ | ⟨h3, h⟩
 ·obtain rfl := Option.some.inj h
  simp only[push_cast,seval,h1,h2,h3]
  refine e_ret (.inr rfl) ?_
  simp only[push_cast,seval,aret,aresults,aresult,h1,h2,h3]
  refine ⟨_, rfl, ?_⟩
  first | (simp only[push_cast,seval,h1,h2,h3] <;> rfl) | rfl
 rcases F_if h with ⟨h4, h⟩ | ⟨h4, h⟩
 ·obtain rfl := Option.some.inj h
  simp only[push_cast,seval,h1,h2,h3,h4]
  refine e_ret (.inr rfl) ?_
  simp only[push_cast,seval,aret,aresults,aresult,h1,h2,h3,h4]
  refine ⟨_, rfl, ?_⟩
  first | (simp only[push_cast,seval,h1,h2,h3,h4] <;> rfl) | rfl
 rcases F_if h with ⟨h5, h⟩ | ⟨h5, h⟩
 ·obtain rfl := Option.some.inj h
  simp only[push_cast,seval,h1,h2,h3,h4,h5]
  refine e_ret (.inr rfl) ?_
  simp only[push_cast,seval,aret,aresults,aresult,h1,h2,h3,h4,h5]
  refine ⟨_, rfl, ?_⟩
  first | (simp only[push_cast,seval,h1,h2,h3,h4,h5] <;> rfl) | rfl
 simp only[push_cast,seval,h1,h2,h3,h4,h5]
 refine loop_of (I_leaf_Check_0 N p0 _) N [1, 28, 29, 30] [0] (by decide) ⟨0, h, ?_⟩ ?_
 ·rw [wk_mk]
  simp only[push_cast,seval,h1,h2,h3,h4,h5] <;> rfl
 rintro n s ⟨a1, h, rfl⟩
 rcases n with _ | m1
 ·exact absurd h (by simp [L_leaf_Check_0])
 rw [L_leaf_Check_0] at h
 unfold f37b11
 rcases F_if h with ⟨h6, h⟩ | ⟨h6, h⟩
 rotate_left
 ·obtain rfl := Option.some.inj h
  simp only[push_cast,seval,h1,h2,h3,h4,h5,h6]
  refine e_ret (.inr rfl) ?_
  simp only[push_cast,seval,aret,aresults,aresult,h1,h2,h3,h4,h5,h6]
  refine ⟨_, rfl, ?_⟩
  first | (simp only[push_cast,seval,h1,h2,h3,h4,h5,h6] <;> rfl) | rfl
 obtain ⟨x2, h7, h8, h⟩ := F_get h
 have h9 := get_lt h7 h8
 have h10 := map_get rS h8
 try simp only[push_cast,seval] at h10
 rcases F_if h with ⟨h11, h⟩ | ⟨h11, h⟩
 rotate_left
 ·obtain ⟨v5, h12, h⟩ := F_bd h
  simp only[push_cast,seval,h1,h2,h3,h4,h5,h6,h7,h10,h9,h11]
  refine call_flat (by rfl) (c_leaf_here N _ _ _ _ h12) ?_ rfl ?_
  ·simp only[push_cast,seval,h1,h2,h3,h4,h5,h6,h7,h10,h9,h11] <;> rfl
  rcases F_if h with ⟨h13, h⟩ | ⟨h13, h⟩
  ·obtain ⟨h14, h⟩ := F_ck h
   try simp only[push_cast,seval] at h14
   simp only[push_cast,seval,h1,h2,h3,h4,h5,h6,h7,h10,h9,h11,h13,h14]
   refine lpK_of m1 [1, 28, 29, 30] [0] (by omega) (by decide) ⟨(a1 + 1), (by first | exact h | simpa only [*] using h), ?_⟩
   rw [wk_mk]
   simp only[push_cast,seval,h1,h2,h3,h4,h5,h6,h7,h10,h9,h11,h13,h14] <;> rfl
  obtain rfl := Option.some.inj h
  simp only[push_cast,seval,h1,h2,h3,h4,h5,h6,h7,h10,h9,h11,h13]
  refine e_ret (.inr rfl) ?_
  simp only[push_cast,seval,aret,aresults,aresult,h1,h2,h3,h4,h5,h6,h7,h10,h9,h11,h13]
  refine ⟨_, rfl, ?_⟩
  first | (simp only[push_cast,seval,h1,h2,h3,h4,h5,h6,h7,h10,h9,h11,h13] <;> rfl) | rfl
 obtain ⟨h15, h⟩ := F_ck h
 try simp only[push_cast,seval] at h15
 obtain ⟨x3, h16, h17, h⟩ := F_get h
 have h18 := get_lt h16 h17
 have h19 := map_get rS h17
 try simp only[push_cast,seval] at h19 h16 h18
 rcases F_if h with ⟨h20, h⟩ | ⟨h20, h⟩
 ·obtain rfl := Option.some.inj h
  simp only[push_cast,seval,h1,h2,h3,h4,h5,h6,h7,h10,h9,h11,h15,h16,h19,h18,h20]
  refine e_ret (.inr rfl) ?_
  simp only[push_cast,seval,aret,aresults,aresult,h1,h2,h3,h4,h5,h6,h7,h10,h9,h11,h15,h16,h19,h18,h20]
  refine ⟨_, rfl, ?_⟩
  first | (simp only[push_cast,seval,h1,h2,h3,h4,h5,h6,h7,h10,h9,h11,h15,h16,h19,h18,h20] <;> rfl) | rfl
 obtain ⟨v4, h21, h⟩ := F_bd h
 simp only[push_cast,seval,h1,h2,h3,h4,h5,h6,h7,h10,h9,h11,h15,h16,h19,h18,h20]
 refine call_flat (by rfl) (c_leaf_here N _ _ _ _ h21) ?_ rfl ?_
 ·simp only[push_cast,seval,h1,h2,h3,h4,h5,h6,h7,h10,h9,h11,h15,h16,h19,h18,h20] <;> rfl
 rcases F_if h with ⟨h22, h⟩ | ⟨h22, h⟩
 ·obtain ⟨h23, h⟩ := F_ck h
  try simp only[push_cast,seval] at h23
  simp only[push_cast,seval,h1,h2,h3,h4,h5,h6,h7,h10,h9,h11,h15,h16,h19,h18,h20,h22,h23]
  refine lpK_of m1 [1, 28, 29, 30] [0] (by omega) (by decide) ⟨(a1 + 1), (by first | exact h | simpa only [*] using h), ?_⟩
  rw [wk_mk]
  simp only[push_cast,seval,h1,h2,h3,h4,h5,h6,h7,h10,h9,h11,h15,h16,h19,h18,h20,h22,h23] <;> rfl
 obtain rfl := Option.some.inj h
 simp only[push_cast,seval,h1,h2,h3,h4,h5,h6,h7,h10,h9,h11,h15,h16,h19,h18,h20,h22]
 refine e_ret (.inr rfl) ?_
 simp only[push_cast,seval,aret,aresults,aresult,h1,h2,h3,h4,h5,h6,h7,h10,h9,h11,h15,h16,h19,h18,h20,h22]
 refine ⟨_, rfl, ?_⟩
 first | (simp only[push_cast,seval,h1,h2,h3,h4,h5,h6,h7,h10,h9,h11,h15,h16,h19,h18,h20,h22] <;> rfl) | rfl

def f116g0 : List RO := [o_ 0 (.newR (((Arr.zero 8).l.map (aI .u32)) ++ (((Arr.zero 64).l.map (aI .u8)) ++ [(.D (.I .u64 0))])))]
def f116g1 : List RO := [o_ 1 (.build [(.D (.I .u32 0)), (.D (.I .u32 0)), (.D (.I .u32 0)), (.D (.I .u32 0)), (.D (.I .u32 0)), (.D (.I .u32 0)), (.D (.I .u32 0)), (.D (.I .u32 0))] [(0, (1, (.const (.int .u32 1779033703)))), (1, (1, (.const (.int .u32 3144134277)))), (2, (1, (.const (.int .u32 1013904242)))), (3, (1, (.const (.int .u32 2773480762)))), (4, (1, (.const (.int .u32 1359893119)))), (5, (1, (.const (.int .u32 2600822924)))), (6, (1, (.const (.int .u32 528734635)))), (7, (1, (.const (.int .u32 1541459225))))]), o_ 2 (.build [(.D (.I .u32 0)), (.D (.I .u32 0)), (.D (.I .u32 0)), (.D (.I .u32 0)), (.D (.I .u32 0)), (.D (.I .u32 0)), (.D (.I .u32 0)), (.D (.I .u32 0)), (.D (.I .u8 0)), (.D (.I .u8 0)), (.D (.I .u8 0)), (.D (.I .u8 0)), (.D (.I .u8 0)), (.D (.I .u8 0)), (.D (.I .u8 0)), (.D (.I .u8 0)), (.D (.I .u8 0)), (.D (.I .u8 0)), (.D (.I .u8 0)), (.D (.I .u8 0)), (.D (.I .u8 0)), (.D (.I .u8 0)), (.D (.I .u8 0)), (.D (.I .u8 0)), (.D (.I .u8 0)), (.D (.I .u8 0)), (.D (.I .u8 0)), (.D (.I .u8 0)), (.D (.I .u8 0)), (.D (.I .u8 0)), (.D (.I .u8 0)), (.D (.I .u8 0)), (.D (.I .u8 0)), (.D (.I .u8 0)), (.D (.I .u8 0)), (.D (.I .u8 0)), (.D (.I .u8 0)), (.D (.I .u8 0)), (.D (.I .u8 0)), (.D (.I .u8 0)), (.D (.I .u8 0)), (.D (.I .u8 0)), (.D (.I .u8 0)), (.D (.I .u8 0)), (.D (.I .u8 0)), (.D (.I .u8 0)), (.D (.I .u8 0)), (.D (.I .u8 0)), (.D (.I .u8 0)), (.D (.I .u8 0)), (.D (.I .u8 0)), (.D (.I .u8 0)), (.D (.I .u8 0)), (.D (.I .u8 0)), (.D (.I .u8 0)), (.D (.I .u8 0)), (.D (.I .u8 0)), (.D (.I .u8 0)), (.D (.I .u8 0)), (.D (.I .u8 0)), (.D (.I .u8 0)), (.D (.I .u8 0)), (.D (.I .u8 0)), (.D (.I .u8 0)), (.D (.I .u8 0)), (.D (.I .u8 0)), (.D (.I .u8 0)), (.D (.I .u8 0)), (.D (.I .u8 0)), (.D (.I .u8 0)), (.D (.I .u8 0)), (.D (.I .u8 0)), (.D (.I .u64 0))] [(0, (8, (t_ 1)))]), n_ (.store 73 (t_ 0) (t_ 2))]
def f116c : RCode := (.seq (.reg .false f116g0) (.seq (.reg .false f116g1) .ret))
def f116r : List RRes := [(.cell (.some 73) 0)]
attribute [push_cast] f116g0 f116g1
def F_hash_Begin (N : Nat) : Option HashStream := some ((HashStream.mk (Arr.of [1779033703, 3144134277, 1013904242, 2773480762, 1359893119, 2600822924, 528734635, 1541459225] rfl) (Arr.zero 64) 0))
theorem c_hash_Begin (N : Nat) (r : HashStream) (h : F_hash_Begin N = some r) : ACall Tryd.prog 116 [] [] (.agg ((r.state.l.map (aI .u32)) ++ ((r.block.l.map (aI .u8)) ++ ([.D (.I .u64 r.n)])))) [] [] := by
 refine ACall.of_bodyW [] (fn := Tryd.f116) (rc := f116c) (rs := f116r) Tryd.func116 rfl rfl (by kernel_rfl) (by kernel_rfl) (by kernel_rfl) (by rw [Tryd.ntmps116]; simp) ?_
 unfold F_hash_Begin at h
 unfold f116c f116r
 rw [entry_eq _ _]
 obtain rfl := Option.some.inj h
 simp only[push_cast,seval]
 refine e_ret (.inr rfl) ?_
 simp only[push_cast,seval,aret,aresults,aresult]
 refine ⟨_, rfl, ?_⟩
 first | (simp only[push_cast,seval] <;> rfl) | rfl

def f165g0 : List RO := [o_ 4 (.mv (.const (.int .u32 0)))]
def f165g1 : List RO := [o_ 6 (.mv (t_ 1)), o_ 7 (.cvI .u64 (t_ 6)), o_ 8 (.bin .and (t_ 7) (.const (.int .u64 31))), o_ 5 (.mv (t_ 8))]
def f165g2 : List RO := [o_ 9 (.mv (t_ 0)), o_ 10 (.mv (t_ 5)), o_ 11 (.bin .shl (t_ 9) (t_ 10)), o_ 12 (.mv (t_ 0)), o_ 13 (.mv (t_ 5)), o_ 14 (.bin .sub (.const (.int .u64 32)) (t_ 13)), o_ 15 (.bin .shr (t_ 12) (t_ 14)), o_ 16 (.bin .or (t_ 11) (t_ 15)), o_ 4 (.mv (t_ 16))]
def f165c : RCode := (.seq (.reg .false f165g0) (.seq (.reg .false f165g1) (.seq (.reg .false f165g2) .ret)))
def f165r : List RRes := [(.tmp 4)]
attribute [push_cast] f165g0 f165g1 f165g2
def F_bits_RotateLeft32 (N : Nat) (p0 : Int) (p1 : Int) : Option Int := gd? (0 ≤ (bits .and .u64 (IntKind.wrap .u64 (p1)) 31)) (gd? ((bits .and .u64 (IntKind.wrap .u64 (p1)) 31) ≤ (IntKind.bits .u32 : Int)) (gd? (0 ≤ (IntKind.wrap .u64 (32 - (bits .and .u64 (IntKind.wrap .u64 (p1)) 31)))) (gd? ((IntKind.wrap .u64 (32 - (bits .and .u64 (IntKind.wrap .u64 (p1)) 31))) ≤ (IntKind.bits .u32 : Int)) (some ((bits .or .u32 (IntKind.wrap .u32 (p0 * 2 ^ (bits .and .u64 (IntKind.wrap .u64 (p1)) 31).toNat)) (p0 / 2 ^ (IntKind.wrap .u64 (32 - (bits .and .u64 (IntKind.wrap .u64 (p1)) 31))).toNat)))))))
theorem c_bits_RotateLeft32 (N : Nat) (p0 : Int) (p1 : Int) (r : Int) (h : F_bits_RotateLeft32 N p0 p1 = some r) : ACall Tryd.prog 165 [.D (.I .u32 p0), .D (.I .i64 p1)] [] (.D (.I .u32 r)) [] [] := by
 refine ACall.of_bodyW [] (fn := Tryd.f165) (rc := f165c) (rs := f165r) Tryd.func165 rfl rfl (by kernel_rfl) (by kernel_rfl) (by kernel_rfl) (by rw [Tryd.ntmps165]; simp) ?_
 unfold F_bits_RotateLeft32 at h
 unfold f165c f165r
 rw [entry_eq _ _]
 obtain ⟨h1, h⟩ := F_gd h
 try simp only[push_cast,seval] at h1
 obtain ⟨h2, h⟩ := F_gd h
 try simp only[push_cast,seval] at h2
 obtain ⟨h3, h⟩ := F_gd h
 try simp only[push_cast,seval] at h3
 obtain ⟨h4, h⟩ := F_gd h
 try simp only[push_cast,seval] at h4
 obtain rfl := Option.some.inj h
 simp only[push_cast,seval,h1,h2,h3,h4]
 refine e_ret (.inr rfl) ?_
 simp only[push_cast,seval,aret,aresults,aresult,h1,h2,h3,h4]
 refine ⟨_, rfl, ?_⟩
 first | (simp only[push_cast,seval,h1,h2,h3,h4] <;> rfl) | rfl

end Go.Proofs.Tryd
