import Derived.Test.YtjhhgpencphgoaaDoorE27
set_option linter.unusedSimpArgs false
set_option linter.unusedVariables false
namespace Go.Eng
open Go.RowKit

abbrev t_ (n : Nat) : Operand := .tmp n
def o_ (d : Nat) (op : ROp) : RO := ⟨some d, op, none⟩
def n_ (op : ROp) : RO := ⟨none, op, none⟩
theorem o_1 {d : Nat} {op : ROp} : o_ d op = ⟨some d, op, none⟩ := (rfl)
theorem n_1 {op : ROp} : n_ op = ⟨none, op, none⟩ := (rfl)
attribute [push_cast] o_1 n_1
structure Arr (n : Nat) where
 l : List Int
 len : l.length = n
 deriving DecidableEq
instance {n : Nat} : Inhabited (Arr n) := ⟨⟨List.replicate n 0, by simp⟩⟩
theorem Arr.ext {n : Nat} : ∀ {x y : Arr n} (_ : x.l = y.l), x = y
 | ⟨_, _⟩, ⟨_, _⟩, rfl => rfl
def Arr.of (l : List Int) {n : Nat} (h : l.length = n) : Arr n := ⟨l, h⟩
def Arr.zero (n : Nat) : Arr n := ⟨List.replicate n 0, by simp⟩
def Arr.set {n : Nat} (x : Arr n) (i : Nat) (v : Int) : Arr n := ⟨x.l.set i v, by rw [List.length_set]; exact x.len⟩
def Arr.putL (n : Nat) (x : List Int) (o : Nat) (ys : List Int) : List Int := if o + ys.length ≤ n then x.take o ++ ys ++ x.drop (o + ys.length) else x
theorem Arr.putL_len {n : Nat} {x : List Int} (hx : x.length = n) (o : Nat) (ys : List Int) : (Arr.putL n x o ys).length = n := by
 unfold Arr.putL
 split
 ·simp; omega
 ·exact hx
def Arr.put {n : Nat} (x : Arr n) (o : Nat) (ys : List Int) : Arr n := ⟨Arr.putL n x.l o ys, Arr.putL_len x.len o ys⟩
def Arr.from (l : List Int) (m : Nat) : Arr m := ⟨l.take m ++ List.replicate (m - (l.take m).length) 0, by simp; omega⟩
def Arr.part {n : Nat} (x : Arr n) (o m : Nat) : Arr m := Arr.from (x.l.drop o) m
theorem Arr.l_of {l : List Int} {n : Nat} {h : l.length = n} : (Arr.of l h).l = l := rfl
theorem Arr.l_set {n : Nat} {x : Arr n} {i : Nat} {v : Int} : (x.set i v).l = x.l.set i v := rfl
theorem Arr.l_put {n : Nat} {x : Arr n} {o : Nat} {ys : List Int} (h : o + ys.length ≤ n) : (x.put o ys).l = x.l.take o ++ ys ++ x.l.drop (o + ys.length) := if_pos h
theorem Arr.l_from {l : List Int} {m : Nat} (h : m ≤ l.length) : (Arr.from l m).l = l.take m := by
 show l.take m ++ List.replicate (m - (l.take m).length) 0 = _
 have : (l.take m).length = m := by simp; omega
 simp only [this, Nat.sub_self, List.replicate_zero, List.append_nil]
theorem Arr.l_part {n : Nat} {x : Arr n} {o m : Nat} (h : o + m ≤ n) : (x.part o m).l = (x.l.drop o).take m := by
 unfold Arr.part
 exact Arr.l_from (by rw [List.length_drop, x.len]; omega)
def aI (k : IntKind) (v : Int) : AV := .D (.I k v)
def rA (k : IntKind) {n : Nat} (x : Arr n) : List DV := x.l.map (DV.I k)
theorem rA_ {k : IntKind} {n : Nat} {x : Arr n} : rA k x = x.l.map (DV.I k) := rfl
theorem rA_len {k : IntKind} {n : Nat} (x : Arr n) : (rA k x).length = n := by unfold rA; rw [List.length_map]; exact x.len
theorem all_I {k : IntKind} {l : List Int} : (l.map (DV.I k)).all DV.one = true := by rw [List.all_map]; exact List.all_eq_true.2 fun _ _ => rfl
theorem rA_uni {k : IntKind} {n : Nat} {xs : List (Arr n)} : Uni n (xs.map (rA k)) = True := uni_map (f := rA k) fun x => rA_len x
theorem rA_one {k : IntKind} {n : Nat} {xs : List (Arr n)} : oneL (xs.map (rA k)) = true := one_map (f := rA k) fun _ => all_I
theorem map_D {k : IntKind} {l : List Int} : (l.map (DV.I k)).map AV.D = l.map (aI k) := by rw [List.map_map]; rfl
theorem map_D' {k : IntKind} {l : List Int} : (l.map (DV.I k)).map (fun d => AV.D d) = l.map (aI k) := by rw [List.map_map]; rfl
theorem map_ones {k : IntKind} {l : List Int} : (l.map (DV.I k)).map (fun d => [d]) = l.map (rI k) := by rw [List.map_map]; rfl
theorem flat_rI {k : IntKind} {l : List Int} : (l.map (rI k)).flatten = l.map (DV.I k) := by
 induction l with
 | nil => rfl
 | cons x l ih => simp only [List.map_cons, List.flatten_cons, ih]; rfl
theorem data_aI {k : IntKind} {l : List Int} : AV.data (l.map (aI k)) = some (l.map (DV.I k)) := data_map
theorem intsL_aI {k : IntKind} {l : List Int} : intsL k (l.map (aI k)) = some l := intsL_map
theorem allOne_aI {k : IntKind} {l : List Int} : AV.allOne (l.map (aI k)) = true := allOne_map fun _ => rfl
theorem cvL_aI {lk : Look} {φ : Hd → Option Hd} {k : IntKind} {l : List Int} : AV.convL lk φ (l.map (aI k)) = l.map (aI k) := by
 induction l with
 | nil => rfl
 | cons x l ih => rw [List.map_cons, cvL_cons, ih]; rfl
theorem cvL_app {lk : Look} {φ : Hd → Option Hd} {l m : List AV} : AV.convL lk φ (l ++ m) = AV.convL lk φ l ++ AV.convL lk φ m := by
 induction l with
 | nil => rfl
 | cons x l ih => rw [List.cons_append, cvL_cons, ih]; rfl
theorem rnL_aI {ψ : Hd → Hd} {k : IntKind} {l : List Int} : AV.renL ψ (l.map (aI k)) = l.map (aI k) := by
 induction l with
 | nil => rfl
 | cons x l ih => rw [List.map_cons, rnL_cons, ih]; rfl
theorem rnL_app {ψ : Hd → Hd} {l m : List AV} : AV.renL ψ (l ++ m) = AV.renL ψ l ++ AV.renL ψ m := by
 induction l with
 | nil => rfl
 | cons x l ih => rw [List.cons_append, rnL_cons, ih]; rfl
theorem rwL_aI {k : IntKind} {l : List Int} : AV.rowsL (l.map (aI k)) = [] := by
 induction l with
 | nil => rfl
 | cons x l ih => rw [List.map_cons, rwL_cons, ih]; rfl
theorem rwL_app {l m : List AV} : AV.rowsL (l ++ m) = AV.rowsL l ++ AV.rowsL m := by
 induction l with
 | nil => rfl
 | cons x l ih => rw [List.cons_append, rwL_cons, ih, rwL_cons, List.append_assoc]
theorem flatL_aI {k : IntKind} {l : List Int} : AV.flatL (l.map (aI k)) = true := by
 induction l with
 | nil => rfl
 | cons x l ih => rw [List.map_cons]; unfold AV.flatL; rw [ih]; rfl
theorem flatL_app {l m : List AV} : AV.flatL (l ++ m) = (AV.flatL l && AV.flatL m) := by
 induction l with
 | nil => rfl
 | cons x l ih =>
  show (AV.flat x && AV.flatL (l ++ m)) = ((AV.flat x && AV.flatL l) && AV.flatL m)
  rw [ih, Bool.and_assoc]
theorem aI_ {k : IntKind} {v : Int} : aI k v = .D (.I k v) := rfl
theorem map_getG {α β : Type} (f : α → β) {xs : List α} {n : Nat} {x : α} (h : xs[n]? = some x) : (xs.map f)[n]? = some (f x) := by simp [h]
theorem arr_get {α : Type} (f : Int → α) {n : Nat} (x : Arr n) {i : Nat} (h : i < n) : (x.l.map f)[i]? = some (f (x.l.getD i 0)) := by
 have h' : i < x.l.length := by rw [x.len]; exact h
 simp [List.getD_eq_getElem?_getD, List.getElem?_eq_getElem h']
theorem drop_get0 {α : Type} {l : List α} {i : Nat} : (l.drop i)[0]? = l[i]? := by simp
def intsS (t : Str) : List Int := t.map fun c => (c.toNat : Int)
theorem intsS_ {t : Str} : (t.map fun c => [DV.I .u8 (c.toNat : Nat)]) = (intsS t).map (rI .u8) := by unfold intsS; rw [List.map_map]; rfl
theorem intsS_len {t : Str} : (intsS t).length = t.length := List.length_map _
section
variable {α : Type} {l m : List α} {n i : Nat} {v : α}
theorem drop_ge (h : l.length ≤ n) : (l ++ m).drop n = m.drop (n - l.length) := by rw [List.drop_append, List.drop_eq_nil_of_le h, List.nil_append]
theorem take_ge (h : l.length ≤ n) : (l ++ m).take n = l ++ m.take (n - l.length) := by rw [List.take_append, List.take_of_length_le h]
theorem drop_lt (h : n ≤ l.length) : (l ++ m).drop n = l.drop n ++ m := by rw [List.drop_append, show n - l.length = 0 by omega, List.drop_zero]
theorem take_lt (h : n ≤ l.length) : (l ++ m).take n = l.take n := by rw [List.take_append, show n - l.length = 0 by omega, List.take_zero, List.append_nil]
theorem getE_ge (h : l.length ≤ i) : (l ++ m)[i]? = m[i - l.length]? := List.getElem?_append_right h
theorem getE_lt (h : i < l.length) : (l ++ m)[i]? = l[i]? := List.getElem?_append_left h
theorem set_ge (h : l.length ≤ i) : (l ++ m).set i v = l ++ m.set (i - l.length) v := by rw [List.set_append, if_neg (by omega)]
theorem set_lt (h : i < l.length) : (l ++ m).set i v = l.set i v ++ m := by rw [List.set_append, if_pos h]
theorem drop_all_nil (h : l.length ≤ n) : l.drop n = [] := List.drop_eq_nil_of_le h
end
theorem flat_rI1 {k : IntKind} {l : List Int} {n : Nat} : ((l.map (rI k)).take n).flatten = (l.map (DV.I k)).take n := by
 first
 | rw [← List.map_take, flat_rI, List.map_take]
 | rw [← List.map_drop, flat_rI, List.map_drop]
 | rw [← List.map_drop, ← List.map_take, flat_rI, List.map_take, List.map_drop]
 | rw [← List.map_take, flat_rI]
 | rw [← List.map_drop, flat_rI]
 | rw [← List.map_drop, ← List.map_take, flat_rI]
theorem flat_rI2 {k : IntKind} {l : List Int} {n : Nat} : ((l.map (rI k)).drop n).flatten = (l.map (DV.I k)).drop n := by
 first
 | rw [← List.map_take, flat_rI, List.map_take]
 | rw [← List.map_drop, flat_rI, List.map_drop]
 | rw [← List.map_drop, ← List.map_take, flat_rI, List.map_take, List.map_drop]
 | rw [← List.map_take, flat_rI]
 | rw [← List.map_drop, flat_rI]
 | rw [← List.map_drop, ← List.map_take, flat_rI]
theorem flat_rI3 {k : IntKind} {l : List Int} {n m : Nat} : (((l.map (rI k)).drop n).take m).flatten = ((l.map (DV.I k)).drop n).take m := by
 first
 | rw [← List.map_take, flat_rI, List.map_take]
 | rw [← List.map_drop, flat_rI, List.map_drop]
 | rw [← List.map_drop, ← List.map_take, flat_rI, List.map_take, List.map_drop]
 | rw [← List.map_take, flat_rI]
 | rw [← List.map_drop, flat_rI]
 | rw [← List.map_drop, ← List.map_take, flat_rI]
theorem data_aI1 {k : IntKind} {l : List Int} {n : Nat} : AV.data ((l.map (aI k)).take n) = some ((l.map (DV.I k)).take n) := by
 first
 | rw [← List.map_take, data_aI, List.map_take]
 | rw [← List.map_drop, data_aI, List.map_drop]
 | rw [← List.map_drop, ← List.map_take, data_aI, List.map_take, List.map_drop]
 | rw [← List.map_take, data_aI]
 | rw [← List.map_drop, data_aI]
 | rw [← List.map_drop, ← List.map_take, data_aI]
theorem data_aI2 {k : IntKind} {l : List Int} {n : Nat} : AV.data ((l.map (aI k)).drop n) = some ((l.map (DV.I k)).drop n) := by
 first
 | rw [← List.map_take, data_aI, List.map_take]
 | rw [← List.map_drop, data_aI, List.map_drop]
 | rw [← List.map_drop, ← List.map_take, data_aI, List.map_take, List.map_drop]
 | rw [← List.map_take, data_aI]
 | rw [← List.map_drop, data_aI]
 | rw [← List.map_drop, ← List.map_take, data_aI]
theorem data_aI3 {k : IntKind} {l : List Int} {n m : Nat} : AV.data (((l.map (aI k)).drop n).take m) = some (((l.map (DV.I k)).drop n).take m) := by
 first
 | rw [← List.map_take, data_aI, List.map_take]
 | rw [← List.map_drop, data_aI, List.map_drop]
 | rw [← List.map_drop, ← List.map_take, data_aI, List.map_take, List.map_drop]
 | rw [← List.map_take, data_aI]
 | rw [← List.map_drop, data_aI]
 | rw [← List.map_drop, ← List.map_take, data_aI]
theorem intsL_aI1 {k : IntKind} {l : List Int} {n : Nat} : intsL k ((l.map (aI k)).take n) = some ((l).take n) := by
 first
 | rw [← List.map_take, intsL_aI, List.map_take]
 | rw [← List.map_drop, intsL_aI, List.map_drop]
 | rw [← List.map_drop, ← List.map_take, intsL_aI, List.map_take, List.map_drop]
 | rw [← List.map_take, intsL_aI]
 | rw [← List.map_drop, intsL_aI]
 | rw [← List.map_drop, ← List.map_take, intsL_aI]
theorem intsL_aI2 {k : IntKind} {l : List Int} {n : Nat} : intsL k ((l.map (aI k)).drop n) = some ((l).drop n) := by
 first
 | rw [← List.map_take, intsL_aI, List.map_take]
 | rw [← List.map_drop, intsL_aI, List.map_drop]
 | rw [← List.map_drop, ← List.map_take, intsL_aI, List.map_take, List.map_drop]
 | rw [← List.map_take, intsL_aI]
 | rw [← List.map_drop, intsL_aI]
 | rw [← List.map_drop, ← List.map_take, intsL_aI]
theorem intsL_aI3 {k : IntKind} {l : List Int} {n m : Nat} : intsL k (((l.map (aI k)).drop n).take m) = some (((l).drop n).take m) := by
 first
 | rw [← List.map_take, intsL_aI, List.map_take]
 | rw [← List.map_drop, intsL_aI, List.map_drop]
 | rw [← List.map_drop, ← List.map_take, intsL_aI, List.map_take, List.map_drop]
 | rw [← List.map_take, intsL_aI]
 | rw [← List.map_drop, intsL_aI]
 | rw [← List.map_drop, ← List.map_take, intsL_aI]
theorem allOne_aI1 {k : IntKind} {l : List Int} {n : Nat} : AV.allOne ((l.map (aI k)).take n) = true := by
 first
 | rw [← List.map_take, allOne_aI, List.map_take]
 | rw [← List.map_drop, allOne_aI, List.map_drop]
 | rw [← List.map_drop, ← List.map_take, allOne_aI, List.map_take, List.map_drop]
 | rw [← List.map_take, allOne_aI]
 | rw [← List.map_drop, allOne_aI]
 | rw [← List.map_drop, ← List.map_take, allOne_aI]
theorem allOne_aI2 {k : IntKind} {l : List Int} {n : Nat} : AV.allOne ((l.map (aI k)).drop n) = true := by
 first
 | rw [← List.map_take, allOne_aI, List.map_take]
 | rw [← List.map_drop, allOne_aI, List.map_drop]
 | rw [← List.map_drop, ← List.map_take, allOne_aI, List.map_take, List.map_drop]
 | rw [← List.map_take, allOne_aI]
 | rw [← List.map_drop, allOne_aI]
 | rw [← List.map_drop, ← List.map_take, allOne_aI]
theorem allOne_aI3 {k : IntKind} {l : List Int} {n m : Nat} : AV.allOne (((l.map (aI k)).drop n).take m) = true := by
 first
 | rw [← List.map_take, allOne_aI, List.map_take]
 | rw [← List.map_drop, allOne_aI, List.map_drop]
 | rw [← List.map_drop, ← List.map_take, allOne_aI, List.map_take, List.map_drop]
 | rw [← List.map_take, allOne_aI]
 | rw [← List.map_drop, allOne_aI]
 | rw [← List.map_drop, ← List.map_take, allOne_aI]
theorem cvL_aI1 {lk : Look} {φ : Hd → Option Hd} {k : IntKind} {l : List Int} {n : Nat} : AV.convL lk φ ((l.map (aI k)).take n) = (l.map (aI k)).take n := by
 first
 | rw [← List.map_take, cvL_aI, List.map_take]
 | rw [← List.map_drop, cvL_aI, List.map_drop]
 | rw [← List.map_drop, ← List.map_take, cvL_aI, List.map_take, List.map_drop]
 | rw [← List.map_take, cvL_aI]
 | rw [← List.map_drop, cvL_aI]
 | rw [← List.map_drop, ← List.map_take, cvL_aI]
theorem cvL_aI2 {lk : Look} {φ : Hd → Option Hd} {k : IntKind} {l : List Int} {n : Nat} : AV.convL lk φ ((l.map (aI k)).drop n) = (l.map (aI k)).drop n := by
 first
 | rw [← List.map_take, cvL_aI, List.map_take]
 | rw [← List.map_drop, cvL_aI, List.map_drop]
 | rw [← List.map_drop, ← List.map_take, cvL_aI, List.map_take, List.map_drop]
 | rw [← List.map_take, cvL_aI]
 | rw [← List.map_drop, cvL_aI]
 | rw [← List.map_drop, ← List.map_take, cvL_aI]
theorem cvL_aI3 {lk : Look} {φ : Hd → Option Hd} {k : IntKind} {l : List Int} {n m : Nat} : AV.convL lk φ (((l.map (aI k)).drop n).take m) = ((l.map (aI k)).drop n).take m := by
 first
 | rw [← List.map_take, cvL_aI, List.map_take]
 | rw [← List.map_drop, cvL_aI, List.map_drop]
 | rw [← List.map_drop, ← List.map_take, cvL_aI, List.map_take, List.map_drop]
 | rw [← List.map_take, cvL_aI]
 | rw [← List.map_drop, cvL_aI]
 | rw [← List.map_drop, ← List.map_take, cvL_aI]
theorem rnL_aI1 {ψ : Hd → Hd} {k : IntKind} {l : List Int} {n : Nat} : AV.renL ψ ((l.map (aI k)).take n) = (l.map (aI k)).take n := by
 first
 | rw [← List.map_take, rnL_aI, List.map_take]
 | rw [← List.map_drop, rnL_aI, List.map_drop]
 | rw [← List.map_drop, ← List.map_take, rnL_aI, List.map_take, List.map_drop]
 | rw [← List.map_take, rnL_aI]
 | rw [← List.map_drop, rnL_aI]
 | rw [← List.map_drop, ← List.map_take, rnL_aI]
theorem rnL_aI2 {ψ : Hd → Hd} {k : IntKind} {l : List Int} {n : Nat} : AV.renL ψ ((l.map (aI k)).drop n) = (l.map (aI k)).drop n := by
 first
 | rw [← List.map_take, rnL_aI, List.map_take]
 | rw [← List.map_drop, rnL_aI, List.map_drop]
 | rw [← List.map_drop, ← List.map_take, rnL_aI, List.map_take, List.map_drop]
 | rw [← List.map_take, rnL_aI]
 | rw [← List.map_drop, rnL_aI]
 | rw [← List.map_drop, ← List.map_take, rnL_aI]
theorem rnL_aI3 {ψ : Hd → Hd} {k : IntKind} {l : List Int} {n m : Nat} : AV.renL ψ (((l.map (aI k)).drop n).take m) = ((l.map (aI k)).drop n).take m := by
 first
 | rw [← List.map_take, rnL_aI, List.map_take]
 | rw [← List.map_drop, rnL_aI, List.map_drop]
 | rw [← List.map_drop, ← List.map_take, rnL_aI, List.map_take, List.map_drop]
 | rw [← List.map_take, rnL_aI]
 | rw [← List.map_drop, rnL_aI]
 | rw [← List.map_drop, ← List.map_take, rnL_aI]
theorem rwL_aI1 {k : IntKind} {l : List Int} {n : Nat} : AV.rowsL ((l.map (aI k)).take n) = [] := by
 first
 | rw [← List.map_take, rwL_aI, List.map_take]
 | rw [← List.map_drop, rwL_aI, List.map_drop]
 | rw [← List.map_drop, ← List.map_take, rwL_aI, List.map_take, List.map_drop]
 | rw [← List.map_take, rwL_aI]
 | rw [← List.map_drop, rwL_aI]
 | rw [← List.map_drop, ← List.map_take, rwL_aI]
theorem rwL_aI2 {k : IntKind} {l : List Int} {n : Nat} : AV.rowsL ((l.map (aI k)).drop n) = [] := by
 first
 | rw [← List.map_take, rwL_aI, List.map_take]
 | rw [← List.map_drop, rwL_aI, List.map_drop]
 | rw [← List.map_drop, ← List.map_take, rwL_aI, List.map_take, List.map_drop]
 | rw [← List.map_take, rwL_aI]
 | rw [← List.map_drop, rwL_aI]
 | rw [← List.map_drop, ← List.map_take, rwL_aI]
theorem rwL_aI3 {k : IntKind} {l : List Int} {n m : Nat} : AV.rowsL (((l.map (aI k)).drop n).take m) = [] := by
 first
 | rw [← List.map_take, rwL_aI, List.map_take]
 | rw [← List.map_drop, rwL_aI, List.map_drop]
 | rw [← List.map_drop, ← List.map_take, rwL_aI, List.map_take, List.map_drop]
 | rw [← List.map_take, rwL_aI]
 | rw [← List.map_drop, rwL_aI]
 | rw [← List.map_drop, ← List.map_take, rwL_aI]
attribute [push_cast] flat_rI1 flat_rI2 flat_rI3 data_aI1 data_aI2 data_aI3 intsL_aI1 intsL_aI2 intsL_aI3 allOne_aI1 allOne_aI2 allOne_aI3 cvL_aI1 cvL_aI2 cvL_aI3 rnL_aI1 rnL_aI2 rnL_aI3 rwL_aI1 rwL_aI2 rwL_aI3
theorem un_Xu8 {K : AV → Prop} {x : Int} : aun .xor K (.D (.I .u8 x)) = K (.D (.I .u8 (bits .xor .u8 255 x))) := (rfl)
theorem un_Xu16 {K : AV → Prop} {x : Int} : aun .xor K (.D (.I .u16 x)) = K (.D (.I .u16 (bits .xor .u16 65535 x))) := (rfl)
theorem un_Xu32 {K : AV → Prop} {x : Int} : aun .xor K (.D (.I .u32 x)) = K (.D (.I .u32 (bits .xor .u32 4294967295 x))) := (rfl)
theorem un_Xu64 {K : AV → Prop} {x : Int} : aun .xor K (.D (.I .u64 x)) = K (.D (.I .u64 (bits .xor .u64 18446744073709551615 x))) := (rfl)
theorem un_Xi64 {K : AV → Prop} {x : Int} : aun .xor K (.D (.I .i64 x)) = K (.D (.I .i64 (bits .xor .i64 (-1) x))) := (rfl)
theorem un_Xi32 {K : AV → Prop} {x : Int} : aun .xor K (.D (.I .i32 x)) = K (.D (.I .i32 (bits .xor .i32 (-1) x))) := (rfl)
attribute [push_cast] un_Xu8 un_Xu16 un_Xu32 un_Xu64 un_Xi64 un_Xi32
section
variable {P : Program} {s : AState} {d : Option Nat} {r : List RO} {K : AState → Prop}
theorem p_sls {x : Operand} {lo hi : Option Operand} : st P s d r K (.sls x lo hi) = kSls (kv P s d r K) (bd s.ev lo) (bd s.ev hi) (s.ev x) := by
 refine propext ⟨?_, fun h => ?_⟩
 ·rintro ⟨t, h1, h2⟩
  rw [h1]
  rw [optInt_iff, optInt_iff] at h2
  exact ⟨h2.2.1, h2.1, h2.2.2.1, h2.2.2.2.1, h2.2.2.2.2⟩
 ·generalize hx : s.ev x = vx at h
  cases vx with
  | D u => cases u with
   | S t =>
    refine ⟨t, hx, ?_⟩
    rw [optInt_iff, optInt_iff]
    obtain ⟨a, b, c, e, f⟩ := h
    exact ⟨b, a, c, e, f⟩
   | _ => exact False.elim h
  | _ => exact False.elim h
theorem p_ixs {x i : Operand} : st P s d r K (.ixs x i) = kIx (kv P s d r K) (s.ev x) (s.ev i) := by
 refine propext ⟨?_, fun h => ?_⟩
 ·rintro ⟨t, kd, j, c, h1, h2, h3, h4, h5⟩
  rw [h1, h2]
  refine ⟨h3, ?_⟩
  show mC _ t[j.toNat]?
  rw [h4]; exact h5
 ·generalize hx : s.ev x = vx at h
  generalize hi : s.ev i = vi at h
  cases vx with
  | D u => cases u with
   | S t => cases vi with
    | D w => cases w with
     | I kd j =>
      obtain ⟨h3, h⟩ := h
      have h : mC (kv P s d r K) t[j.toNat]? := h
      generalize he : t[j.toNat]? = v at h
      cases v with
      | none => exact False.elim h
      | some c => exact ⟨t, kd, j, c, hx, hi, h3, he, h⟩
     | _ => exact False.elim h
    | _ => exact False.elim h
   | _ => cases vi <;> exact False.elim h
  | _ => cases vi <;> exact False.elim h
theorem sls_S {K : AV → Prop} {lo hi : Option AV} {t : Str} : kSls K lo hi (.D (.S t)) = (bOk lo ∧ bOk hi ∧ bN 0 lo ≤ bN t.length hi ∧ bN t.length hi ≤ t.length ∧ K (.D (.S ((t.drop (bN 0 lo)).take (bN t.length hi - bN 0 lo))))) := (rfl)
theorem ix_S {K : AV → Prop} {t : Str} {kd : IntKind} {j : Int} : kIx K (.D (.S t)) (.D (.I kd j)) = (0 ≤ j ∧ mC K t[j.toNat]?) := (rfl)
end
attribute [push_cast] p_sls p_ixs sls_S ix_S
theorem fold_put {α : Type} {f : Int → α} {n o m : Nat} {x : Arr n} {zs : List Int} {rest : List α} (h1 : (zs.take m).length = m) (h2 : o + m ≤ n) :
  (x.l.map f).take o ++ ((zs.map f).take m ++ ((x.l.map f).drop (o + m) ++ rest)) = (x.put o (zs.take m)).l.map f ++ rest := by
 rw [Arr.l_put (by rw [h1]; exact h2), h1, ← List.map_take, ← List.map_take, ← List.map_drop, List.map_append, List.map_append, List.append_assoc, List.append_assoc]
theorem fold_put1 {α : Type} {f : Int → α} {n o m : Nat} {x : Arr n} {zs : List Int} (h1 : (zs.take m).length = m) (h2 : o + m ≤ n) :
  (x.l.map f).take o ++ ((zs.map f).take m ++ (x.l.map f).drop (o + m)) = (x.put o (zs.take m)).l.map f := by
 have := fold_put (rest := []) (f := f) (x := x) h1 h2
 simpa using this
attribute [push_cast] fold_put fold_put1
theorem take_take_same {α : Type} {l : List α} {n : Nat} : (l.take n).take n = l.take n := by rw [List.take_take, Nat.min_self]
attribute [push_cast] take_take_same all_I List.all_append
theorem add_sub_l {a b : Nat} : a + b - a = b := by omega
theorem add_add_sub_l {a b c : Nat} : a + b + c - a = b + c := by omega
theorem len_tminS {t : Str} {m : Nat} : ((intsS t).take (min t.length m)).length = min t.length m := by rw [List.length_take, intsS_len]; omega
theorem len_tmin {α : Type} {t : List α} {m : Nat} : (t.take (min t.length m)).length = min t.length m := by simp
attribute [push_cast] add_sub_l add_add_sub_l len_tminS len_tmin
theorem len_take {n m : Nat} {x : Arr n} (h : m ≤ n) : (x.l.take m).length = m := by have := x.len; simp; omega
theorem len_drop {n m : Nat} {x : Arr n} : (x.l.drop m).length = n - m := by rw [List.length_drop, x.len]
theorem len_td {n m o : Nat} {x : Arr n} (h : o + m ≤ n) : ((x.l.drop o).take m).length = m := by have := x.len; simp; omega
attribute [push_cast] len_take len_drop len_td
theorem one_add_len {α : Type} {l : List α} : 1 + l.length = l.length + 1 := Nat.add_comm ..
attribute [push_cast] one_add_len
attribute [push_cast] Nat.mul_one drop_get0 intsS_ intsS_len Arr.len Arr.l_of Arr.l_set Arr.l_part Arr.l_from rA_ rA_len rA_uni rA_one map_D map_D' map_ones flat_rI data_aI intsL_aI allOne_aI cvL_aI cvL_app rnL_aI rnL_app rwL_aI rwL_app drop_ge take_ge getE_ge set_ge drop_lt take_lt getE_lt set_lt drop_all_nil aI_ List.append_assoc List.map_append List.flatten_append List.flatten_cons List.flatten_nil
attribute [simp] intsS_len Arr.len rA_uni rA_one rA_len
end Go.Eng
