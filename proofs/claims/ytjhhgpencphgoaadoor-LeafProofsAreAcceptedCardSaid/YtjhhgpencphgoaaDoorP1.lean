import Derived.Test.YtjhhgpencphgoaaDoorE27
set_option linter.unusedSimpArgs false
set_option linter.unusedVariables false
namespace Go.Eng

theorem if_true? {α : Type} {a b : Option α} : if? true a b = a := rfl
theorem if_false? {α : Type} {a b : Option α} : if? false a b = b := rfl
theorem bd_some {α β : Type} {x : α} {f : α → Option β} : bd? (some x) f = f x := rfl
theorem ck_of {α : Type} {n : Int} {a : Option α} (h : -9223372036854775808 ≤ n) (h' : n ≤ 9223372036854775807) : ck .i64 n a = a := by unfold ck; rw [if_pos (w_i64 h h')]
theorem gd_of {α : Type} {p : Prop} [Decidable p] {a : Option α} (h : p) : gd? p a = a := by unfold gd?; rw [if_pos h]
theorem get_of {α β : Type} {xs : List α} {i : Nat} {f : α → Option β} (h : i < xs.length) : get? xs (i : Int) f = f xs[i] := by
 unfold get?
 rw [if_pos (Int.natCast_nonneg i), Int.toNat_natCast, List.getElem?_eq_getElem h]
theorem get_int {α β : Type} {xs : List α} {j : Int} {f : α → Option β} (h0 : 0 ≤ j) (h : j.toNat < xs.length) : get? xs j f = f xs[j.toNat] := by
 unfold get?
 rw [if_pos h0, List.getElem?_eq_getElem h]
theorem drop_cons {α : Type} {xs : List α} {i : Nat} (h : i < xs.length) : xs.drop i = xs[i] :: xs.drop (i + 1) := List.drop_eq_getElem_cons h
theorem cast_succ (i : Nat) : ((i : Int) + 1) = ((i + 1 : Nat) : Int) := by omega
end Go.Eng
