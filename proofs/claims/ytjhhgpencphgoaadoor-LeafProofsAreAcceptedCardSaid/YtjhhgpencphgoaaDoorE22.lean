import Derived.Test.YtjhhgpencphgoaaDoorE21b
set_option linter.unusedSimpArgs false
set_option linter.unusedVariables false
namespace Go.Eng
open Go.RowKit

def ownL (l : List (Option Blk)) : Nat → Option Blk := fun i => (l[i]?).join
def argL (l : List AV) : Nat → AV := fun t => l.getD t .un
theorem oL_get {l : List (Option Blk)} {i : Nat} : ownL l i = (l[i]?).join := (rfl)
theorem aL_get {l : List AV} {i : Nat} : argL l i = l.getD i .un := (rfl)
theorem entry_eq (args : List AV) (bs : List (Option Blk)) : entry args bs = ⟨argL args, ownL bs, ownL [], 0⟩ := by
 unfold entry
 congr 1
theorem eL_cons {t i : Nat} {a : AV} {r : List (Nat × AV)} : envL ((t, a) :: r) i = if i = t then a else envL r i := (rfl)
theorem eL_nil {i : Nat} : envL [] i = .any := (rfl)

def lpK (I : Nat → AState → Prop) (n : Nat) : AState → Prop := fun s => ∃ n' s', n' < n ∧ Wk s s' ∧ I n' s'
theorem lpK_of {I : Nat → AState → Prop} {n : Nat} {s : AState} (n' : Nat) (keep slots : List Nat) (hlt : n' < n) (hn : slots.Nodup) (h : I n' (s.wk keep slots)) : lpK I n s := ⟨n', _, hlt, s.wk_ok keep hn, h⟩

theorem loop_of {P : Program} {Y : Yh} {b : RCode} {Q : Exit → AState → Prop} {s : AState} (I : Nat → AState → Prop) (n : Nat) (keep slots : List Nat) (hn : slots.Nodup) (h0 : I n (s.wk keep slots))
  (hr : ∀ n s, I n s → acode P Y b (exSeq (lpK I n) Q) s) : acode P Y (.loop b) Q s := .inl ⟨I, n, s.wk keep slots, s.wk_ok keep hn, h0, hr⟩

def lkS (bs own : Nat → Option Blk) : Look
 | .B i => bs i
 | .O i => own i
theorem lkS_O {bs own : Nat → Option Blk} {i : Nat} : lkS bs own (.O i) = own i := (rfl)
theorem lkS_B {bs own : Nat → Option Blk} {i : Nat} : lkS bs own (.B i) = bs i := (rfl)
theorem phi_B {slots : List Nat} {i : Nat} : phi slots (.B i) = some (.B i) := (rfl)
theorem phi_O {slots : List Nat} {j : Nat} : phi slots (.O j) = (idxIn j slots 0).map .O := (rfl)
def kpL (lk : Look) (slots : List Nat) (env : Nat → AV) : List Nat → List (Nat × AV)
 | [] => []
 | t :: r => (t, AV.conv lk (phi slots) (env t)) :: kpL lk slots env r
theorem kpL_nil {lk : Look} {slots : List Nat} {env : Nat → AV} : kpL lk slots env [] = [] := (rfl)
theorem kpL_cons {lk : Look} {slots : List Nat} {env : Nat → AV} {t : Nat} {r : List Nat} : kpL lk slots env (t :: r) = (t, AV.conv lk (phi slots) (env t)) :: kpL lk slots env r := (rfl)
theorem kpL_eq {lk : Look} {slots : List Nat} {env : Nat → AV} : ∀ keep : List Nat, kpL lk slots env keep = keep.map fun t => (t, AV.conv lk (phi slots) (env t))
 | [] => rfl
 | t :: r => by rw [kpL_cons, kpL_eq r]; rfl
theorem wk_mk {env : Nat → AV} {lb : List (Option Blk)} {nx : Nat} {keep slots : List Nat} {own : Nat → Option Blk} : AState.wk ⟨env, ownL lb, own, nx⟩ keep slots =
  ⟨envL (kpL (lkS (ownL lb) own) slots env keep), ownL (lb.map fun b => b.map (Blk.conv (lkS (ownL lb) own) (phi slots))), ownL (slots.map fun j => (own j).map (Blk.conv (lkS (ownL lb) own) (phi slots))), slots.length⟩ := by
 have hlk : AState.lk ⟨env, ownL lb, own, nx⟩ = lkS (ownL lb) own := by funext h; cases h <;> rfl
 unfold AState.wk
 rw [hlk, kpL_eq]
 congr 1
 ·funext i
  show ((lb[i]?).join).map _ = _
  unfold ownL
  rw [List.getElem?_map]
  cases lb[i]? <;> simp
 ·funext i
  show (slots[i]?).bind _ = _
  unfold ownL
  rw [List.getElem?_map]
  cases slots[i]? <;> simp

end Go.Eng
