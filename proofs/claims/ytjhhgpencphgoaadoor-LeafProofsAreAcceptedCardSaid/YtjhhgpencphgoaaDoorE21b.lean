import Derived.Test.YtjhhgpencphgoaaDoorE21
set_option linter.unusedSimpArgs false
set_option linter.unusedVariables false
namespace Go.Eng
open Go.RowKit
def castN (m : Nat) : Int := m
theorem castN_lit (n : Nat) : castN (no_index (@OfNat.ofNat Nat n (instOfNatNat n))) = @OfNat.ofNat Int n (@instOfNat n) := (rfl)
def kIaA (K : AV → Prop) (m k : Nat) : AV → AV → Prop
 | .ptr h o, .D (.I _ j) => 0 ≤ j ∧ j < m ∧ K (.ptr h (o + j.toNat * k))
 | .eptr h k' ix o, .D (.I _ j) => 0 ≤ j ∧ j < m ∧ K (AV.eadd h k' ix o (j.toNat * k))
 | .rop ds, .D (.I _ j) => 0 ≤ j ∧ j < m ∧ K (.rop (ds.drop (j.toNat * k)))
 | _, _ => False
def kIxA1 (K : AV → Prop) (off : Nat) (cs : List AV) : Option Nat → Prop
 | none => mA K cs[off]?
 | some q => off + q ≤ cs.length ∧ K (.agg ((cs.drop off).take q))
def kIxA (K : AV → Prop) (m k : Nat) (ag : Option Nat) : AV → AV → Prop
 | .agg cs, .D (.I _ j) => 0 ≤ j ∧ j < m ∧ kIxA1 K (j.toNat * k) cs ag
 | _, _ => False
def kSlA1 (K : AV → Prop) (m : Nat) (lo hi : Option AV) (h : Hd) (ix : Nat) : Option Blk → Prop
 | some (.row _ k es) => k = 1 ∧ ix + m ≤ es.length ∧ bOk lo ∧ bOk hi ∧ bN 0 lo ≤ bN m hi ∧ bN m hi ≤ m ∧ K (.sl h 1 (ix + bN 0 lo) (bN m hi - bN 0 lo))
 | _ => False
def kSlA (K : AV → Prop) (lk : Look) (m : Nat) (lo hi : Option AV) : AV → Prop
 | .eptr h k ix off => k = 1 ∧ off = 0 ∧ kSlA1 K m lo hi h ix (lk h)
 | _ => False
def kArP1 (K : AV → Prop) (m : Nat) (h : Hd) (off len : Nat) : Option Blk → Prop
 | some (.row _ k _) => k = 1 ∧ m ≤ len ∧ 0 < len ∧ K (.eptr h 1 off 0)
 | _ => False
def kArP (K : AV → Prop) (lk : Look) (m : Nat) : AV → Prop
 | .sl h k off len => k = 1 ∧ kArP1 K m h off len (lk h)
 | _ => False
def kNc (K : AV → Prop) : AV → Prop
 | .ptr h o => K (.ptr h o)
 | .eptr h k ix o => K (.eptr h k ix o)
 | .rop ds => K (.rop ds)
 | _ => False
def kEqG1 (K : AV → Prop) (neg : Bool) : Option Bool → Prop
 | some b => K (.D (.B (if neg = true then !b else b)))
 | none => False
def kEqG (K : AV → Prop) (neg : Bool) (sh : List Sh) : AV → AV → Prop
 | .agg xs, .agg ys => kEqG1 K neg (eqSh sh xs ys)
 | _, _ => False
def kEqA1 (K : AV → Prop) (neg : Bool) (m : Nat) : Option (List Int) → Option (List Int) → Prop
 | some p, some q => p.length = m ∧ q.length = m ∧ K (.D (.B (if neg = true then !(p == q) else (p == q))))
 | _, _ => False
def kEqA (K : AV → Prop) (neg : Bool) (k : IntKind) (m : Nat) : AV → AV → Prop
 | .agg xs, .agg ys => kEqA1 K neg m (intsL k xs) (intsL k ys)
 | _, _ => False
def kSl3 (K : AV → Prop) (k : Nat) (lo hi mx : Option AV) : AV → Prop
 | .D (.L es) => Uni k es ∧ bOk lo ∧ bOk hi ∧ bOk mx ∧ bN 0 lo ≤ bN es.length hi ∧ bN es.length hi ≤ es.length ∧ bN es.length hi = bN es.length mx ∧ K (.fl ((es.drop (bN 0 lo)).take (bN es.length hi - bN 0 lo)))
 | .fl es => Uni k es ∧ bOk lo ∧ bOk hi ∧ bOk mx ∧ bN 0 lo ≤ bN es.length hi ∧ bN es.length hi ≤ bN es.length mx ∧ bN es.length mx ≤ es.length ∧ K (if bN es.length hi = bN es.length mx then .fl ((es.drop (bN 0 lo)).take (bN es.length hi - bN 0 lo)) else .D (.L ((es.drop (bN 0 lo)).take (bN es.length hi - bN 0 lo))))
 | _ => False
section
variable {P : Program} {s : AState} {d : Option Nat} {r : List RO} {K : AState → Prop}
theorem p_iaddrA {m k : Nat} {x i : Operand} : st P s d r K (.iaddrA m k x i) = (AV.live s.lk (s.ev x) = true ∧ kIaA (kv P s d r K) m k (s.ev x) (s.ev i)) := by
 refine propext ⟨?_, fun h => ?_⟩
 ·rintro ⟨h1, kd, j, h2, h3, h5, h4⟩
  refine ⟨h1, ?_⟩
  rw [h2]
  generalize hx : s.ev x = vx at h4
  cases vx with
  | ptr h o => exact ⟨h3, h5, h4⟩
  | eptr h k ix o => exact ⟨h3, h5, h4⟩
  | rop ds => exact ⟨h3, h5, h4⟩
  | _ => exact False.elim h4
 ·obtain ⟨h1, h⟩ := h
  refine ⟨h1, ?_⟩
  generalize hx : s.ev x = vx at h
  generalize hi : s.ev i = vi at h
  cases vi with
  | D u => cases u with
   | I kd j => cases vx with
    | ptr h' o => exact ⟨kd, j, rfl, h.1, h.2.1, h.2.2⟩
    | eptr h' k ix o => exact ⟨kd, j, rfl, h.1, h.2.1, h.2.2⟩
    | rop ds => exact ⟨kd, j, rfl, h.1, h.2.1, h.2.2⟩
    | _ => exact False.elim h
   | _ => cases vx <;> exact False.elim h
  | _ => cases vx <;> exact False.elim h
theorem p_idxA {m k : Nat} {ag : Option Nat} {x i : Operand} : st P s d r K (.idxA m k ag x i) = kIxA (kv P s d r K) m k ag (s.ev x) (s.ev i) := by
 refine propext ⟨?_, fun h => ?_⟩
 ·rintro ⟨cs, kd, j, h1, h2, h3, h5, h4⟩
  rw [h1, h2]
  refine ⟨h3, h5, ?_⟩
  cases ag with
  | none => obtain ⟨a, h6, h7⟩ := h4; show mA _ cs[j.toNat * k]?; rw [h6]; exact h7
  | some q => exact h4
 ·generalize hx : s.ev x = vx at h
  generalize hi : s.ev i = vi at h
  cases vx with
  | agg cs => cases vi with
   | D u => cases u with
    | I kd j =>
     refine ⟨cs, kd, j, hx, hi, h.1, h.2.1, ?_⟩
     have h4 := h.2.2
     cases ag with
     | none =>
      have h4 : mA (kv P s d r K) cs[j.toNat * k]? := h4
      generalize he : cs[j.toNat * k]? = v at h4
      cases v with
      | none => exact False.elim h4
      | some a => exact ⟨a, rfl, h4⟩
     | some q => exact h4
    | _ => exact False.elim h
   | _ => exact False.elim h
  | _ => exact False.elim h
theorem p_slsA {m : Nat} {x : Operand} {lo hi : Option Operand} : st P s d r K (.slsA m x lo hi) = kSlA (kv P s d r K) s.lk m (bd s.ev lo) (bd s.ev hi) (s.ev x) := by
 refine propext ⟨?_, fun h => ?_⟩
 ·rintro ⟨h, ix, mt, es, h1, h2, h3, h4⟩
  rw [h1]
  refine ⟨rfl, rfl, ?_⟩
  rw [h2]
  rw [optInt_iff, optInt_iff] at h4
  exact ⟨rfl, h3, h4.2.1, h4.1, h4.2.2.1, h4.2.2.2.1, h4.2.2.2.2⟩
 ·generalize hx : s.ev x = vx at h
  cases vx with
  | eptr h' k ix off =>
   obtain ⟨rfl, rfl, h⟩ := h
   generalize he : s.lk h' = v at h
   match v, h with
   | some (.row mt k es), h =>
    obtain ⟨rfl, a1, a2, a3, a4, a5, a6⟩ := h
    refine ⟨h', ix, mt, es, hx, he, a1, ?_⟩
    rw [optInt_iff, optInt_iff]
    exact ⟨a3, a2, a4, a5, a6⟩
  | _ => exact False.elim h
theorem p_arrP {m : Nat} {x : Operand} : st P s d r K (.arrP m x) = kArP (kv P s d r K) s.lk m (s.ev x) := by
 refine propext ⟨?_, fun h => ?_⟩
 ·rintro ⟨h, off, len, mt, es, h1, h2, h3⟩
  rw [h1]
  refine ⟨rfl, ?_⟩
  rw [h2]; exact ⟨rfl, h3⟩
 ·generalize hx : s.ev x = vx at h
  cases vx with
  | sl h' k off len =>
   obtain ⟨rfl, h⟩ := h
   generalize he : s.lk h' = v at h
   match v, h with
   | some (.row mt k es), h =>
    obtain ⟨rfl, h⟩ := h
    exact ⟨h', off, len, mt, es, hx, he, h⟩
  | _ => exact False.elim h
theorem p_nilc {x : Operand} : st P s d r K (.nilc x) = (AV.live s.lk (s.ev x) = true ∧ kNc (kv P s d r K) (s.ev x)) := by
 show (AV.live s.lk (s.ev x) = true ∧ _) = _
 congr 1
theorem p_eqa {neg : Bool} {k : IntKind} {m : Nat} {x y : Operand} : st P s d r K (.eqa neg k m x y) = kEqA (kv P s d r K) neg k m (s.ev x) (s.ev y) := by
 refine propext ⟨?_, fun h => ?_⟩
 ·rintro ⟨xs, ys, p, q, e1, e2, e3, e4, h⟩
  rw [e1, e2]
  show kEqA1 _ neg m (intsL k xs) (intsL k ys)
  rw [e3, e4]; exact h
 ·generalize hx : s.ev x = vx at h
  generalize hy : s.ev y = vy at h
  cases vx with
  | agg xs => cases vy with
   | agg ys =>
    have h : kEqA1 (kv P s d r K) neg m (intsL k xs) (intsL k ys) := h
    generalize he : intsL k xs = v at h
    generalize hf : intsL k ys = u at h
    match v, u, h with
    | some p, some q, h => exact ⟨xs, ys, p, q, hx, hy, he, hf, h⟩
   | _ => exact False.elim h
  | _ => exact False.elim h
theorem p_eqg {neg : Bool} {sh : List Sh} {x y : Operand} : st P s d r K (.eqg neg sh x y) = kEqG (kv P s d r K) neg sh (s.ev x) (s.ev y) := by
 refine propext ⟨?_, fun h => ?_⟩
 ·rintro ⟨xs, ys, b, e1, e2, e3, h⟩
  rw [e1, e2]
  show kEqG1 _ neg (eqSh sh xs ys)
  rw [e3]; exact h
 ·generalize hx : s.ev x = vx at h
  generalize hy : s.ev y = vy at h
  cases vx with
  | agg xs => cases vy with
   | agg ys =>
    have h : kEqG1 (kv P s d r K) neg (eqSh sh xs ys) := h
    generalize he : eqSh sh xs ys = v at h
    match v, h with
    | some b, h => exact ⟨xs, ys, b, hx, hy, he, h⟩
   | _ => exact False.elim h
  | _ => exact False.elim h
theorem p_sl3 {k : Nat} {x h m : Operand} {lo : Option Operand} : st P s d r K (.sll k x lo (some h) (some m)) = (AV.live s.lk (s.ev x) = true ∧ kSl3 (kv P s d r K) k (bd s.ev lo) (bd s.ev (some h)) (bd s.ev (some m)) (s.ev x)) := by
 show (AV.live s.lk (s.ev x) = true ∧ aslice k s.ev lo (some h) (some m) (kv P s d r K) (s.ev x)) = _
 congr 1
 generalize s.ev x = vx
 cases vx with
 | D u => cases u with
  | L es =>
   simp only [aslice, kSl3, optInt_iff, Option.isSome_some, if_true, true_and, forall_const]
   exact propext ⟨fun ⟨a, b, c, d, e, f, g, k⟩ => ⟨a, d, c, b, e, f, g, k⟩, fun ⟨a, b, c, d, e, f, g, k⟩ => ⟨a, d, c, b, e, f, g, k⟩⟩
  | _ => rfl
 | fl es =>
  simp only [aslice, kSl3, optInt_iff, Option.isSome_some, forall_const, true_and]
  exact propext ⟨fun ⟨a, b, c, d, e, f, g, k⟩ => ⟨a, d, c, b, e, f, g, k⟩, fun ⟨a, b, c, d, e, f, g, k⟩ => ⟨a, d, c, b, e, f, g, k⟩⟩
 | sl hd k' off len => exact propext ⟨fun ⟨_, h, _⟩ => (by cases h), fun h => h.elim⟩
 | slk hd k' off len cap => exact propext ⟨fun ⟨_, h, _⟩ => (by cases h), fun h => h.elim⟩
 | _ => rfl
theorem sl3_L {K : AV → Prop} {k : Nat} {lo hi mx : Option AV} {es : List (List DV)} : kSl3 K k lo hi mx (.D (.L es)) = (Uni k es ∧ bOk lo ∧ bOk hi ∧ bOk mx ∧ bN 0 lo ≤ bN es.length hi ∧ bN es.length hi ≤ es.length ∧ bN es.length hi = bN es.length mx ∧ K (.fl ((es.drop (bN 0 lo)).take (bN es.length hi - bN 0 lo)))) := (rfl)
theorem sl3_f {K : AV → Prop} {k : Nat} {lo hi mx : Option AV} {es : List (List DV)} : kSl3 K k lo hi mx (.fl es) = (Uni k es ∧ bOk lo ∧ bOk hi ∧ bOk mx ∧ bN 0 lo ≤ bN es.length hi ∧ bN es.length hi ≤ bN es.length mx ∧ bN es.length mx ≤ es.length ∧ K (if bN es.length hi = bN es.length mx then .fl ((es.drop (bN 0 lo)).take (bN es.length hi - bN 0 lo)) else .D (.L ((es.drop (bN 0 lo)).take (bN es.length hi - bN 0 lo))))) := (rfl)
theorem iaA_p {K : AV → Prop} {m k o : Nat} {h : Hd} {kd : IntKind} {j : Int} : kIaA K m k (.ptr h o) (.D (.I kd j)) = (0 ≤ j ∧ j < castN m ∧ K (.ptr h (o + j.toNat * k))) := (rfl)
theorem iaA_e {K : AV → Prop} {m k k' ix o : Nat} {h : Hd} {kd : IntKind} {j : Int} : kIaA K m k (.eptr h k' ix o) (.D (.I kd j)) = (0 ≤ j ∧ j < castN m ∧ K (AV.eadd h k' ix o (j.toNat * k))) := (rfl)
theorem iaA_r {K : AV → Prop} {m k : Nat} {ds : List DV} {kd : IntKind} {j : Int} : kIaA K m k (.rop ds) (.D (.I kd j)) = (0 ≤ j ∧ j < castN m ∧ K (.rop (ds.drop (j.toNat * k)))) := (rfl)
theorem ixA_0 {K : AV → Prop} {m k : Nat} {cs : List AV} {kd : IntKind} {j : Int} : kIxA K m k none (.agg cs) (.D (.I kd j)) = (0 ≤ j ∧ j < castN m ∧ mA K cs[j.toNat * k]?) := (rfl)
theorem ixA_1 {K : AV → Prop} {m k q : Nat} {cs : List AV} {kd : IntKind} {j : Int} : kIxA K m k (some q) (.agg cs) (.D (.I kd j)) = (0 ≤ j ∧ j < castN m ∧ j.toNat * k + q ≤ cs.length ∧ K (.agg ((cs.drop (j.toNat * k)).take q))) := (rfl)
theorem slA_0 {K : AV → Prop} {lk : Look} {m k ix off : Nat} {lo hi : Option AV} {h : Hd} : kSlA K lk m lo hi (.eptr h k ix off) = (k = 1 ∧ off = 0 ∧ kSlA1 K m lo hi h ix (lk h)) := (rfl)
theorem slA_1 {K : AV → Prop} {m ix k : Nat} {lo hi : Option AV} {h : Hd} {mt : Bool} {es : List (List DV)} : kSlA1 K m lo hi h ix (some (.row mt k es)) = (k = 1 ∧ ix + m ≤ es.length ∧ bOk lo ∧ bOk hi ∧ bN 0 lo ≤ bN m hi ∧ bN m hi ≤ m ∧ K (.sl h 1 (ix + bN 0 lo) (bN m hi - bN 0 lo))) := (rfl)
theorem arP_0 {K : AV → Prop} {lk : Look} {m k off len : Nat} {h : Hd} : kArP K lk m (.sl h k off len) = (k = 1 ∧ kArP1 K m h off len (lk h)) := (rfl)
theorem arP_1 {K : AV → Prop} {m off len k : Nat} {h : Hd} {mt : Bool} {es : List (List DV)} : kArP1 K m h off len (some (.row mt k es)) = (k = 1 ∧ m ≤ len ∧ 0 < len ∧ K (.eptr h 1 off 0)) := (rfl)
theorem nc_p {K : AV → Prop} {h : Hd} {o : Nat} : kNc K (.ptr h o) = K (.ptr h o) := (rfl)
theorem nc_e {K : AV → Prop} {h : Hd} {k ix o : Nat} : kNc K (.eptr h k ix o) = K (.eptr h k ix o) := (rfl)
theorem nc_r {K : AV → Prop} {ds : List DV} : kNc K (.rop ds) = K (.rop ds) := (rfl)
theorem eqG_0 {K : AV → Prop} {neg : Bool} {sh : List Sh} {xs ys : List AV} : kEqG K neg sh (.agg xs) (.agg ys) = kEqG1 K neg (eqSh sh xs ys) := (rfl)
theorem eqG_1 {K : AV → Prop} {neg b : Bool} : kEqG1 K neg (some b) = K (.D (.B (if neg = true then !b else b))) := (rfl)
theorem esh_B {h : Sh} {r : List Sh} {x y : Bool} {xs ys : List AV} : eqSh (.s 0 :: h :: r) (.D (.B x) :: xs) (.D (.B y) :: ys) = (eqSh (h :: r) xs ys).map fun b => (x == y) && b := by
 show (match DV.same 0 (.B x) (.B y), eqSh (h :: r) xs ys with | some p, some q => some (p && q) | _, _ => none) = _
 rw [show DV.same 0 (.B x) (.B y) = some (x == y) from rfl]; cases eqSh (h :: r) xs ys <;> rfl
theorem esh_B0 {x y : Bool} : eqSh [.s 0] [.D (.B x)] [.D (.B y)] = some (x == y) := by
 show some ((x == y) && true) = _
 rw [Bool.and_true]
theorem esh_I {h : Sh} {r : List Sh} {k : IntKind} {x y : Int} {xs ys : List AV} : eqSh (.s 1 :: h :: r) (.D (.I k x) :: xs) (.D (.I k y) :: ys) = (eqSh (h :: r) xs ys).map fun b => (x == y) && b := by
 show (match DV.same 1 (.I k x) (.I k y), eqSh (h :: r) xs ys with | some p, some q => some (p && q) | _, _ => none) = _
 rw [show DV.same 1 (.I k x) (.I k y) = some (x == y) from if_pos ⟨rfl, rfl⟩]; cases eqSh (h :: r) xs ys <;> rfl
theorem esh_I0 {k : IntKind} {x y : Int} : eqSh [.s 1] [.D (.I k x)] [.D (.I k y)] = some (x == y) := by
 show (match DV.same 1 (.I k x) (.I k y), eqSh [] [] [] with | some p, some q => some (p && q) | _, _ => none) = _
 rw [show DV.same 1 (.I k x) (.I k y) = some (x == y) from if_pos ⟨rfl, rfl⟩]
 show some ((x == y) && true) = _
 rw [Bool.and_true]
theorem esh_S {h : Sh} {r : List Sh} {x y : List UInt8} {xs ys : List AV} : eqSh (.s 2 :: h :: r) (.D (.S x) :: xs) (.D (.S y) :: ys) = (eqSh (h :: r) xs ys).map fun b => (x == y) && b := by
 show (match DV.same 2 (.S x) (.S y), eqSh (h :: r) xs ys with | some p, some q => some (p && q) | _, _ => none) = _
 rw [show DV.same 2 (.S x) (.S y) = some (x == y) by simp [DV.same]]; cases eqSh (h :: r) xs ys <;> rfl
theorem esh_S0 {x y : List UInt8} : eqSh [.s 2] [.D (.S x)] [.D (.S y)] = some (x == y) := by
 show some ((x == y) && true) = _
 rw [Bool.and_true]
def kSh (m : Nat) : Option (List Int) → Option (List Int) → Option Bool → Option Bool
 | some p, some q, some b => if p.length = m ∧ q.length = m then some ((p == q) && b) else none
 | _, _, _ => none
def kSh0 (m : Nat) : Option (List Int) → Option (List Int) → Option Bool
 | some p, some q => if p.length = m ∧ q.length = m then some (p == q) else none
 | _, _ => none
theorem esh_a {k : IntKind} {m : Nat} {h : Sh} {r : List Sh} {xs ys : List AV} : eqSh (.a k m :: h :: r) xs ys = kSh m (intsL k (xs.take m)) (intsL k (ys.take m)) (eqSh (h :: r) (xs.drop m) (ys.drop m)) := by
 rw [eqSh]
 unfold kSh
 split <;> split <;> simp_all
theorem esh_a0 {k : IntKind} {m : Nat} {xs ys : List AV} (h1 : xs.length = m) (h2 : ys.length = m) : eqSh [.a k m] xs ys = kSh0 m (intsL k xs) (intsL k ys) := by
 rw [eqSh, List.take_of_length_le (by omega), List.take_of_length_le (by omega), List.drop_of_length_le (by omega), List.drop_of_length_le (by omega), show eqSh [] [] [] = some true from rfl]
 unfold kSh0
 cases intsL k xs <;> cases intsL k ys <;> simp
theorem ksh_1 {m : Nat} {p q : List Int} {b : Bool} (h1 : p.length = m) (h2 : q.length = m) : kSh m (some p) (some q) (some b) = some ((p == q) && b) := if_pos ⟨h1, h2⟩
theorem ksh_2 {m : Nat} {p q : List Int} (h1 : p.length = m) (h2 : q.length = m) : kSh0 m (some p) (some q) = some (p == q) := if_pos ⟨h1, h2⟩
theorem eqA_0 {K : AV → Prop} {neg : Bool} {k : IntKind} {m : Nat} {xs ys : List AV} : kEqA K neg k m (.agg xs) (.agg ys) = kEqA1 K neg m (intsL k xs) (intsL k ys) := (rfl)
theorem eqA_1 {K : AV → Prop} {neg : Bool} {m : Nat} {p q : List Int} : kEqA1 K neg m (some p) (some q) = (p.length = m ∧ q.length = m ∧ K (.D (.B (if neg = true then !(p == q) else (p == q))))) := (rfl)
end
theorem data_map {α : Type} {f : α → DV} {xs : List α} : AV.data (xs.map fun x => .D (f x)) = some (xs.map f) := by
 induction xs with
 | nil => rfl
 | cons x xs ih => simp only [List.map_cons, AV.data, ih, Option.map_some]
theorem data_app {xs ys : List AV} : AV.data (xs ++ ys) = (AV.data xs).bind fun a => (AV.data ys).map (a ++ ·) := by
 induction xs with
 | nil => cases h : AV.data ys <;> simp [AV.data, h]
 | cons x xs ih =>
  cases x with
  | D d => simp only [List.cons_append, AV.data, ih]; cases AV.data xs <;> cases AV.data ys <;> simp
  | _ => rfl
theorem intsL_map {k : IntKind} {xs : List Int} : intsL k (xs.map fun x => .D (.I k x)) = some xs := by
 induction xs with
 | nil => rfl
 | cons x xs ih => simp only [List.map_cons, intsL, if_true, ih, Option.map_some]
theorem flat_ones {α : Type} {f : α → DV} {xs : List α} : (xs.map fun x => [f x]).flatten = xs.map f := by
 induction xs with
 | nil => rfl
 | cons x xs ih => simp [ih]
theorem allOne_map {α : Type} {f : α → AV} {xs : List α} (h : ∀ x, AV.one (f x) = true) : AV.allOne (xs.map f) = true := by
 induction xs with
 | nil => rfl
 | cons x xs ih => simp [AV.allOne, h, ih]
theorem allOne_I {k : IntKind} {xs : List Int} : AV.allOne (xs.map fun x => .D (.I k x)) = true := allOne_map fun _ => rfl
theorem allOne_app {xs ys : List AV} : AV.allOne (xs ++ ys) = (AV.allOne xs && AV.allOne ys) := by
 induction xs with
 | nil => rfl
 | cons x xs ih => simp [AV.allOne, ih, Bool.and_assoc]
end Go.Eng
