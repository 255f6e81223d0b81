import Derived.Test.YtjhhgpencphgoaaDoorE24
set_option linter.unusedSimpArgs false
set_option linter.unusedVariables false
namespace Go.Eng
open Go.RowKit

def bytesI (xs : List Int) : Str := xs.map fun n => UInt8.ofNat n.toNat
theorem bytesI_nil : bytesI [] = [] := (rfl)
theorem bytesI_cons {n : Int} {r : List Int} : bytesI (n :: r) = UInt8.ofNat n.toNat :: bytesI r := (rfl)
theorem bytesOf_nil : bytesOf [] = some [] := (rfl)
theorem bytesOf_cons {n : Int} {r : List (List DV)} : bytesOf ([.I .u8 n] :: r) = (bytesOf r).map (UInt8.ofNat n.toNat :: ·) := (rfl)
theorem bytesOf_map {xs : List Int} : bytesOf (xs.map (rI .u8)) = some (bytesI xs) := by
 induction xs with
 | nil => rfl
 | cons x xs ih => rw [List.map_cons, rI_, bytesOf_cons, ih]; rfl
theorem rw_D {x : DV} : AV.rows (.D x) = [] := (rfl)
theorem rw_fl {es : List (List DV)} : AV.rows (.fl es) = [] := (rfl)
theorem rw_ptr {h : Hd} {o : Nat} : AV.rows (.ptr h o) = [] := (rfl)
theorem rw_eptr {h : Hd} {k i o : Nat} : AV.rows (.eptr h k i o) = [] := (rfl)
theorem rw_rop {ds : List DV} : AV.rows (.rop ds) = [] := (rfl)
theorem rw_any : AV.rows .any = [] := (rfl)
theorem rw_sc : AV.rows .sc = [] := (rfl)
theorem rw_ab : AV.rows .ab = [] := (rfl)
theorem rw_sl {h : Hd} {k o l : Nat} : AV.rows (.sl h k o l) = [h] := (rfl)
theorem rw_slk {h : Hd} {k o l c : Nat} : AV.rows (.slk h k o l c) = [h] := (rfl)
theorem rw_agg {cs : List AV} : AV.rows (.agg cs) = AV.rowsL cs := (rfl)
theorem rw_tup {cs : List AV} : AV.rows (.tup cs) = AV.rowsL cs := (rfl)
theorem rw_clo {f : Nat} {cs : List AV} : AV.rows (.clo f cs) = AV.rowsL cs := (rfl)
theorem rwL_nil : AV.rowsL [] = [] := (rfl)
theorem rwL_cons {a : AV} {as : List AV} : AV.rowsL (a :: as) = AV.rows a ++ AV.rowsL as := (rfl)
theorem rn_D {ψ : Hd → Hd} {x : DV} : AV.ren ψ (.D x) = .D x := (rfl)
theorem rn_fl {ψ : Hd → Hd} {es : List (List DV)} : AV.ren ψ (.fl es) = .fl es := (rfl)
theorem rn_sl {ψ : Hd → Hd} {h : Hd} {k o l : Nat} : AV.ren ψ (.sl h k o l) = .sl (ψ h) k o l := (rfl)
theorem rn_slk {ψ : Hd → Hd} {h : Hd} {k o l c : Nat} : AV.ren ψ (.slk h k o l c) = .slk (ψ h) k o l c := (rfl)
theorem rn_ptr {ψ : Hd → Hd} {h : Hd} {o : Nat} : AV.ren ψ (.ptr h o) = .ptr (ψ h) o := (rfl)
theorem rn_agg {ψ : Hd → Hd} {cs : List AV} : AV.ren ψ (.agg cs) = .agg (AV.renL ψ cs) := (rfl)
theorem rn_tup {ψ : Hd → Hd} {cs : List AV} : AV.ren ψ (.tup cs) = .tup (AV.renL ψ cs) := (rfl)
theorem rn_clo {ψ : Hd → Hd} {f : Nat} {cs : List AV} : AV.ren ψ (.clo f cs) = .clo f (AV.renL ψ cs) := (rfl)
theorem rnL_nil {ψ : Hd → Hd} : AV.renL ψ [] = [] := (rfl)
theorem rnL_cons {ψ : Hd → Hd} {a : AV} {as : List AV} : AV.renL ψ (a :: as) = AV.ren ψ a :: AV.renL ψ as := (rfl)
theorem bn_box {ψ : Hd → Hd} {cs : List AV} : Blk.ren ψ (.box cs) = .box (AV.renL ψ cs) := (rfl)
theorem bn_row {ψ : Hd → Hd} {mt : Bool} {k : Nat} {es : List (List DV)} : Blk.ren ψ (.row mt k es) = .row mt k es := (rfl)
theorem bf_box {cs : List AV} : Blk.frz (.box cs) = .box cs := (rfl)
theorem bf_row {mt : Bool} {k : Nat} {es : List (List DV)} : Blk.frz (.row mt k es) = .row false k es := (rfl)
def cvPtr (f : Hd → AV) : Option Hd → AV
 | some h => f h
 | none => .sc
def cvRow (k off len : Nat) : Option Blk → AV
 | some (.row _ k' es) => if k' = k ∧ off + len ≤ es.length then .D (.L ((es.drop off).take len)) else .sc
 | _ => .sc
def cvSl (k off len : Nat) (b : Option Blk) : Option Hd → AV
 | some h => .sl h k off len
 | none => cvRow k off len b
def cvSlk (k off len cap : Nat) (b : Option Blk) : Option Hd → AV
 | some h => .slk h k off len cap
 | none => cvRow k off len b
section
variable {lk : Look} {φ : Hd → Option Hd}
theorem cv_D {x : DV} : AV.conv lk φ (.D x) = .D x := (rfl)
theorem cv_fl {es : List (List DV)} : AV.conv lk φ (.fl es) = .D (.L es) := (rfl)
theorem cv_any : AV.conv lk φ .any = .any := (rfl)
theorem cv_sc : AV.conv lk φ .sc = .sc := (rfl)
theorem cv_ab : AV.conv lk φ .ab = .ab := (rfl)
theorem cv_rop {ds : List DV} : AV.conv lk φ (.rop ds) = .rop ds := (rfl)
theorem cv_agg {cs : List AV} : AV.conv lk φ (.agg cs) = .agg (AV.convL lk φ cs) := (rfl)
theorem cv_tup {cs : List AV} : AV.conv lk φ (.tup cs) = .tup (AV.convL lk φ cs) := (rfl)
theorem cv_clo {f : Nat} {cs : List AV} : AV.conv lk φ (.clo f cs) = .clo f (AV.convL lk φ cs) := (rfl)
theorem cv_ptr {h : Hd} {o : Nat} : AV.conv lk φ (.ptr h o) = cvPtr (fun h => .ptr h o) (φ h) := by unfold AV.conv cvPtr; cases φ h <;> rfl
theorem cv_eptr {h : Hd} {k i o : Nat} : AV.conv lk φ (.eptr h k i o) = cvPtr (fun h => .eptr h k i o) (φ h) := by unfold AV.conv cvPtr; cases φ h <;> rfl
theorem cv_sl {h : Hd} {k o l : Nat} : AV.conv lk φ (.sl h k o l) = cvSl k o l (lk h) (φ h) := by unfold AV.conv cvSl; cases φ h <;> rfl
theorem cv_slk {h : Hd} {k o l c : Nat} : AV.conv lk φ (.slk h k o l c) = cvSlk k o l c (lk h) (φ h) := by unfold AV.conv cvSlk; cases φ h <;> rfl
theorem cvK_s {k o l c : Nat} {b : Option Blk} {h : Hd} : cvSlk k o l c b (some h) = .slk h k o l c := (rfl)
theorem cvK_n {k o l c : Nat} {b : Option Blk} : cvSlk k o l c b none = cvRow k o l b := (rfl)
theorem cvP_s {f : Hd → AV} {h : Hd} : cvPtr f (some h) = f h := (rfl)
theorem cvP_n {f : Hd → AV} : cvPtr f none = .sc := (rfl)
theorem cvS_s {k o l : Nat} {b : Option Blk} {h : Hd} : cvSl k o l b (some h) = .sl h k o l := (rfl)
theorem cvS_n {k o l : Nat} {b : Option Blk} : cvSl k o l b none = cvRow k o l b := (rfl)
theorem cvR_r {k o l k' : Nat} {mt : Bool} {es : List (List DV)} (h1 : k' = k) (h2 : o + l ≤ es.length) : cvRow k o l (some (.row mt k' es)) = .D (.L ((es.drop o).take l)) := by simp [cvRow, h1, h2]
theorem cvL_nil : AV.convL lk φ [] = [] := (rfl)
theorem cvL_cons {a : AV} {as : List AV} : AV.convL lk φ (a :: as) = AV.conv lk φ a :: AV.convL lk φ as := (rfl)
theorem cb_box {cs : List AV} : Blk.conv lk φ (.box cs) = .box (AV.convL lk φ cs) := (rfl)
theorem cb_row {mt : Bool} {k : Nat} {es : List (List DV)} : Blk.conv lk φ (.row mt k es) = .row mt k es := (rfl)
end
def adCons (k : Nat) : Option (List DV) → Option (List (List DV)) → Option (List (List DV))
 | some e, some es => if e.length = k then some (e :: es) else none
 | _, _ => none
theorem ad_nil {lk : Look} {ev : Operand → AV} {k : Nat} : adataL lk ev k [] = some [] := (rfl)
theorem ad_cons {lk : Look} {ev : Operand → AV} {k : Nat} {x : Operand} {r : List Operand} : adataL lk ev k (x :: r) = adCons k (((ev x).cells?).bind fun cs => AV.data (AV.convL lk (fun _ => none) cs)) (adataL lk ev k r) := by
 rw [adataL]
 cases (((ev x).cells?).bind fun cs => AV.data (AV.convL lk (fun _ => none) cs)) <;> cases adataL lk ev k r <;> rfl
theorem ad_s {k : Nat} {e : List DV} {es : List (List DV)} (h : e.length = k) : adCons k (some e) (some es) = some (e :: es) := by simp [adCons, h]
theorem da_nil : AV.data [] = some [] := (rfl)
theorem da_D {x : DV} {r : List AV} : AV.data (.D x :: r) = (AV.data r).map (x :: ·) := (rfl)
theorem dr_nil {ev : Operand → AV} : adataRows ev [] = [] := (rfl)
theorem dr_cons {ev : Operand → AV} {x : Operand} {r : List Operand} : adataRows ev (x :: r) = AV.rows (ev x) ++ adataRows ev r := (rfl)
def ctRow (k off len : Nat) : Option Blk → Option (List (List DV))
 | some (.row _ k' es) => if k' = k ∧ off + len ≤ es.length then some ((es.drop off).take len) else none
 | _ => none
theorem ct_L {lk : Look} {es : List (List DV)} : AV.content lk (.D (.L es)) = some es := (rfl)
theorem ct_fl {lk : Look} {es : List (List DV)} : AV.content lk (.fl es) = some es := (rfl)
theorem ct_S {lk : Look} {t : Str} : AV.content lk (.D (.S t)) = some (t.map fun c => [.I .u8 c.toNat]) := (rfl)
theorem ct_sl {lk : Look} {h : Hd} {k o l : Nat} : AV.content lk (.sl h k o l) = ctRow k o l (lk h) := by
 unfold AV.content ctRow; rfl
theorem ct_slk {lk : Look} {h : Hd} {k o l c : Nat} : AV.content lk (.slk h k o l c) = ctRow k o l (lk h) := by
 unfold AV.content ctRow; rfl
theorem ctR_r {k o l k' : Nat} {mt : Bool} {es : List (List DV)} (h1 : k' = k) (h2 : o + l ≤ es.length) : ctRow k o l (some (.row mt k' es)) = some ((es.drop o).take l) := by simp [ctRow, h1, h2]
theorem b_shl {k k' : IntKind} {x y : Int} {K : AV → Prop} : abin .shl K (.D (.I k x)) (.D (.I k' y)) = (0 ≤ y ∧ y ≤ k.bits ∧ K (.D (.I k (k.wrap (x * 2 ^ y.toNat))))) := (rfl)
theorem b_shr {k k' : IntKind} {x y : Int} {K : AV → Prop} : abin .shr K (.D (.I k x)) (.D (.I k' y)) = (0 ≤ y ∧ y ≤ k.bits ∧ K (.D (.I k (x / 2 ^ y.toNat)))) := (rfl)
theorem bits64 : ((IntKind.bits .u64 : Nat) : Int) = 64 := (rfl)
theorem bits64' : ((IntKind.bits .i64 : Nat) : Int) = 64 := (rfl)
theorem bits32 : ((IntKind.bits .u32 : Nat) : Int) = 32 := (rfl)
theorem bits8 : ((IntKind.bits .u8 : Nat) : Int) = 8 := (rfl)
attribute [push_cast] b_shl b_shr bits64 bits64' bits32 bits8
theorem take_len {α : Type} {l : List α} : l.take l.length = l := List.take_length
theorem take_app {α : Type} {l m : List α} {n : Nat} (h : n = l.length + m.length) : (l ++ m).take n = l ++ m := by subst h; rw [← List.length_append]; exact List.take_length
theorem take_map {α β : Type} {f : α → β} {l : List α} {n : Nat} (h : n = l.length) : (l.map f).take n = l.map f := by subst h; rw [← List.length_map f (as := l)]; exact List.take_length

section
variable {α β : Type} {f : α → β} {l : List α} {n m : Nat}
theorem lt_m : ((l.map f).take n).length = (l.take n).length := by simp
theorem ld_m : ((l.map f).drop n).length = (l.drop n).length := by simp
theorem ltd_m : (((l.map f).drop m).take n).length = ((l.drop m).take n).length := by simp
theorem ldt_m : (((l.map f).take m).drop n).length = ((l.take m).drop n).length := by simp
theorem tt_m : ((l.map f).take n).take (l.take n).length = (l.map f).take n := by rw [← lt_m (f := f)]; exact List.take_length
theorem td_m : ((l.map f).drop n).take (l.drop n).length = (l.map f).drop n := by rw [← ld_m (f := f)]; exact List.take_length
theorem ttd_m : (((l.map f).drop m).take n).take ((l.drop m).take n).length = ((l.map f).drop m).take n := by rw [← ltd_m (f := f)]; exact List.take_length
theorem tdt_m : (((l.map f).take m).drop n).take ((l.take m).drop n).length = ((l.map f).take m).drop n := by rw [← ldt_m (f := f)]; exact List.take_length
end
theorem uni_take {k n : Nat} {l : List (List DV)} (h : Uni k l) : Uni k (l.take n) = True := by
 simp only [eq_iff_iff, iff_true]; exact fun e he => h e (List.mem_of_mem_take he)
theorem uni_drop {k n : Nat} {l : List (List DV)} (h : Uni k l) : Uni k (l.drop n) = True := by
 simp only [eq_iff_iff, iff_true]; exact fun e he => h e (List.mem_of_mem_drop he)
theorem one_take {n : Nat} {l : List (List DV)} (h : oneL l = true) : oneL (l.take n) = true := by
 rw [oneL, List.all_eq_true] at h ⊢; exact fun e he => h e (List.mem_of_mem_take he)
theorem one_drop {n : Nat} {l : List (List DV)} (h : oneL l = true) : oneL (l.drop n) = true := by
 rw [oneL, List.all_eq_true] at h ⊢; exact fun e he => h e (List.mem_of_mem_drop he)
attribute [push_cast, simp] uni_take uni_drop one_take one_drop
attribute [simp] rI_uni rI_one rB_uni rB_one rS_uni rS_one rL_uni rL_one
attribute [push_cast] rw_D rw_fl rw_ptr rw_eptr rw_rop rw_any rw_sc rw_ab rw_sl rw_slk rw_agg rw_tup rw_clo rwL_nil rwL_cons rn_D rn_fl rn_sl rn_slk rn_ptr rn_agg rn_tup rn_clo rnL_nil rnL_cons bn_box bn_row bf_box bf_row
attribute [push_cast] cv_D cv_fl cv_any cv_sc cv_ab cv_rop cv_agg cv_tup cv_clo cv_ptr cv_eptr cv_sl cv_slk cvK_s cvK_n cvP_s cvP_n cvS_s cvS_n cvR_r cvL_nil cvL_cons cb_box cb_row ad_nil ad_cons ad_s da_nil da_D dr_nil dr_cons ct_L ct_fl ct_S ct_sl ct_slk ctR_r
attribute [push_cast] bytesI_nil bytesI_cons bytesOf_nil bytesOf_cons bytesOf_map idxIn Option.map_some Option.map_none Option.bind_some phi_O List.mem_cons List.not_mem_nil Hd.O.injEq Hd.B.injEq Nat.zero_mul Option.isSome_none List.map_replicate List.length_replicate take_len take_map take_app lt_m ld_m ltd_m ldt_m tt_m td_m ttd_m tdt_m decide_true decide_false
end Go.Eng
