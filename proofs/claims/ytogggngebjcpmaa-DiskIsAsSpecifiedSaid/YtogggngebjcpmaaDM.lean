/- The disk of the specification: its calls. -/
import Derived.Test.YtogggngebjcpmaaDL
set_option linter.all false
set_option linter.unusedSimpArgs false
set_option linter.unusedVariables false
set_option synthInstance.maxSize 100000000
set_option synthInstance.maxHeartbeats 4000000
set_option maxRecDepth 100000
namespace Go.Proofs.Try
open Go.Eng Go.RowKit
theorem rcheck_e {N : Nat} {i st af : Int} {de : Bool} {L : List RC} : G_ref09_Disk_check N i st af de L = some (errOf de i L.length, st, af, de, L) := by
  unfold G_ref09_Disk_check errOf
  cases de with
  | true => simp
  | false =>
    by_cases h : i < 0
    · simp [h]
    · by_cases h2 : (L.length : Int) ≤ i
      · simp [h, h2]
      · simp [h, h2]
theorem rstep_eq {N : Nat} {st af : Int} {de : Bool} {L : List RC} (h1 : -1 ≤ af) (h2 : af ≤ 9223372036854775807) (h3 : 0 ≤ st) (h4 : st ≤ 1000) :
    G_ref09_Disk_step N st af de L = some (if af = 0 then (false, st, af, true, L) else (true, st + 1, afS af, de, L)) := by
  unfold G_ref09_Disk_step afS
  by_cases h : af = 0
  · subst h; simp
  · rw [show (af == 0) = false by simpa using h]
    by_cases h5 : af > 0
    · simp [h5, h]
      rw [q_ck (by omega) (by omega)]
      simp
      rw [q_ck (by omega) (by omega)]
    · simp [h5, h]
      rw [q_ck (by omega) (by omega)]
theorem rread_eq {N : Nat} {i st af : Int} {de : Bool} {L : List RC} (hl : 0 ≤ i → i < (L.length : Int) → (rc L i.toNat).2.2.length ≤ 1000) :
    G_ref09_Disk_Read N i st af de L = some (if errOf de i L.length ≠ 0 then ((Arr.zero 64, errOf de i L.length), st, af, de, L) else (rdR (rc L i.toNat), st, af, de, L)) := by
  unfold G_ref09_Disk_Read
  rw [q_gl, rcheck_e]
  simp only [q_bd]
  generalize he : errOf de i L.length = e
  by_cases h : e = 0
  · subst h
    obtain ⟨rfl, hi0, hi1⟩ := errOf_0 he
    have hl := hl hi0 hi1
    simp only [show ((0 : Int) != 0) = false from rfl, q_if0, ne_eq, not_true_eq_false, if_false]
    rw [q_gdT hi0, q_gdT hi1, q_gn (rc_get (by omega))]
    unfold rdR
    by_cases ho : (rc L i.toNat).2.2 = []
    · rw [ho, show decide ((((([] : List Sec).length : Nat) : Int)) > 0) = false from rfl, q_if0, if_pos rfl]
      cases hb : (rc L i.toNat).2.1 with
      | true => simp
      | false => simp
    · have hp : 0 < (rc L i.toNat).2.2.length := List.length_pos_iff.2 ho
      rw [show decide (((rc L i.toNat).2.2.length : Int) > 0) = true from decide_eq_true (by omega), q_if1, q_ck (by omega) (by omega), show ((rc L i.toNat).2.2.length : Int) - 1 = (((rc L i.toNat).2.2.length - 1 : Nat) : Int) by omega, q_get (at_get (by omega))]
      simp only [q_gl]
      rw [if_neg ho]
  · simp only [(ne0 h).2, q_if1, q_gl]
    rw [if_pos h]
theorem rarm_eq {N : Nat} {n st af : Int} {de : Bool} {L : List RC} : G_ref09_Disk_Arm N n st af de L = some (st, max n (-1), de, L) := by
  unfold G_ref09_Disk_Arm; rw [q_gl]
theorem rrot_eq {N : Nat} {i st af : Int} {de : Bool} {L : List RC} :
    G_ref09_Disk_Rot N i st af de L = some (errOf de i L.length, st, af, de, if errOf de i L.length = 0 then L.set i.toNat (Arr.zero 64, true, (rc L i.toNat).2.2) else L) := by
  unfold G_ref09_Disk_Rot
  rw [q_gl, rcheck_e]
  simp only [q_bd]
  generalize he : errOf de i L.length = e
  by_cases h : e = 0
  · subst h
    obtain ⟨rfl, hi0, hi1⟩ := errOf_0 he
    simp only [show ((0 : Int) != 0) = false from rfl, q_if0]
    rw [q_gdT hi0, q_gdT hi1, q_gn (rc_get (by omega)), q_gdT hi0, q_gdT hi1]
    have hs : (L.set i.toNat ((rc L i.toNat).1, true, (rc L i.toNat).2.2))[i.toNat]? = some ((rc L i.toNat).1, true, (rc L i.toNat).2.2) := by
      rw [List.getElem?_set_self (by omega)]
    rw [q_gn hs, q_glT (by rw [List.length_set, List.length_set]), List.set_set]
    simp
  · simp only [(ne0 h).2, q_if1, q_gl]
    rw [if_neg h]
theorem rflip_eq {N : Nat} {i bit st af : Int} {de : Bool} {L : List RC} :
    G_ref09_Disk_Flip N i bit st af de L = some (if errOf de i L.length ≠ 0 then (errOf de i L.length, st, af, de, L) else if bit < 0 ∨ 512 ≤ bit then (1, st, af, de, L) else (0, st, af, de, if (rc L i.toNat).2.1 = true then L else L.set i.toNat (flipS (rc L i.toNat).1 bit, (rc L i.toNat).2.1, (rc L i.toNat).2.2))) := by
  unfold G_ref09_Disk_Flip
  rw [q_gl, rcheck_e]
  simp only [q_bd]
  generalize he : errOf de i L.length = e
  by_cases h : e = 0
  · subst h
    obtain ⟨rfl, hi0, hi1⟩ := errOf_0 he
    simp only [show ((0 : Int) != 0) = false from rfl, q_if0, ne_eq, not_true_eq_false, if_false]
    by_cases hb : bit < 0
    · rw [show decide (bit < 0) = true from decide_eq_true hb, q_if1]
      simp only [q_gl, q_bd, q_if1]
      rw [if_pos (.inl hb)]
    · rw [show decide (bit < 0) = false from decide_eq_false hb, q_if0]
      simp only [q_gl, q_bd]
      by_cases hb2 : 512 ≤ bit
      · rw [show decide (bit > 511) = true from decide_eq_true (by omega), q_if1, if_pos (.inr hb2)]
      · rw [show decide (bit > 511) = false from decide_eq_false (by omega), q_if0, if_neg (by omega)]
        obtain ⟨b0, b1, b2, b3⟩ := bit_in (show 0 ≤ bit by omega) (show bit < 512 by omega)
        have hc := rc_get (L := L) (i := i.toNat) (by omega)
        rw [q_gdT hi0, q_gdT hi1, q_gn hc]
        cases hz : (rc L i.toNat).2.1 with
        | true => simp only [Bool.not_true, q_if0, q_gl, q_bd, if_true]
        | false =>
          simp only [Bool.not_false, q_if1, Bool.false_eq_true, if_false]
          have hl : (rc L i.toNat).1.l[(bit.tdiv 8).toNat]? = some ((rc L i.toNat).1.l.getD (bit.tdiv 8).toNat 0) := by
            have hlt : (bit.tdiv 8).toNat < (rc L i.toNat).1.l.length := by rw [(rc L i.toNat).1.len]; omega
            rw [List.getD, List.getElem?_eq_getElem hlt]; rfl
          rw [q_ck (by omega) (by omega), q_ck (by omega) (by omega), q_gdT hi0, q_gdT hi1, q_gdT b0, q_gdT (by omega), q_gn hc, q_gn hl, q_gdT b2, q_gdT (show bit.tmod 8 ≤ ((IntKind.bits .u8 : Nat) : Int) from b3), q_gdT hi0, q_gdT hi1, q_gdT b0, q_gdT (by omega), q_gn hc, q_gdT (show (bit.tdiv 8).toNat < 64 by omega), q_glT (List.length_set).symm]
          simp only [q_bd, q_gl, hz]
          rfl
  · simp only [(ne0 h).2, q_if1, q_gl]
    rw [if_pos h]
theorem ropen1 {rc5 : Int → Int → Int → Bool → List RC → List Int → Option (Int × Int × Bool × List RC × List Int)} {st af : Int} {de : Bool} {L : List RC} {i : Nat} (hi : i < L.length) (hl : L.length ≤ 1000) (hn : (rc L i).2.2.length ≤ 1000) :
    ∀ (m k : Nat) (acc : List Int), k ≤ (rc L i).2.2.length → (rc L i).2.2.length - k < m → acc.length ≤ i * 1000 + k → L_ref09_Disk_Open_1 rc5 m (i : Nat) (k : Nat) st af de L acc = rc5 ((i + 1 : Nat) : Int) st af de L (acc ++ List.replicate ((rc L i).2.2.length - k) (i : Int))
  | 0, _, _, _, h, _ => absurd h (Nat.not_lt_zero _)
  | m + 1, k, acc, hk, h, ha => by
    show B_ref09_Disk_Open_1 rc5 (L_ref09_Disk_Open_1 rc5 m) (i : Int) (k : Int) st af de L acc = _
    unfold B_ref09_Disk_Open_1
    rw [q_gdT (by omega), q_gdT (by omega), Int.toNat_natCast, q_gn (rc_get hi)]
    by_cases hlt : k < (rc L i).2.2.length
    · rw [show decide ((k : Int) < ((rc L i).2.2.length : Int)) = true from decide_eq_true (by omega), q_if1]
      simp only [q_gl, List.length_singleton]
      rw [q_gdT (by omega), q_ck (by omega) (by omega)]
      rw [show (k : Int) + 1 = ((k + 1 : Nat) : Int) by omega, ropen1 hi hl hn m (k + 1) _ (by omega) (by omega) (by simp; omega)]
      rw [List.append_assoc, show (rc L i).2.2.length - k = (rc L i).2.2.length - (k + 1) + 1 by omega, List.replicate_succ]
      rfl
    · rw [show decide ((k : Int) < ((rc L i).2.2.length : Int)) = false from decide_eq_false (by omega), q_if0, q_ck (by omega) (by omega)]
      simp only [q_gl]
      rw [show (rc L i).2.2.length - k = 0 by omega, List.replicate_zero, List.append_nil]
      rfl
theorem ropen0 {N : Nat} {st af : Int} {de : Bool} {L : List RC} (hl : L.length ≤ 1000) (hn : ∀ c ∈ L, c.2.2.length ≤ 1000 ∧ c.2.2.length < N) : ∀ (m i : Nat) (acc : List Int), i ≤ L.length → L.length - i < m → acc.length ≤ i * 1000 →
    L_ref09_Disk_Open_0 N m (i : Nat) st af de L acc = some (st, af, de, L, acc ++ openR L i (L.length - i))
  | 0, _, _, _, h, _ => absurd h (Nat.not_lt_zero _)
  | m + 1, i, acc, hi, h, ha => by
    show B_ref09_Disk_Open_0 N (L_ref09_Disk_Open_0 N m) (i : Int) st af de L acc = _
    unfold B_ref09_Disk_Open_0
    by_cases hlt : i < L.length
    · rw [show decide ((i : Int) < (L.length : Int)) = true from decide_eq_true (by omega), q_if1]
      simp only [q_gl]
      have hc := hn _ (List.mem_of_getElem? (rc_get hlt))
      have := ropen1 (rc5 := L_ref09_Disk_Open_0 N m) (st := st) (af := af) (de := de) hlt hl hc.1 N 0 acc (by omega) (by omega) (by omega)
      rw [show ((0 : Nat) : Int) = 0 from rfl] at this
      rw [this, ropen0 hl hn m (i + 1) _ (by omega) (by omega) (by simp; omega), show L.length - i = L.length - (i + 1) + 1 by omega, openR_succ, List.append_assoc]
      rfl
    · rw [show decide ((i : Int) < (L.length : Int)) = false from decide_eq_false (by omega), q_if0]
      simp only [q_gl]
      rw [show L.length - i = 0 by omega]
      simp [openR]
theorem ropen_eq {N : Nat} {st af : Int} {de : Bool} {L : List RC} (hl : L.length ≤ 1000) (hN : L.length < N) (hn : ∀ c ∈ L, c.2.2.length ≤ 1000 ∧ c.2.2.length < N) : G_ref09_Disk_Open N st af de L = some (st, af, de, L, openR L 0 L.length) := by
  unfold G_ref09_Disk_Open
  rw [q_gl]
  have := ropen0 (st := st) (af := af) (de := de) hl hn N 0 [] (by omega) (by omega) (by simp)
  rw [List.nil_append, Nat.sub_zero] at this
  exact this
end Go.Proofs.Try
set_option synthInstance.maxSize 100000000
set_option synthInstance.maxHeartbeats 4000000
set_option maxRecDepth 100000
namespace Go.Proofs.Try
open Go.Eng Go.RowKit
theorem take_set1 {α : Type} {l : List α} {i : Nat} {x : α} (h : i < l.length) : (l.set i x).take (i + 1) = l.take i ++ [x] := by
  rw [List.take_succ, List.getElem?_set_self h, List.take_set_of_le (Nat.le_refl i)]; rfl
theorem drop_set1 {α : Type} {l : List α} {i : Nat} {x : α} : (l.set i x).drop (i + 1) = l.drop (i + 1) := List.drop_set_of_lt (by omega)
theorem drop_rc {L : List RC} {i : Nat} (h : i < L.length) : L.drop i = rc L i :: L.drop (i + 1) := by
  rw [List.drop_eq_getElem_cons h]
  congr 1
  have := rc_get h
  rw [List.getElem?_eq_getElem h] at this
  exact Option.some.inj this
theorem take_rc {L : List RC} {i : Nat} (h : i < L.length) : L.take (i + 1) = L.take i ++ [rc L i] := by
  rw [List.take_succ, rc_get h]; rfl
end Go.Proofs.Try
set_option synthInstance.maxSize 100000000
set_option synthInstance.maxHeartbeats 4000000
set_option maxRecDepth 100000
namespace Go.Proofs.Try
open Go.Eng Go.RowKit
theorem syR_nil {c : RC} (h : c.2.2 = []) : syR c = c := by unfold syR; rw [h]; rfl
theorem syR_some {c : RC} (h : 0 < c.2.2.length) : syR c = (at_ c.2.2 (c.2.2.length - 1), false, []) := by
  have : c.2.2.getLast? = some (at_ c.2.2 (c.2.2.length - 1)) := by rw [List.getLast?_eq_getElem?, at_get (by omega)]
  unfold syR
  rw [this]
theorem rsync_loop {st af : Int} {de : Bool} : ∀ (m i : Nat) (L : List RC), L.length - i < m → i ≤ L.length → L.length ≤ 1000 → (∀ c ∈ L, c.2.2.length ≤ 1000) →
    L_ref09_Disk_Sync_0 m (i : Nat) st af de L = some (0, st, af, de, L.take i ++ (L.drop i).map syR)
  | 0, _, _, h, _, _, _ => absurd h (Nat.not_lt_zero _)
  | m + 1, i, L, h, hi, hL, hc => by
    show B_ref09_Disk_Sync_0 (L_ref09_Disk_Sync_0 m) (i : Int) st af de L = _
    unfold B_ref09_Disk_Sync_0
    by_cases hlt : i < L.length
    · have hr := hc _ (List.mem_of_getElem? (rc_get hlt))
      rw [show decide ((i : Int) < (L.length : Int)) = true from decide_eq_true (by omega), q_if1, q_gdT (by omega), q_gdT (by omega), Int.toNat_natCast, q_gn (rc_get hlt)]
      by_cases ho : (rc L i).2.2.length = 0
      · rw [show decide (((rc L i).2.2.length : Int) > 0) = false from decide_eq_false (by omega), q_if0]
        simp only [q_gl, q_bd]
        rw [q_ck (by omega) (by omega), show (i : Int) + 1 = ((i + 1 : Nat) : Int) by omega, rsync_loop m (i + 1) L (by omega) (by omega) hL hc, take_rc hlt, drop_rc hlt, List.map_cons, syR_nil (List.length_eq_zero_iff.1 ho), List.append_assoc]
        rfl
      · rw [show decide (((rc L i).2.2.length : Int) > 0) = true from decide_eq_true (by omega), q_if1, q_gdT (by omega), q_gdT (by omega), q_gn (rc_get hlt), q_ck (by omega) (by omega), show ((rc L i).2.2.length : Int) - 1 = (((rc L i).2.2.length - 1 : Nat) : Int) by omega, q_get (at_get (by omega)), q_gdT (by omega), q_gdT (by omega), q_gn (rc_get hlt), q_glT (List.length_set).symm]
        simp only [q_gl, q_bd]
        rw [q_ck (by omega) (by omega), show (i : Int) + 1 = ((i + 1 : Nat) : Int) by omega]
        rw [rsync_loop m (i + 1) _ (by rw [List.length_set]; omega) (by rw [List.length_set]; omega) (by rw [List.length_set]; omega) fun c hm => ?_]
        · rw [take_set1 hlt, drop_set1, drop_rc hlt, List.map_cons, syR_some (by omega), List.append_assoc]
          rfl
        · rcases List.mem_or_eq_of_mem_set hm with hm | rfl
          · exact hc c hm
          · exact Nat.zero_le _
    · rw [show decide ((i : Int) < (L.length : Int)) = false from decide_eq_false (by omega), q_if0]
      simp only [q_gl]
      rw [List.take_of_length_le (by omega), List.drop_eq_nil_of_le (by omega), List.map_nil, List.append_nil]
theorem rsync_eq {N : Nat} {st af : Int} {de : Bool} {L : List RC} (h1 : -1 ≤ af) (h2 : af ≤ 9223372036854775807) (h3 : 0 ≤ st) (h4 : st ≤ 1000) (hN : L.length < N) (hL : L.length ≤ 1000) (hc : ∀ c ∈ L, c.2.2.length ≤ 1000) :
    G_ref09_Disk_Sync N st af de L = some (if de = true then (12, st, af, de, L) else if af = 0 then (12, st, af, true, L) else (0, st + 1, afS af, de, L.map syR)) := by
  unfold G_ref09_Disk_Sync
  cases de with
  | true => rw [q_if1, q_gl]; rfl
  | false =>
    rw [q_if0, q_gl, rstep_eq h1 h2 h3 h4]
    simp only [q_bd]
    by_cases h : af = 0
    · rw [if_pos h]
      simp only [Bool.not_false, q_if1, q_gl]
      simp [h]
    · rw [if_neg h]
      simp only [Bool.not_true, q_if0, q_gl]
      have := rsync_loop (st := st + 1) (af := afS af) (de := false) N 0 L (by omega) (by omega) hL hc
      rw [show ((0 : Nat) : Int) = 0 from rfl, List.take_zero, List.drop_zero, List.nil_append] at this
      rw [this]
      simp [h]
theorem rnew_eq {N : Nat} {n : Int} (h1 : 1 ≤ n) (h2 : n ≤ 65536) : G_ref09_New N n = some (0, -1, false, List.replicate n.toNat (Arr.zero 64, false, ([] : List Sec))) := by
  unfold G_ref09_New
  rw [show decide (n < 1) = false from decide_eq_false (by omega), q_if0, show decide (n > 65536) = false from decide_eq_false (by omega)]
  simp only [q_bd]
  rw [q_if0, q_gdT (by omega), q_gdT (by omega), q_gdT (by omega), q_gdT (by omega), q_glT (by simp)]
end Go.Proofs.Try
set_option synthInstance.maxSize 100000000
set_option synthInstance.maxHeartbeats 4000000
set_option maxRecDepth 100000
namespace Go.Proofs.Try
open Go.Eng Go.RowKit
def tearAt (a old : Sec) (i : Nat) : Sec := ⟨a.l.take i ++ old.l.drop i, by rw [List.length_append, List.length_take, List.length_drop, a.len, old.len]; omega⟩
theorem kept_loop {a : Sec} {b : Bool} {old : Sec} {e : List Sec} : ∀ (m i : Nat) (out : Sec), 64 - i < m → i ≤ 64 → L_ref09_kept_0 m (i : Nat) a b old out e = some (tearAt out old i, false, [])
  | 0, _, _, h, _ => absurd h (Nat.not_lt_zero _)
  | m + 1, i, out, h, hi => by
    show B_ref09_kept_0 (L_ref09_kept_0 m) (i : Int) a b old out e = _
    unfold B_ref09_kept_0
    by_cases hlt : i < 64
    · have hg : old.l[i]? = some (old.l.getD i 0) := by
        rw [List.getD, List.getElem?_eq_getElem (by rw [old.len]; exact hlt)]; rfl
      rw [show decide ((i : Int) < 64) = true from decide_eq_true (by omega), q_if1, q_gdT (by omega), q_gdT (by omega), Int.toNat_natCast, q_gn hg, q_gdT (by omega), q_gdT (by omega), q_gdT hlt, q_ck (by omega) (by omega)]
      simp only [q_gl]
      rw [show (i : Int) + 1 = ((i + 1 : Nat) : Int) by omega, kept_loop m (i + 1) _ (by omega) (by omega)]
      congr 2
      apply Arr.ext
      show (Arr.set out i _).l.take (i + 1) ++ old.l.drop (i + 1) = out.l.take i ++ old.l.drop i
      rw [Arr.l_set, take_set1 (by rw [out.len]; exact hlt), List.drop_eq_getElem_cons (show i < old.l.length by rw [old.len]; exact hlt), List.append_assoc]
      congr 2
      rw [List.getD, List.getElem?_eq_getElem (by rw [old.len]; exact hlt)]
      rfl
    · rw [show decide ((i : Int) < 64) = false from decide_eq_false (by omega), q_if0]
      congr 2
      apply Arr.ext
      show out.l = out.l.take i ++ old.l.drop i
      rw [List.take_of_length_le (by rw [out.len]; omega), List.drop_eq_nil_of_le (by rw [old.len]; omega), List.append_nil]
theorem kept_eq {N : Nat} {c : RC} {x : Int} (hN : 64 < N) (hl : 0 < c.2.2.length) (hn : c.2.2.length ≤ 1000) (hz : c.2.1 = true → c.1 = Arr.zero 64) : G_ref09_kept N c x = some (keptM c x) := by
  unfold G_ref09_kept
  obtain ⟨s, b, l⟩ := c
  simp only at hl hn hz ⊢
  have h3 := tmod_in (n := l.length) (x := x) (by omega)
  rw [q_ck (by omega) (by omega), q_gdT (by omega), q_ck (by omega) (by omega), q_ck (by omega) (by omega), q_ck (by omega) (by omega), q_gdT (by omega)]
  have hw : (((x.tmod ((l.length : Int) + 3)) + (l.length : Int)) + 3).tmod ((l.length : Int) + 3) = way l.length x := rfl
  have hb := way_lt (n := l.length) (x := x) (by omega)
  rw [hw]
  unfold keptM foundM
  simp only
  revert hb
  generalize way l.length x = r
  intro hb
  by_cases h0 : r = 0
  · subst h0; simp
  · rw [show (r == 0) = false by simpa using h0, q_if0, if_neg h0]
    by_cases h1 : r ≤ (l.length : Int)
    · rw [show decide (r ≤ (l.length : Int)) = true by simpa using h1, q_if1, if_pos h1, q_ck (by omega) (by omega), q_geti (by omega) (at_get (by omega))]
    · rw [show decide (r ≤ (l.length : Int)) = false by simpa using h1, q_if0, if_neg h1, q_ck (by omega) (by omega)]
      by_cases h2 : r = (l.length : Int) + 1
      · rw [show (r == (l.length : Int) + 1) = true by simpa using h2, q_if1, if_pos h2]
      · rw [show (r == (l.length : Int) + 1) = false by simpa using h2, q_if0, if_neg h2]
        have ha : (if? (!b) (some (((l.length : Nat) : Int), s, b, l, (Arr.zero 64), false, s, ([] : (List (Arr 64))))) (some (((l.length : Nat) : Int), s, b, l, (Arr.zero 64), false, (Arr.zero 64), ([] : (List (Arr 64)))))) = some (((l.length : Nat) : Int), s, b, l, (Arr.zero 64), false, s, ([] : (List (Arr 64)))) := by
          cases b with
          | false => rfl
          | true => rw [hz rfl]; rfl
        rw [ha]
        simp only [q_bd]
        have hk : ∀ old : Sec, L_ref09_kept_0 N 32 (Arr.zero 64) false old (at_ l (l.length - 1)) [] = some (tear (at_ l (l.length - 1)) old, false, []) := fun old => by
          have := kept_loop (a := Arr.zero 64) (b := false) (old := old) (e := []) N 32 (at_ l (l.length - 1)) (by omega) (by omega)
          exact this
        by_cases h5 : 1 < l.length
        · rw [show decide ((l.length : Int) > 1) = true by simp; omega, q_if1, q_ck (by omega) (by omega), show (l.length : Int) - 2 = ((l.length - 2 : Nat) : Int) by omega, q_get (at_get (by omega))]
          simp only [q_gl, q_bd]
          rw [q_ck (by omega) (by omega), show (l.length : Int) - 1 = ((l.length - 1 : Nat) : Int) by omega, q_get (at_get (by omega)), hk, before, if_pos h5]
        · rw [show decide ((l.length : Int) > 1) = false by simp; omega, q_if0]
          simp only [q_gl, q_bd]
          rw [q_ck (by omega) (by omega), show (l.length : Int) - 1 = ((l.length - 1 : Nat) : Int) by omega, q_get (at_get (by omega)), hk, before, if_neg h5]
theorem rcrash_loop {N : Nat} (hN : 64 < N) {keep : List Int} {st af st2 af2 : Int} {de de2 : Bool} {L : List RC} (hL : L.length ≤ 1000) (hc : ∀ c ∈ L, c.2.2.length ≤ 1000 ∧ (c.2.1 = true → c.1 = Arr.zero 64)) :
    ∀ (m i n : Nat) (out : List RC), out.length = L.length → n ≤ i → i ≤ L.length → L.length - i < m → L_ref09_Disk_Crash_0 N m keep (n : Nat) (i : Nat) st af de st2 af2 de2 L out = some (st, af, de, st2, af2, de2, L, out.take i ++ crG keep n (L.drop i))
  | 0, _, _, _, _, _, _, h => absurd h (Nat.not_lt_zero _)
  | m + 1, i, n, out, ho, hni, hi, h => by
    show B_ref09_Disk_Crash_0 N (L_ref09_Disk_Crash_0 N m) keep (n : Int) (i : Int) st af de st2 af2 de2 L out = _
    unfold B_ref09_Disk_Crash_0
    by_cases hlt : i < L.length
    · obtain ⟨hc1, hc2⟩ := hc _ (List.mem_of_getElem? (rc_get hlt))
      have hog : ∃ y, out[i]? = some y := ⟨_, List.getElem?_eq_getElem (by omega)⟩
      obtain ⟨y, hy⟩ := hog
      rw [show decide ((i : Int) < (L.length : Int)) = true from decide_eq_true (by omega), q_if1, q_gdT (by omega), q_gdT (by omega), Int.toNat_natCast, q_gn (rc_get hlt), drop_rc hlt]
      unfold crG
      by_cases hop : (rc L i).2.2 = []
      · rw [hop, show ((((([] : List Sec).length : Nat) : Int)) == 0) = true from rfl, q_if1, q_gdT (by omega), q_gdT (by omega), q_gn (rc_get hlt), q_gdT (by omega), q_gdT (by omega), q_gn hy, q_gl, q_glT (List.length_set).symm, if_pos rfl]
        simp only [q_bd]
        rw [q_ck (by omega) (by omega), q_gl, q_gl, show (i : Int) + 1 = ((i + 1 : Nat) : Int) by omega, rcrash_loop hN hL hc m (i + 1) n _ (by rw [List.length_set]; exact ho) (by omega) (by omega) (by omega), take_set1 (by omega), List.append_assoc]
        rfl
      · have hp : 0 < (rc L i).2.2.length := List.length_pos_iff.2 hop
        rw [show ((((rc L i).2.2.length : Nat) : Int) == 0) = false by simpa using hop, q_if0, if_neg hop]
        have hx : (if? (decide (((keep.length : Nat) : Int) > 0)) (gd? ((((keep.length : Nat) : Int) ≠ 0)) (get? keep ((Int.tmod (n : Int) ((keep.length : Nat) : Int))) fun x21 => gl? (L.length) L (gl? (out.length) out (some (keep, (n : Int), (i : Int), x21, st, af, de, st2, af2, de2, L, out))))) (gl? (L.length) L (gl? (out.length) out (some (keep, (n : Int), (i : Int), 0, st, af, de, st2, af2, de2, L, out))))) = some (keep, (n : Int), (i : Int), kp keep n, st, af, de, st2, af2, de2, L, out) := by
          unfold kp
          by_cases hk : keep.length = 0
          · rw [if_pos hk, show decide (((keep.length : Nat) : Int) > 0) = false from decide_eq_false (by omega), q_if0]
            simp only [q_gl]
          · rw [if_neg hk, show decide (((keep.length : Nat) : Int) > 0) = true from decide_eq_true (by omega), q_if1, q_gdT (p := ((keep.length : Nat) : Int) ≠ 0) (by omega)]
            have hm : n % keep.length < keep.length := Nat.mod_lt _ (by omega)
            rw [show Int.tmod (n : Int) (keep.length : Int) = ((n % keep.length : Nat) : Int) from rfl, q_get (List.getElem?_eq_getElem hm)]
            simp only [q_gl]
            rw [List.getD, List.getElem?_eq_getElem hm]
            rfl
        rw [hx]
        simp only [q_bd]
        rw [q_gdT (by omega), q_gdT (by omega), Int.toNat_natCast, q_gn (rc_get hlt), show ((rc L i).1, (rc L i).2.1, (rc L i).2.2) = rc L i from rfl, kept_eq hN hp hc1 hc2]
        simp only [q_bd]
        rw [q_gdT (by omega), q_gdT (by omega), q_gn hy, q_ck (by omega) (by omega), q_gl, q_glT (List.length_set).symm]
        simp only [q_bd]
        rw [q_ck (by omega) (by omega), q_gl, q_gl, show (i : Int) + 1 = ((i + 1 : Nat) : Int) by omega, show (n : Int) + 1 = ((n + 1 : Nat) : Int) by omega, rcrash_loop hN hL hc m (i + 1) (n + 1) _ (by rw [List.length_set]; exact ho) (by omega) (by omega) (by omega), take_set1 (by omega), List.append_assoc]
        rfl
    · rw [show decide ((i : Int) < (L.length : Int)) = false from decide_eq_false (by omega), q_if0]
      simp only [q_gl]
      rw [List.take_of_length_le (by omega), List.drop_eq_nil_of_le (by omega)]
      simp [crG]
theorem rcrash_eq {N : Nat} {keep : List Int} {st af : Int} {de : Bool} {L : List RC} (hN : 64 < N) (hN2 : L.length < N) (hL : L.length ≤ 1000) (hc : ∀ c ∈ L, c.2.2.length ≤ 1000 ∧ (c.2.1 = true → c.1 = Arr.zero 64)) :
    G_ref09_Disk_Crash N keep st af de L = some (st, af, de, 0, -1, false, L, crG keep 0 L) := by
  unfold G_ref09_Disk_Crash
  rw [q_gdT (by omega), q_gdT (by omega), q_gdT (by omega), q_gdT (by omega), q_gl, q_glT (by simp)]
  have := rcrash_loop (keep := keep) (st := st) (af := af) (st2 := 0) (af2 := -1) (de := de) (de2 := false) hN hL hc N 0 0 (List.replicate ((L.length : Nat) : Int).toNat (Arr.zero 64, false, ([] : List Sec))) (by simp) (Nat.le_refl _) (by omega) (by omega)
  rw [List.take_zero, List.drop_zero, List.nil_append] at this
  exact this
end Go.Proofs.Try
set_option synthInstance.maxSize 100000000
set_option synthInstance.maxHeartbeats 4000000
set_option maxRecDepth 100000
namespace Go.Proofs.Try
open Go.Eng Go.RowKit
theorem q_gr {α β : Type} [DecidableEq β] {x : β} {a : Option α} : gd? (x = x) a = a := q_gdT rfl
theorem rwrite_eq {N : Nat} {i st af : Int} {s : Sec} {de : Bool} {L : List RC} (h1 : -1 ≤ af) (h2 : af ≤ 9223372036854775807) (h3 : 0 ≤ st) (h4 : st ≤ 1000) (hc : ∀ c ∈ L, c.2.2.length ≤ 1000) :
    G_ref09_Disk_Write N i s st af de L = some (if errOf de i L.length ≠ 0 then (errOf de i L.length, st, af, de, L) else if af = 0 then (12, st, af, true, L) else (0, st + 1, afS af, de, L.set i.toNat ((rc L i.toNat).1, (rc L i.toNat).2.1, (rc L i.toNat).2.2 ++ [s]))) := by
  unfold G_ref09_Disk_Write
  rw [q_gl, rcheck_e]
  simp only [q_bd]
  generalize he : errOf de i L.length = e
  by_cases h : e = 0
  · subst h
    obtain ⟨rfl, hi0, hi1⟩ := errOf_0 he
    simp only [show ((0 : Int) != 0) = false from rfl, q_if0, q_gl, rstep_eq h1 h2 h3 h4, q_bd, ne_eq, not_true_eq_false, if_false]
    by_cases h0 : af = 0
    · subst h0
      simp
    · simp only [if_neg h0, Bool.not_true, q_if0]
      have hr := rc_get (L := L) (i := i.toNat) (by omega)
      have hl := hc _ (List.mem_of_getElem? hr)
      simp only [q_gd, q_gd1]
      rw [q_gdT hi0, q_gdT hi1, q_gn hr, q_gdT (by omega), q_gdT (by simp only [List.length_singleton]; omega), q_gdT hi0, q_gdT hi1, q_gn hr, q_glT (List.length_set).symm]
  · simp only [(ne0 h).2, q_if1, q_gl]
    rw [if_pos h]
end Go.Proofs.Try
set_option synthInstance.maxSize 100000000
set_option synthInstance.maxHeartbeats 4000000
set_option maxRecDepth 100000
namespace Go.Proofs.Try
open Go.Eng Go.RowKit
theorem rsame_loop {l : List Int} (hl : l.length ≤ 4611686018427387904) : ∀ (m i : Nat), i ≤ l.length → l.length - i < m → L_ref09_Same_0 m l l (i : Nat) = some true
  | 0, _, _, h => absurd h (Nat.not_lt_zero _)
  | m + 1, i, hi, h => by
    show B_ref09_Same_0 (L_ref09_Same_0 m) l l (i : Int) = _
    unfold B_ref09_Same_0
    by_cases hlt : i < l.length
    · rw [show decide ((i : Int) < (l.length : Int)) = true from decide_eq_true (by omega), q_if1, q_get (List.getElem?_eq_getElem hlt), q_get (List.getElem?_eq_getElem hlt), show (l[i] != l[i]) = false by simp, q_if0, q_ck (by omega) (by omega), show (i : Int) + 1 = ((i + 1 : Nat) : Int) by omega, rsame_loop hl m (i + 1) (by omega) (by omega)]
    · rw [show decide ((i : Int) < (l.length : Int)) = false from decide_eq_false (by omega), q_if0]
theorem rsame_eq {N : Nat} {l : List Int} (hl : l.length ≤ 4611686018427387904) (hN : l.length < N) : G_ref09_Same N l l = some true := by
  unfold G_ref09_Same
  rw [show ((((l.length : Nat) : Int) != ((l.length : Nat) : Int))) = false by simp, q_if0]
  exact rsame_loop hl N 0 (by omega) (by omega)
abbrev St10 := Int × Int × Bool × Int × Int × Bool × List Cel × MT × List RC
def Aft (sec k : Nat) (v : St10) : Prop := v.1 = v.2.2.2.1 ∧ v.2.1 = v.2.2.2.2.1 ∧ v.2.2.1 = v.2.2.2.2.2.1 ∧ SR sec k v.1 v.2.1 v.2.2.2.2.2.2.1 v.2.2.2.2.2.2.2.1 v.2.2.2.2.2.2.2.2
theorem openL_len {es : MT} {b : Nat} (h : ∀ k, (opn es k).length ≤ b) : ∀ ks : List Int, (openL es ks).length ≤ ks.length * b
  | [] => by simp [openL]
  | k :: ks => by
    have ih := openL_len h ks
    have := h k
    unfold openL at ih ⊢
    rw [List.flatMap_cons, List.length_append, List.length_replicate, List.length_cons, Nat.succ_mul]
    omega
section
variable {N sec k : Nat} {st af : Int} {de : Bool} {cs : List Cel} {es : MT} {L : List RC}
theorem SR.opens (h : SR sec k st af cs es L) : openR L 0 L.length = openL es (srt (es.map (·.1))) := h.r.openL.symm
theorem tail_all (h : SR sec k st af cs es L) (hs : sec ≤ 200) (hk : k ≤ 100) (hN : 20500 < N) :
    G_disk_Disk_Size N st af de cs es = some ((L.length : Int), st, af, de, cs, es) ∧ G_disk_Disk_Steps N st af de cs es = some (st, st, af, de, cs, es) ∧ G_disk_Disk_Down N st af de cs es = some (de, st, af, de, cs, es) ∧
    G_disk_Disk_Open N st af de cs es = some (st, af, de, cs, es, openR L 0 L.length) ∧ G_ref09_Disk_Open N st af de L = some (st, af, de, L, openR L 0 L.length) ∧ G_ref09_Same N (openR L 0 L.length) (openR L 0 L.length) = some true := by
  have hl := h.len
  have he := h.r.esl
  refine ⟨by rw [size_eq, h.r.len], steps_eq, down_eq, ?_, ?_, ?_⟩
  · rw [h.opens]
    exact open_eq (fun k => ⟨by have := h.opn k; omega, by have := h.opn k; omega⟩) (by omega) (by omega)
  · exact ropen_eq (by omega) (by omega) fun c hc => ⟨by have := h.ol c hc; omega, by have := h.ol c hc; omega⟩
  · have h1 := openL_len (es := es) (b := k) h.opn (srt (es.map (·.1)))
    rw [srt_length, List.length_map] at h1
    have h2 : es.length * k ≤ 200 * 100 := Nat.mul_le_mul (by omega) hk
    rw [h.opens]
    exact rsame_eq (by omega) (by omega)
end
end Go.Proofs.Try
set_option synthInstance.maxSize 100000000
set_option synthInstance.maxHeartbeats 4000000
set_option maxRecDepth 100000
namespace Go.Proofs.Try
open Go.Eng Go.RowKit
section
variable {N sec k : Nat} {st af : Int} {de : Bool} {cs : List Cel} {es : MT} {L : List RC} {x : Int × Int × Int}
def SameOk (N sec k : Nat) (x : Int × Int × Int) (st af : Int) (de : Bool) (cs : List Cel) (es : MT) (L : List RC) : Prop := ∃ v : St10, Aft sec k v ∧
  (G_law09_same N x st af de st af de cs es L = some (.inl (true, v)) ∨ ∃ a1 a2 a3 a4 a5 a6 c0 e0 l0, G_law09_same N x st af de st af de cs es L = some (.inr (true, a1, a2, a3, a4, a5, a6, v.1, v.2.1, v.2.2.1, v.2.2.2.1, v.2.2.2.2.1, v.2.2.2.2.2.1, c0, e0, l0, v.2.2.2.2.2.2.1, v.2.2.2.2.2.2.2.1, v.2.2.2.2.2.2.2.2)))
theorem same_0 (h : SR sec k st af cs es L) (hk : k ≤ 99) (hN : 20500 < N) (h0 : x.1 = 0) : SameOk N sec (k + 1) x st af de cs es L := by
  obtain ⟨s, hf⟩ := filled_ex (N := N) (by omega) x.2.2
  have e1 := write_eq (N := N) (i := x.2.1) (s := s) (de := de) (cs := cs) (es := es) h.a0 h.a1 h.s0 (by have := h.s1; omega) (by have := h.opn x.2.1; omega)
  have e2 := rwrite_eq (N := N) (i := x.2.1) (s := s) (de := de) (L := L) h.a0 h.a1 h.s0 (by have := h.s1; omega) (fun c hc => by have := h.ol c hc; omega)
  rw [h.r.len] at e1
  by_cases he : errOf de x.2.1 L.length = 0
  · obtain ⟨rfl, hi0, hi1⟩ := errOf_0 he
    rw [he, if_neg (by simp)] at e1 e2
    by_cases ha : af = 0
    · rw [if_pos ha] at e1 e2
      refine ⟨(st, af, true, st, af, true, cs, es, L), ⟨rfl, rfl, rfl, h.mono⟩, .inl ?_⟩
      unfold G_law09_same
      rw [show (x.1 == 0) = true by simpa using h0, q_if1]
      simp only [hf, e1, e2, q_bd, q_gd, q_gd1, q_gl, beq_self_eq_true]
    · rw [if_neg ha] at e1 e2
      refine ⟨(st + 1, afS af, false, st + 1, afS af, false, cs, mSet es x.2.1 (opn es x.2.1 ++ [s]), L.set x.2.1.toNat ((rc L x.2.1.toNat).1, (rc L x.2.1.toNat).2.1, (rc L x.2.1.toNat).2.2 ++ [s])), ⟨rfl, rfl, rfl, h.write hi0 hi1 s⟩, .inl ?_⟩
      unfold G_law09_same
      rw [show (x.1 == 0) = true by simpa using h0, q_if1]
      simp only [hf, e1, e2, q_bd, q_gd, q_gd1, q_gl, beq_self_eq_true]
      rfl
  · rw [if_pos he] at e1 e2
    refine ⟨(st, af, de, st, af, de, cs, es, L), ⟨rfl, rfl, rfl, h.mono⟩, .inl ?_⟩
    unfold G_law09_same
    rw [show (x.1 == 0) = true by simpa using h0, q_if1]
    simp only [hf, e1, e2, q_bd, q_gd, q_gd1, q_gl, beq_self_eq_true]
theorem same_1 (h : SR sec k st af cs es L) (h1 : 1 ≤ sec) (hs : sec ≤ 200) (hk : k ≤ 99) (hN : 20500 < N) (h0 : x.1 = 1) : SameOk N sec (k + 1) x st af de cs es L := by
  have hl := h.len
  have he := h.r.esl
  have e1 := sync_eq (N := N) (de := de) (cs := cs) (es := es) h.a0 h.a1 h.s0 (by have := h.s1; omega) (by omega) (by rw [h.r.len]; omega) h.r.n h.r.rng (h.el (by omega))
  have e2 := rsync_eq (N := N) (de := de) (L := L) h.a0 h.a1 h.s0 (by have := h.s1; omega) (by omega) (by omega) (fun c hc => by have := h.ol c hc; omega)
  have n0 : (x.1 == 0) = false := by rw [h0]; rfl
  have n1 : (x.1 == 1) = true := by rw [h0]; rfl
  cases de with
  | true =>
    rw [if_pos rfl] at e1 e2
    refine ⟨(st, af, true, st, af, true, cs, es, L), ⟨rfl, rfl, rfl, h.mono⟩, .inl ?_⟩
    unfold G_law09_same
    simp only [n0, n1, q_if0, q_if1, e1, e2, q_bd, q_gd, q_gd1, q_gl, beq_self_eq_true]
  | false =>
    rw [if_neg (by simp)] at e1 e2
    by_cases ha : af = 0
    · rw [if_pos ha] at e1 e2
      refine ⟨(st, af, true, st, af, true, cs, es, L), ⟨rfl, rfl, rfl, h.mono⟩, .inl ?_⟩
      unfold G_law09_same
      simp only [n0, n1, q_if0, q_if1, e1, e2, q_bd, q_gd, q_gd1, q_gl, beq_self_eq_true]
    · rw [if_neg ha] at e1 e2
      refine ⟨(st + 1, afS af, false, st + 1, afS af, false, syncC es cs, [], L.map syR), ⟨rfl, rfl, rfl, h.sync⟩, .inl ?_⟩
      unfold G_law09_same
      simp only [n0, n1, q_if0, q_if1, e1, e2, q_bd, q_gd, q_gd1, q_gl, beq_self_eq_true]
      rfl
theorem same_2 (h : SR sec k st af cs es L) (hk : k ≤ 99) (h0 : x.1 = 2) : SameOk N sec (k + 1) x st af de cs es L := by
  have e1 := read_eq (N := N) (i := x.2.1) (st := st) (af := af) (de := de) (cs := cs) (es := es) (by have := h.opn x.2.1; omega)
  have e2 := rread_eq (N := N) (i := x.2.1) (st := st) (af := af) (de := de) (L := L) (fun a b => by have := h.rc (i := x.2.1.toNat) (by omega); omega)
  rw [h.r.len] at e1
  have n0 : (x.1 == 0) = false := by rw [h0]; rfl
  have n1 : (x.1 == 1) = false := by rw [h0]; rfl
  have n2 : (x.1 == 2) = true := by rw [h0]; rfl
  refine ⟨(st, af, de, st, af, de, cs, es, L), ⟨rfl, rfl, rfl, h.mono⟩, .inl ?_⟩
  unfold G_law09_same
  by_cases he : errOf de x.2.1 L.length = 0
  · obtain ⟨rfl, hi0, hi1⟩ := errOf_0 he
    rw [he, if_neg (by simp), h.r.read hi0 hi1] at e1
    rw [he, if_neg (by simp)] at e2
    simp only [n0, n1, n2, q_if0, q_if1, e1, e2, q_bd, q_gd, q_gd1, q_gl, beq_self_eq_true]
  · rw [if_pos he] at e1 e2
    simp only [n0, n1, n2, q_if0, q_if1, e1, e2, q_bd, q_gd, q_gd1, q_gl, beq_self_eq_true]
end
end Go.Proofs.Try
set_option synthInstance.maxSize 100000000
set_option synthInstance.maxHeartbeats 4000000
set_option maxRecDepth 100000
namespace Go.Proofs.Try
open Go.Eng Go.RowKit
section
variable {N sec k : Nat} {st af : Int} {de : Bool} {cs : List Cel} {es : MT} {L : List RC} {x : Int × Int × Int}
theorem RD.flip (h : RD cs es L) {i bit : Int} (h0 : 0 ≤ i) (h1 : i < (L.length : Int)) : flipC cs i.toNat bit = if (rc L i.toNat).2.1 = true then cs else cs.set i.toNat (flipS (rc L i.toNat).1 bit, (rc L i.toNat).2.1) := by
  have hc : Go.Proofs.Try.cel cs i.toNat = ((rc L i.toNat).1, (rc L i.toNat).2.1) := by
    have e1 := cel_get (cs := cs) (i := i.toNat) (by rw [h.len]; omega)
    rw [h.cel (by omega)] at e1
    exact (Option.some.inj e1).symm
  unfold flipC
  rw [hc]
  cases hb : (rc L i.toNat).2.1 with
  | false => simp
  | true => rw [if_pos rfl, if_pos ⟨by rw [h.rc_mem (by omega) hb], rfl⟩]
theorem same_5 (h : SR sec k st af cs es L) (h0 : x.1 = 5) : SameOk N sec (k + 1) x st af de cs es L := by
  have e1 := flip_eq (N := N) (i := x.2.1) (bit := x.2.2) (st := st) (af := af) (de := de) (cs := cs) (es := es)
  have e2 := rflip_eq (N := N) (i := x.2.1) (bit := x.2.2) (st := st) (af := af) (de := de) (L := L)
  rw [h.r.len] at e1
  have n0 : (x.1 == 0) = false := by rw [h0]; rfl
  have n1 : (x.1 == 1) = false := by rw [h0]; rfl
  have n2 : (x.1 == 2) = false := by rw [h0]; rfl
  have n3 : (x.1 == 3) = false := by rw [h0]; rfl
  have n4 : (x.1 == 4) = false := by rw [h0]; rfl
  have n5 : (x.1 == 5) = true := by rw [h0]; rfl
  by_cases he : errOf de x.2.1 L.length = 0
  · obtain ⟨rfl, hi0, hi1⟩ := errOf_0 he
    rw [he, if_neg (by simp)] at e1 e2
    by_cases hb : x.2.2 < 0 ∨ 512 ≤ x.2.2
    · rw [if_pos hb] at e1 e2
      refine ⟨(st, af, false, st, af, false, cs, es, L), ⟨rfl, rfl, rfl, h.mono⟩, .inl ?_⟩
      unfold G_law09_same
      simp only [n0, n1, n2, n3, n4, n5, q_if0, q_if1, e1, e2, q_bd, q_gd, q_gd1, q_gl, beq_self_eq_true]
    · rw [if_neg hb, h.r.flip hi0 hi1] at e1
      rw [if_neg hb] at e2
      by_cases hz : (rc L x.2.1.toNat).2.1 = true
      · rw [if_pos hz] at e1 e2
        refine ⟨(st, af, false, st, af, false, cs, es, L), ⟨rfl, rfl, rfl, h.mono⟩, .inl ?_⟩
        unfold G_law09_same
        simp only [n0, n1, n2, n3, n4, n5, q_if0, q_if1, e1, e2, q_bd, q_gd, q_gd1, q_gl, beq_self_eq_true]
      · rw [if_neg hz] at e1 e2
        refine ⟨(st, af, false, st, af, false, cs.set x.2.1.toNat (flipS (rc L x.2.1.toNat).1 x.2.2, (rc L x.2.1.toNat).2.1), es, L.set x.2.1.toNat (flipS (rc L x.2.1.toNat).1 x.2.2, (rc L x.2.1.toNat).2.1, (rc L x.2.1.toNat).2.2)), ⟨rfl, rfl, rfl, (h.put hi0 hi1 _ _ fun e => absurd e hz).mono⟩, .inl ?_⟩
        unfold G_law09_same
        simp only [n0, n1, n2, n3, n4, n5, q_if0, q_if1, e1, e2, q_bd, q_gd, q_gd1, q_gl, beq_self_eq_true]
  · rw [if_pos he] at e1 e2
    refine ⟨(st, af, de, st, af, de, cs, es, L), ⟨rfl, rfl, rfl, h.mono⟩, .inl ?_⟩
    unfold G_law09_same
    simp only [n0, n1, n2, n3, n4, n5, q_if0, q_if1, e1, e2, q_bd, q_gd, q_gd1, q_gl, beq_self_eq_true]
theorem same_6 (h : SR sec k st af cs es L) (h0 : x.1 = 6) : SameOk N sec (k + 1) x st af de cs es L := by
  have e1 := rot_eq (N := N) (i := x.2.1) (st := st) (af := af) (de := de) (cs := cs) (es := es)
  have e2 := rrot_eq (N := N) (i := x.2.1) (st := st) (af := af) (de := de) (L := L)
  rw [h.r.len] at e1
  have n0 : (x.1 == 0) = false := by rw [h0]; rfl
  have n1 : (x.1 == 1) = false := by rw [h0]; rfl
  have n2 : (x.1 == 2) = false := by rw [h0]; rfl
  have n3 : (x.1 == 3) = false := by rw [h0]; rfl
  have n4 : (x.1 == 4) = false := by rw [h0]; rfl
  have n5 : (x.1 == 5) = false := by rw [h0]; rfl
  have n6 : (x.1 == 6) = true := by rw [h0]; rfl
  by_cases he : errOf de x.2.1 L.length = 0
  · obtain ⟨rfl, hi0, hi1⟩ := errOf_0 he
    rw [he, if_pos rfl] at e1 e2
    refine ⟨(st, af, false, st, af, false, cs.set x.2.1.toNat (Arr.zero 64, true), es, L.set x.2.1.toNat (Arr.zero 64, true, (rc L x.2.1.toNat).2.2)), ⟨rfl, rfl, rfl, (h.put hi0 hi1 _ _ fun _ => rfl).mono⟩, .inl ?_⟩
    unfold G_law09_same
    simp only [n0, n1, n2, n3, n4, n5, n6, q_if0, q_if1, e1, e2, q_bd, q_gd, q_gd1, q_gl, beq_self_eq_true]
  · rw [if_neg he] at e1 e2
    refine ⟨(st, af, de, st, af, de, cs, es, L), ⟨rfl, rfl, rfl, h.mono⟩, .inl ?_⟩
    unfold G_law09_same
    simp only [n0, n1, n2, n3, n4, n5, n6, q_if0, q_if1, e1, e2, q_bd, q_gd, q_gd1, q_gl, beq_self_eq_true]
theorem same_3 (h : SR sec k st af cs es L) (hs : sec ≤ 200) (hk : k ≤ 99) (hN : 20500 < N) (hx : x.2.2 ≤ 9223372036854775807) (h0 : x.1 = 3) : SameOk N sec (k + 1) x st af de cs es L := by
  have e1 := arm_eq (N := N) (n := x.2.2) (st := st) (af := af) (de := de) (cs := cs) (es := es)
  have e2 := rarm_eq (N := N) (n := x.2.2) (st := st) (af := af) (de := de) (L := L)
  have n0 : (x.1 == 0) = false := by rw [h0]; rfl
  have n1 : (x.1 == 1) = false := by rw [h0]; rfl
  have n2 : (x.1 == 2) = false := by rw [h0]; rfl
  have n3 : (x.1 == 3) = true := by rw [h0]; rfl
  obtain ⟨t1, t2, t3, t4, t5, t6⟩ := tail_all (N := N) (de := de) (h.arm hx) hs (by omega) hN
  refine ⟨(st, max x.2.2 (-1), de, st, max x.2.2 (-1), de, cs, es, L), ⟨rfl, rfl, rfl, (h.arm hx).mono⟩, .inl ?_⟩
  unfold G_law09_same
  simp only [n0, n1, n2, n3, q_if0, q_if1, e1, e2, t1, t2, t3, t4, t5, t6, q_bd, q_gd, q_gd1, q_gl, beq_self_eq_true]
theorem same_9 (h : SR sec k st af cs es L) (hs : sec ≤ 200) (hk : k ≤ 99) (hN : 20500 < N) (n0 : (x.1 == 0) = false) (n1 : (x.1 == 1) = false) (n2 : (x.1 == 2) = false) (n3 : (x.1 == 3) = false) (n4 : (x.1 == 4) = false) (n5 : (x.1 == 5) = false) (n6 : (x.1 == 6) = false) :
    SameOk N sec (k + 1) x st af de cs es L := by
  obtain ⟨t1, t2, t3, t4, t5, t6⟩ := tail_all (N := N) (de := de) h hs (by omega) hN
  refine ⟨(st, af, de, st, af, de, cs, es, L), ⟨rfl, rfl, rfl, h.mono⟩, .inl ?_⟩
  unfold G_law09_same
  simp only [n0, n1, n2, n3, n4, n5, n6, q_if0, q_if1, t1, t2, t3, t4, t5, t6, q_bd, q_gd, q_gd1, q_gl, beq_self_eq_true]
theorem same_4 (h : SR sec k st af cs es L) (h1 : 1 ≤ sec) (hs : sec ≤ 200) (hk : k ≤ 99) (hN : 20500 < N) (h0 : x.1 = 4) : SameOk N sec (k + 1) x st af de cs es L := by
  have hl := h.len
  have hlc := h.r.len
  have he := h.r.esl
  have e1 := crash_eq (N := N) (keep := [x.2.1, x.2.2]) (st := st) (af := af) (de := de) (cs := cs) (es := es) (by omega) (by omega) (by omega) (by omega) h.r.rng (h.el (by omega))
  have e2 := rcrash_eq (N := N) (keep := [x.2.1, x.2.2]) (st := st) (af := af) (de := de) (L := L) (by omega) (by omega) (by omega) fun c hc => ⟨by have := h.ol c hc; omega, h.r.z c hc⟩
  have n0 : (x.1 == 0) = false := by rw [h0]; rfl
  have n1 : (x.1 == 1) = false := by rw [h0]; rfl
  have n2 : (x.1 == 2) = false := by rw [h0]; rfl
  have n3 : (x.1 == 3) = false := by rw [h0]; rfl
  have n4 : (x.1 == 4) = true := by rw [h0]; rfl
  have hc := h.crash [x.2.1, x.2.2]
  obtain ⟨t1, t2, t3, t4, t5, t6⟩ := tail_all (N := N) (de := false) hc hs (by omega) hN
  refine ⟨(0, -1, false, 0, -1, false, crashL es cs [x.2.1, x.2.2] 0 (srt (es.map (·.1))) cs, [], crG [x.2.1, x.2.2] 0 L), ⟨rfl, rfl, rfl, hc⟩, .inr ⟨st, af, de, st, af, de, cs, es, L, ?_⟩⟩
  unfold G_law09_same
  simp only [n0, n1, n2, n3, n4, q_if0, q_if1, e1, e2, t1, t2, t3, t4, t5, t6, q_bd, q_gd, q_gd1, q_gl, beq_self_eq_true]
theorem same_ok (h : SR sec k st af cs es L) (h1 : 1 ≤ sec) (hs : sec ≤ 200) (hk : k ≤ 99) (hN : 20500 < N) (hx : x.2.2 ≤ 9223372036854775807) : SameOk N sec (k + 1) x st af de cs es L := by
  by_cases h0 : x.1 = 0
  · exact same_0 h hk hN h0
  by_cases h01 : x.1 = 1
  · exact same_1 h h1 hs hk hN h01
  by_cases h02 : x.1 = 2
  · exact same_2 h hk h02
  by_cases h03 : x.1 = 3
  · exact same_3 h hs hk hN hx h03
  by_cases h04 : x.1 = 4
  · exact same_4 h h1 hs hk hN h04
  by_cases h05 : x.1 = 5
  · exact same_5 h h05
  by_cases h06 : x.1 = 6
  · exact same_6 h h06
  exact same_9 h hs hk hN (by simpa using h0) (by simpa using h01) (by simpa using h02) (by simpa using h03) (by simpa using h04) (by simpa using h05) (by simpa using h06)
end
end Go.Proofs.Try
set_option synthInstance.maxSize 100000000
set_option synthInstance.maxHeartbeats 4000000
set_option maxRecDepth 100000
namespace Go.Proofs.Try
open Go.Eng Go.RowKit
section
variable {N : Nat} {sec k : Nat} {st af : Int} {de : Bool} {cs : List Cel} {es : MT} {L : List RC}
theorem reads_loop (h : SR sec k st af cs es L) (hk : k ≤ 1000) (hs : sec ≤ 200) (hsan : G_law09_sanity N = some true) : ∀ (m i : Nat), i ≤ sec → sec - i < m → L_law09_DiskIsAsSpecified_1 N m (sec : Nat) (i : Nat) st af de st af de cs es L = some true
  | 0, _, _, h => absurd h (Nat.not_lt_zero _)
  | m + 1, i, hi, hm => by
    show B_law09_DiskIsAsSpecified_1 N (L_law09_DiskIsAsSpecified_1 N m) (sec : Int) (i : Int) st af de st af de cs es L = _
    unfold B_law09_DiskIsAsSpecified_1
    have hl := h.len
    by_cases hlt : i < sec
    · have e1 := read_eq (N := N) (i := (i : Int)) (st := st) (af := af) (de := de) (cs := cs) (es := es) (by have := h.opn i; omega)
      have e2 := rread_eq (N := N) (i := (i : Int)) (st := st) (af := af) (de := de) (L := L) (fun a b => by have := h.rc (i := (i : Int).toNat) (by omega); omega)
      rw [h.r.len] at e1
      rw [show decide ((i : Int) < (sec : Int)) = true from decide_eq_true (by omega), q_if1]
      have hrec := reads_loop h hk hs hsan m (i + 1) (by omega) (by omega)
      rw [show ((i + 1 : Nat) : Int) = (i : Int) + 1 by omega] at hrec
      by_cases he : errOf de i L.length = 0
      · obtain ⟨rfl, hi0, hi1⟩ := errOf_0 he
        rw [he, if_neg (by simp), h.r.read hi0 hi1] at e1
        rw [he, if_neg (by simp)] at e2
        simp only [e1, e2, q_bd, q_gl, beq_self_eq_true, Bool.not_true, q_if0, bne_self_eq_false]
        rw [q_ck (by omega) (by omega)]
        exact hrec
      · rw [if_pos he] at e1 e2
        simp only [e1, e2, q_bd, q_gl, beq_self_eq_true, Bool.not_true, q_if0, bne_self_eq_false]
        rw [q_ck (by omega) (by omega)]
        exact hrec
    · rw [show decide ((i : Int) < (sec : Int)) = false from decide_eq_false (by omega), q_if0, hsan]
      rfl
theorem acts_loop (hN : 20500 < N) (hsan : G_law09_sanity N = some true) {l : List (Int × Int × Int)} (hl : l.length ≤ 61) (hx : ∀ x ∈ l, x.2.2 ≤ 9223372036854775807) (h1 : 1 ≤ sec) (hs : sec ≤ 200) :
    ∀ (m i : Nat) {st af : Int} {de : Bool} {cs : List Cel} {es : MT} {L : List RC}, SR sec i st af cs es L → i ≤ l.length → l.length - i < m → L_law09_DiskIsAsSpecified_0 N m (sec : Nat) (l.length : Nat) (i : Nat) st af de st af de l cs es L = some true
  | 0, _, _, _, _, _, _, _, _, _, h => absurd h (Nat.not_lt_zero _)
  | m + 1, i, st, af, de, cs, es, L, h, hi, hm => by
    show B_law09_DiskIsAsSpecified_0 N (L_law09_DiskIsAsSpecified_0 N m) (sec : Int) (l.length : Int) (i : Int) st af de st af de l cs es L = _
    unfold B_law09_DiskIsAsSpecified_0
    by_cases hlt : i < l.length
    · rw [show decide ((i : Int) < (l.length : Int)) = true from decide_eq_true (by omega), q_if1, q_gdT (by omega), q_gdT (by omega), Int.toNat_natCast, q_gn (List.getElem?_eq_getElem hlt)]
      obtain ⟨⟨s1, a1, d1, s2, a2, d2, c1, e1, L1⟩, ⟨hv1, hv2, hv3, hv4⟩, hg⟩ := same_ok (N := N) (de := de) (x := l[i]) h h1 hs (by omega) hN (hx _ (List.getElem_mem hlt))
      simp only at hv1 hv2 hv3 hv4
      subst hv1 hv2 hv3
      have hrec := acts_loop hN hsan hl hx h1 hs m (i + 1) (de := d1) hv4 (by omega) (by omega)
      rw [show ((i + 1 : Nat) : Int) = (i : Int) + 1 by omega] at hrec
      rcases hg with hg | ⟨b1, b2, b3, b4, b5, b6, c0, e0, l0, hg⟩
      · simp only [show (l[i].1, l[i].2.1, l[i].2.2) = l[i] from rfl, hg, q_bd, q_gl, q_sml, Bool.not_true, q_if0]
        rw [q_ck (by omega) (by omega)]
        exact hrec
      · simp only [show (l[i].1, l[i].2.1, l[i].2.2) = l[i] from rfl, hg, q_bd, q_gl, q_smr, Bool.not_true, q_if0]
        rw [q_ck (by omega) (by omega)]
        exact hrec
    · rw [show decide ((i : Int) < (l.length : Int)) = false from decide_eq_false (by omega), q_if0]
      simp only [q_gl]
      exact reads_loop h (by omega) hs hsan N 0 (Nat.zero_le _) (by omega)
end
theorem same_true {n : Int} {l : List (Int × Int × Int)} (hx : ∀ x ∈ l, x.2.2 ≤ 9223372036854775807) (hlen : l.length ≤ 9223372036854775807) {N : Nat} (hN : 20500 < N) (hsan : G_law09_sanity N = some true) : G_law09_DiskIsAsSpecified N n l = some true := by
  unfold G_law09_DiskIsAsSpecified
  by_cases h0 : n < 1
  · rw [new_no (.inl h0)]
    simp only [q_bd, q_sml, show decide (n < 1) = true from decide_eq_true h0, q_if1, hsan, Bool.not_false]
  by_cases h1 : 65536 < n
  · rw [new_no (.inr h1)]
    simp only [q_bd, q_sml, show decide (n < 1) = false from decide_eq_false h0, show decide (n > 65536) = true from decide_eq_true h1, q_if0, q_if1, hsan, Bool.not_false]
  rw [new_eq (by omega) (by omega)]
  simp only [q_bd, q_smr, show decide (n < 1) = false from decide_eq_false h0, show decide (n > 65536) = false from decide_eq_false h1, q_if0]
  by_cases h2 : n > 200
  · rw [show decide (n > 200) = true from decide_eq_true h2, q_if1, hsan]; rfl
  rw [show decide (n > 200) = false from decide_eq_false h2, q_if0]
  by_cases h3 : l.length > 60
  · rw [show decide (((l.length : Nat) : Int) > 60) = true from decide_eq_true (by omega), q_if1, hsan]; rfl
  rw [show decide (((l.length : Nat) : Int) > 60) = false from decide_eq_false (by omega), q_if0, rnew_eq (by omega) (by omega)]
  have ht : List.take (((l.length : Nat) : Int).toNat - 0) (List.drop 0 l) = l := by simp
  have hle : ((l ++ [((9 : Int), ((0 : Int), (0 : Int)))]).length) = l.length + 1 := by simp
  simp only [q_bd]
  rw [q_gdT (by omega), q_gdT (by omega), q_gdT (by omega), q_gdT (by omega), q_gd1, ht, q_gdT (by simp only [List.length_singleton]; omega)]
  simp only [q_gl]
  obtain ⟨sec, rfl⟩ : ∃ s : Nat, n = s := ⟨n.toNat, by omega⟩
  refine acts_loop (sec := sec) hN hsan (l := l ++ [((9 : Int), ((0 : Int), (0 : Int)))]) (by omega) (fun x hm => ?_) (by omega) (by omega) N 0 ?_ (by omega) (by omega)
  · rcases List.mem_append.1 hm with hm | hm
    · exact hx x hm
    · rw [List.mem_singleton.1 hm]; decide
  · rw [Int.toNat_natCast]
    refine ⟨⟨by rw [List.map_replicate], List.nodup_nil, fun k => ?_, fun k l h => (by cases h), fun c hc => ?_⟩, by omega, by omega, by omega, by omega, by rw [List.length_replicate], fun c hc => ?_⟩
    · unfold lo
      split
      · rw [List.getElem?_replicate]
        split <;> rfl
      · rfl
    · rw [List.eq_of_mem_replicate hc]
      intro h; cases h
    · rw [List.eq_of_mem_replicate hc]
      exact Nat.zero_le _
end Go.Proofs.Try
namespace Go.Proofs.Try
open Go.Eng Go.RowKit
theorem sanity_t : G_law09_sanity 21000 = some true := by kernel_rfl
theorem as_true {n : Int} {l : List (Int × Int × Int)} (hx : ∀ x ∈ l, x.2.2 ≤ 9223372036854775807) (hlen : l.length ≤ 9223372036854775807) : G_law09_DiskIsAsSpecified 21000 n l = some true := same_true hx hlen (by omega) sanity_t
end Go.Proofs.Try
