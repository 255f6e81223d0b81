/- DiskStops: the law returns true. -/
import Derived.Test.YtogggngebjcpmaaDP
import Derived.Test.YtogggngebjcpmaaD5
set_option linter.all false
set_option linter.unusedSimpArgs false
set_option linter.unusedVariables false
set_option synthInstance.maxSize 100000000
set_option synthInstance.maxHeartbeats 4000000
set_option maxRecDepth 100000
namespace Go.Proofs.Try
open Go.Eng Go.RowKit

theorem sanity_true : G_law09_sanity 100 = some true := by kernel_rfl
theorem filled_loop {b : Int} {x : Sec} : ∀ (m i : Nat) (y : Sec), i ≤ 64 → 64 - i < m → ∃ v, L_ref09_Filled_0 m b (i : Nat) x y = some v
  | 0, _, _, _, h => absurd h (Nat.not_lt_zero _)
  | m + 1, i, y, hi, h => by
    show ∃ v, B_ref09_Filled_0 (L_ref09_Filled_0 m) b _ x y = some v
    unfold B_ref09_Filled_0
    by_cases hlt : i < 64
    · obtain ⟨v, hv⟩ := filled_loop (b := b) (x := x) m (i + 1) (Arr.set y i (IntKind.wrap .u8 b)) (by omega) (by omega)
      refine ⟨v, ?_⟩
      rw [show decide ((i : Int) < 64) = true from decide_eq_true (by omega), q_if1, q_gdT (by omega), q_gdT (by omega), q_gdT (by omega), q_ck (by omega) (by omega), Int.toNat_natCast]
      exact hv
    · exact ⟨y, by rw [show decide ((i : Int) < 64) = false from decide_eq_false (by omega), q_if0]⟩
theorem filled_ex {N : Nat} (h : 64 < N) (b : Int) : ∃ v, G_ref09_Filled N b = some v := filled_loop N 0 _ (by omega) (by omega)

abbrev Op3 := Int × (Int × Int)
abbrev SM := List (Int × Sec)
structure Inv (n i : Nat) (st af : Int) (de : Bool) (sure now : SM) (cs : List Cel) (es : MT) : Prop where
  st : st = ((min i n : Nat) : Int)
  af : af = ((n - i : Nat) : Int)
  de : de = decide (n < i)
  len : cs.length = 16
  en : (es.map (·.1)).Nodup
  er : ∀ k ∈ es.map (·.1), 0 ≤ k ∧ k < 16
  el : ∀ k l, mGet es k = some l → l ≠ [] ∧ l.length ≤ i
  ne : es.length ≤ i
  nn : (now.map (·.1)).Nodup
  nl : now.length ≤ i
  nw : ∀ k, mGet now k = (opn es k).getLast?
  ce : ∀ k : Nat, k < 16 → cs[k]? = some ((mGet sure (k : Int)).getD (Arr.zero 64), false)

theorem opn_len {es : MT} {i : Nat} (h : ∀ k l, mGet es k = some l → l ≠ [] ∧ l.length ≤ i) (k : Int) : (opn es k).length ≤ i := by
  unfold opn
  cases hg : mGet es k with
  | none => simp
  | some l => exact (h k l hg).2
theorem opn_nil {es : MT} {i : Nat} (h : ∀ k l, mGet es k = some l → l ≠ [] ∧ l.length ≤ i) {k : Int} (ho : opn es k = []) : k ∉ es.map (·.1) := by
  refine mGet_none.1 ?_
  cases hg : mGet es k with
  | none => rfl
  | some l =>
    unfold opn at ho
    rw [hg] at ho
    exact absurd ho (h k l hg).1
theorem mSet_len {α β : Type} [DecidableEq α] (es : List (α × β)) (k : α) (v : β) : (mSet es k v).length ≤ es.length + 1 := by
  have := congrArg List.length (mKeys_set es k v)
  rw [List.length_map] at this
  rw [this]
  split <;> simp
theorem mKeys_nodup {α β : Type} [DecidableEq α] {es : List (α × β)} (h : (es.map (·.1)).Nodup) (k : α) (v : β) : ((mSet es k v).map (·.1)).Nodup := by
  rw [mKeys_set]
  split
  · exact h
  · rename_i hk
    refine List.nodup_append.2 ⟨h, by simp, fun a ha b hb => ?_⟩
    rw [List.mem_singleton] at hb
    subst hb
    exact fun e => hk (e ▸ ha)

theorem crashL_length {es : MT} {cs : List Cel} {keep : List Int} : ∀ (ks : List Int) (j : Nat) (out : List Cel), (crashL es cs keep j ks out).length = out.length
  | [], _, _ => rfl
  | k :: ks, j, out => by
    unfold crashL
    rw [crashL_length ks, List.length_set]
theorem crashL_get {es : MT} {cs : List Cel} {keep : List Int} {i : Nat} : ∀ (ks : List Int) (j : Nat) (out : List Cel), (∀ k ∈ ks, k.toNat ≠ i) → (crashL es cs keep j ks out)[i]? = out[i]?
  | [], _, _, _ => rfl
  | k :: ks, j, out, h => by
    unfold crashL
    rw [crashL_get ks _ _ (fun x hx => h x (List.mem_cons_of_mem _ hx)), List.getElem?_set_ne (h k (List.mem_cons_self ..))]

theorem stops_loop2 {st af : Int} {sure now : SM} {cs : List Cel} (hl : cs.length = 16) (h : ∀ k : Nat, k < 16 → mGet now (k : Int) = none → cs[k]? = some ((mGet sure (k : Int)).getD (Arr.zero 64), false)) :
    ∀ (m k : Nat), k ≤ 16 → 16 - k < m → L_law09_DiskStops_2 100 m (k : Nat) sure now st af false cs [] = some true
  | 0, _, _, h => absurd h (Nat.not_lt_zero _)
  | m + 1, k, hk, hm => by
    show B_law09_DiskStops_2 100 (L_law09_DiskStops_2 100 m) _ sure now st af false cs [] = _
    unfold B_law09_DiskStops_2
    by_cases hlt : k < 16
    · rw [show decide ((k : Int) < 16) = true from decide_eq_true (by omega), q_if1]
      have ih := stops_loop2 (st := st) (af := af) hl h m (k + 1) (by omega) (by omega)
      rw [show ((k + 1 : Nat) : Int) = (k : Int) + 1 by omega] at ih
      cases hg : mGet now (k : Int) with
      | some v =>
        simp only [Option.isSome_some, q_if1, q_gl, q_jr]
        rw [q_ck (by omega) (by omega)]
        exact ih
      | none =>
        simp only [Option.isSome_none, q_if0, q_gl]
        rw [read_eq (by simp [opn, mGet])]
        have he : errOf false (k : Int) cs.length = 0 := by
          unfold errOf
          rw [if_neg (by simp), if_neg (by omega)]
        have hr : readM [] cs (k : Int) = ((mGet sure (k : Int)).getD (Arr.zero 64), 0) := by
          unfold readM
          rw [if_pos (by simp [opn, mGet]), Int.toNat_natCast, h k hlt hg]
          rfl
        rw [he, hr]
        simp only [ne_eq, not_true_eq_false, if_false, q_bd, q_gl, show ((0 : Int) != 0) = false from rfl, q_if0, q_jr]
        simp only [BEq.rfl, Bool.not_true, q_if0, q_jr]
        rw [q_ck (by omega) (by omega)]
        exact ih
    · rw [show decide ((k : Int) < 16) = false from decide_eq_false (by omega), q_if0, sanity_true]
      rfl
end Go.Proofs.Try
set_option synthInstance.maxSize 100000000
set_option synthInstance.maxHeartbeats 4000000
set_option maxRecDepth 100000
namespace Go.Proofs.Try
open Go.Eng Go.RowKit
abbrev RecT := List Op3 → Int → List Int → List Op3 → Int → Int → Int → Int → Bool → SM → SM → List Cel → MT → Option Bool
/-- What follows a call. -/
def tailE (rc : RecT) (l : List Op3) (p2 : Int) (keep : List Int) (i e len st af : Int) (de : Bool) (sure now : SM) (cs : List Cel) (es : MT) : Option Bool :=
  bd? (if? ((!((e == 0) == decide (i < (IntKind.wrap .i64 p2))))) (gl? (cs.length) (cs) (some (l, p2, keep, l, len, i, true, st, af, de, sure, now, cs, es))) (if? ((e != 0)) (gl? (cs.length) (cs) (some (l, p2, keep, l, len, i, (e != 12), st, af, de, sure, now, cs, es))) (gl? (cs.length) (cs) (some (l, p2, keep, l, len, i, false, st, af, de, sure, now, cs, es))))) fun w => if? (w.2.2.2.2.2.2.1) (some false) (ck .i64 ((w.2.2.2.2.2.1 + 1)) (gl? (w.2.2.2.2.2.2.2.2.2.2.2.2.1.length) (w.2.2.2.2.2.2.2.2.2.2.2.2.1) (rc w.1 w.2.1 w.2.2.1 w.2.2.2.1 w.2.2.2.2.1 (w.2.2.2.2.2.1 + 1) w.2.2.2.2.2.2.2.1 w.2.2.2.2.2.2.2.2.1 w.2.2.2.2.2.2.2.2.2.1 w.2.2.2.2.2.2.2.2.2.2.1 w.2.2.2.2.2.2.2.2.2.2.2.1 w.2.2.2.2.2.2.2.2.2.2.2.2.1 w.2.2.2.2.2.2.2.2.2.2.2.2.2)))
theorem tail_ok {rc : RecT} {l : List Op3} {n i : Nat} {keep : List Int} {e len st af : Int} {de : Bool} {sure now : SM} {cs : List Cel} {es : MT} (hn : n ≤ 255) (hi : i ≤ 1000) (he : (e = 0 ∧ i < n) ∨ (e = 12 ∧ ¬ i < n)) :
    tailE rc l (n : Int) keep (i : Int) e len st af de sure now cs es = rc l n keep l len ((i + 1 : Nat) : Int) st af de sure now cs es := by
  unfold tailE
  rw [q_wrap (by omega) (by omega)]
  rcases he with ⟨rfl, h⟩ | ⟨rfl, h⟩
  · rw [show decide ((i : Int) < (n : Int)) = true from decide_eq_true (by omega)]
    simp only [BEq.rfl, Bool.not_true, q_if0, show ((0 : Int) != 0) = false from rfl, q_gl, q_bd]
    rw [q_ck (by omega) (by omega)]
    rfl
  · rw [show decide ((i : Int) < (n : Int)) = false from decide_eq_false (by omega)]
    simp only [show ((12 : Int) == 0) = false from rfl, BEq.rfl, Bool.not_true, q_if0, show ((12 : Int) != 0) = true from rfl, show ((12 : Int) != 12) = false from rfl, q_if1, q_gl, q_bd]
    rw [q_ck (by omega) (by omega)]
    rfl

theorem stops_loop1 {rc : RecT} {l : List Op3} {p2 : Int} {keep : List Int} {i e len st af : Int} {de : Bool} {now : SM} {cs : List Cel} {es : MT} : ∀ (m : Nat) (rem : List Int) (sure : SM), rem.length < m → (∀ k ∈ rem, k ∈ now.map (·.1)) → rem.Nodup →
    (∀ sure' : SM, (∀ k, mGet sure' k = if k ∈ rem then mGet now k else mGet sure k) → tailE rc l p2 keep i e len st af de sure' [] cs es = some true) →
    L_law09_DiskStops_1 rc m l p2 keep i e l len i st af de sure now rem cs es = some true
  | 0, _, _, h, _, _, _ => absurd h (Nat.not_lt_zero _)
  | m + 1, rem, sure, h, hk, hn, ht => by
    show B_law09_DiskStops_1 rc (L_law09_DiskStops_1 rc m) l p2 keep i e l len i st af de sure now rem cs es = _
    unfold B_law09_DiskStops_1
    refine q_nx (fun e => ?_) (fun j k hj => ?_)
    · subst e
      exact ht sure fun k => by rw [if_neg (by simp)]
    · have hp := perm_erase hj
      have hlr := hp.length_eq
      simp only [List.length_cons] at hlr
      have hnd := List.nodup_cons.1 (hp.nodup_iff.2 hn)
      obtain ⟨v, hv⟩ := Option.ne_none_iff_exists'.1 (fun e => mGet_none.1 e (hk k (List.mem_of_getElem? hj)))
      rw [hv]
      simp only [q_bd, q_gl]
      refine stops_loop1 m (rem.eraseIdx j) (mSet sure k v) (by omega) (fun x hx => hk x (hp.mem_iff.1 (List.mem_cons_of_mem _ hx))) hnd.2 fun sure' hs => ht sure' fun x => ?_
      rw [hs x, mGet_set]
      by_cases h1 : x ∈ rem.eraseIdx j
      · rw [if_pos h1, if_pos (hp.mem_iff.1 (List.mem_cons_of_mem _ h1))]
      · rw [if_neg h1]
        by_cases h2 : x = k
        · subst h2
          rw [if_pos rfl, if_pos (List.mem_of_getElem? hj), hv]
        · rw [if_neg h2, if_neg]
          intro h3
          rcases List.mem_cons.1 (hp.mem_iff.2 h3) with h4 | h4
          · exact h2 h4
          · exact h1 h4

theorem syncC_get {es : MT} {cs : List Cel} {k : Nat} : (syncC es cs)[k]? = (cs[k]?).map fun c => match (opn es (k : Int)).getLast? with
    | some s => (s, false)
    | none => c := by
  unfold syncC opn
  rw [List.getElem?_mapIdx]
  congr 1
  funext c
  cases mGet es (k : Int) with
  | none => rfl
  | some l => rfl
theorem syncC_length {es : MT} {cs : List Cel} : (syncC es cs).length = cs.length := List.length_mapIdx
theorem Inv.fail {n i : Nat} {st af : Int} {de : Bool} {sure now : SM} {cs : List Cel} {es : MT} (h : Inv n i st af de sure now cs es) (hi : n ≤ i) : Inv n (i + 1) st af true sure now cs es :=
  ⟨by rw [h.st]; omega, by rw [h.af]; omega, (decide_eq_true (by omega)).symm, h.len, h.en, h.er, fun k l hk => ⟨(h.el k l hk).1, by have := (h.el k l hk).2; omega⟩, by have := h.ne; omega, h.nn, by have := h.nl; omega, h.nw, h.ce⟩
theorem Inv.sync {n i : Nat} {st af : Int} {de : Bool} {sure now sure' : SM} {cs : List Cel} {es : MT} (h : Inv n i st af de sure now cs es) (hi : i < n) (hs : ∀ k, mGet sure' k = if k ∈ now.map (·.1) then mGet now k else mGet sure k) :
    Inv n (i + 1) (st + 1) (if af > 0 then af - 1 else af) de sure' [] (syncC es cs) [] := by
  refine ⟨by rw [h.st]; omega, by rw [h.af, if_pos (by omega)]; omega, by rw [h.de, decide_eq_false (by omega), decide_eq_false (by omega)], by rw [syncC_length]; exact h.len, List.nodup_nil, fun k hk => (by cases hk), fun k l hk => (by cases hk), by simp, List.nodup_nil, by simp, fun k => by simp [opn, mGet], fun k hk => ?_⟩
  rw [syncC_get, h.ce k hk, hs]
  have hw := h.nw (k : Int)
  by_cases hm : (k : Int) ∈ now.map (·.1)
  · rw [if_pos hm]
    obtain ⟨v, hv⟩ := Option.ne_none_iff_exists'.1 (fun e => mGet_none.1 e hm)
    rw [hv] at hw
    rw [← hw, hv]; rfl
  · rw [if_neg hm]
    rw [mGet_none.2 hm] at hw
    rw [← hw]; rfl
theorem Inv.write {n i : Nat} {st af : Int} {de : Bool} {sure now : SM} {cs : List Cel} {es : MT} (h : Inv n i st af de sure now cs es) (hi : i < n) {k : Int} {s : Sec} (hk : 0 ≤ k ∧ k < 16) :
    Inv n (i + 1) (st + 1) (if af > 0 then af - 1 else af) de sure (mSet now k s) cs (mSet es k (opn es k ++ [s])) := by
  have ho : ∀ j, opn (mSet es k (opn es k ++ [s])) j = if j = k then opn es k ++ [s] else opn es j := fun j => by
    unfold opn
    rw [mGet_set]
    split
    · rfl
    · rfl
  refine ⟨by rw [h.st]; omega, by rw [h.af, if_pos (by omega)]; omega, by rw [h.de, decide_eq_false (by omega), decide_eq_false (by omega)], h.len, mKeys_nodup h.en _ _, fun j hj => ?_, fun j l hj => ?_, by have := mSet_len es k (opn es k ++ [s]); have := h.ne; omega, mKeys_nodup h.nn _ _, by have := mSet_len now k s; have := h.nl; omega, fun j => ?_, h.ce⟩
  · rw [mKeys_set] at hj
    split at hj
    · exact h.er j hj
    · rcases List.mem_append.1 hj with hj | hj
      · exact h.er j hj
      · rw [List.mem_singleton] at hj; subst hj; exact hk
  · rw [mGet_set] at hj
    split at hj
    · cases hj
      have := opn_len h.el k
      exact ⟨by simp, by simp; omega⟩
    · have := h.el j l hj
      exact ⟨this.1, by omega⟩
  · rw [mGet_set, ho]
    by_cases hjk : j = k
    · rw [if_pos hjk, if_pos hjk]; simp
    · rw [if_neg hjk, if_neg hjk]; exact h.nw j
end Go.Proofs.Try
set_option synthInstance.maxSize 100000000
set_option synthInstance.maxHeartbeats 4000000
set_option maxRecDepth 100000
namespace Go.Proofs.Try
open Go.Eng Go.RowKit
theorem Inv.err {n i : Nat} {st af : Int} {de : Bool} {sure now : SM} {cs : List Cel} {es : MT} (h : Inv n i st af de sure now cs es) {k : Int} (hk : 0 ≤ k ∧ k < 16) : errOf de k cs.length = if n < i then 12 else 0 := by
  unfold errOf
  rw [h.de, h.len]
  by_cases hi : n < i
  · rw [if_pos (by simpa using hi), if_pos hi]
  · rw [if_neg (by simpa using hi), if_neg (by omega), if_neg hi]
theorem stops_end {l : List Op3} {n : Nat} {keep : List Int} (hn : n ≤ 255) (hl : l.length ≤ 40) {st af : Int} {de : Bool} {sure now : SM} {cs : List Cel} {es : MT} (h : Inv n l.length st af de sure now cs es) (m : Nat) :
    B_law09_DiskStops_0 100 (L_law09_DiskStops_0 100 m) l (n : Int) keep l ((l.length : Nat) : Int) ((l.length : Nat) : Int) st af de sure now cs es = some true := by
  unfold B_law09_DiskStops_0
  rw [show decide (((l.length : Nat) : Int) < ((l.length : Nat) : Int)) = false from decide_eq_false (by omega), q_if0]
  have hol := opn_len h.el
  have hes := h.ne
  have hw : IntKind.wrap .i64 (n : Int) = n := q_wrap (by omega) (by omega)
  rw [q_gl, read_eq (by have := hol 3; omega), h.err (k := 3) (by omega), hw]
  have hc3 : cs[(3 : Int).toNat]? = some ((mGet sure 3).getD (Arr.zero 64), false) := h.ce 3 (by omega)
  have hr2 : (readM es cs 3).2 = 0 := by
    unfold readM
    split
    · rw [hc3]; rfl
    · rfl
  have hx : ((if (if n < l.length then (12 : Int) else 0) ≠ 0 then ((Arr.zero 64 : Sec), (if n < l.length then (12 : Int) else 0), st, af, de, cs, es) else ((readM es cs 3).1, (readM es cs 3).2, st, af, de, cs, es))) = ((if n < l.length then (Arr.zero 64 : Sec) else (readM es cs 3).1), (if n < l.length then (12 : Int) else 0), st, af, de, cs, es) := by
    by_cases hi : n < l.length
    · simp only [if_pos hi]; rfl
    · simp only [if_neg hi, hr2]; rfl
  rw [hx]
  simp only [q_bd]
  have h12 : ((if n < l.length then (12 : Int) else 0) == 12) = decide (n < l.length) := by
    by_cases hi : n < l.length
    · rw [if_pos hi, decide_eq_true hi]; rfl
    · rw [if_neg hi, decide_eq_false hi]; rfl
  have hdl : decide (((l.length : Nat) : Int) > (n : Int)) = decide (n < l.length) := by
    rw [decide_eq_decide]; omega
  rw [h12, hdl]
  simp only [BEq.rfl, Bool.not_true, q_if0, q_gl, down_eq, q_bd, h.de, steps_eq]
  have hst : (st != min ((l.length : Nat) : Int) (n : Int)) = false := by
    rw [h.st]
    simp
    omega
  rw [hst]
  simp only [q_if0]
  rw [crash_eq (by rw [h.len]; omega) (by rw [h.len]; omega) (by omega) (by omega) (fun k hk => by rw [h.len]; exact h.er k hk) (fun k l hk => ⟨(h.el k l hk).1, by have := (h.el k l hk).2; omega⟩)]
  simp only [q_bd, q_gl]
  refine stops_loop2 (by rw [crashL_length]; exact h.len) (fun k hk hg => ?_) 100 0 (by omega) (by omega)
  rw [crashL_get, h.ce k hk]
  intro x hx e
  have hm : x ∈ es.map (·.1) := (srt_perm _).mem_iff.1 hx
  obtain ⟨x0, x1⟩ := h.er x hm
  have : x = (k : Int) := by omega
  subst this
  have hw := h.nw (k : Int)
  rw [hg] at hw
  have ho : opn es (k : Int) = [] := List.getLast?_eq_none_iff.1 hw.symm
  exact opn_nil h.el ho hm
theorem tmod16 (x : Int) : -16 < x.tmod 16 ∧ x.tmod 16 < 16 := by
  have h1 := Int.tmod_lt_of_pos x (show (0 : Int) < 16 by omega)
  refine ⟨?_, h1⟩
  rcases Int.lt_or_le x 0 with h | h
  · have := Int.tmod_lt_of_pos (-x) (show (0 : Int) < 16 by omega)
    rw [Int.neg_tmod] at this
    omega
  · have := Int.tmod_nonneg 16 h
    omega
theorem stops_loop0 {l : List Op3} {n : Nat} {keep : List Int} (hn : n ≤ 255) (hl : l.length ≤ 40) : ∀ (m i : Nat) (st af : Int) (de : Bool) (sure now : SM) (cs : List Cel) (es : MT), i ≤ l.length → l.length - i < m → Inv n i st af de sure now cs es →
    L_law09_DiskStops_0 100 m l (n : Int) keep l ((l.length : Nat) : Int) (i : Nat) st af de sure now cs es = some true
  | 0, _, _, _, _, _, _, _, _, _, h, _ => absurd h (Nat.not_lt_zero _)
  | m + 1, i, st, af, de, sure, now, cs, es, hi, hm, h => by
    show B_law09_DiskStops_0 100 (L_law09_DiskStops_0 100 m) l (n : Int) keep l ((l.length : Nat) : Int) (i : Nat) st af de sure now cs es = _
    rcases Nat.lt_or_eq_of_le hi with hlt | rfl
    rotate_left
    · exact stops_end hn hl h m
    have IH := fun st af de sure now cs es (h : Inv n (i + 1) st af de sure now cs es) => stops_loop0 (keep := keep) hn hl m (i + 1) st af de sure now cs es (by omega) (by omega) h
    unfold B_law09_DiskStops_0
    rw [show decide (((i : Nat) : Int) < ((l.length : Nat) : Int)) = true from decide_eq_true (by omega), q_if1, q_get (List.getElem?_eq_getElem hlt)]
    generalize l[i] = x
    have ht := tmod16 x.2.1
    rw [q_ck (by omega) (by omega)]
    have hol := opn_len h.el
    have hes := h.ne
    have hstb : 0 ≤ st ∧ st ≤ 1000 := by rw [h.st]; omega
    have hafb : -1 ≤ af ∧ af ≤ 9223372036854775807 := by rw [h.af]; omega
    have hel : ∀ k l, mGet es k = some l → l ≠ [] ∧ l.length ≤ 1000 := fun k l hk => ⟨(h.el k l hk).1, by have := (h.el k l hk).2; omega⟩
    by_cases hk : x.1.tmod 3 = 0
    · rw [show (x.1.tmod 3 == 0) = true by simpa using hk, q_if1, q_gl]
      rw [sync_eq hafb.1 hafb.2 hstb.1 hstb.2 (by omega) (by rw [h.len]; omega) h.en (fun k hk => by rw [h.len]; exact h.er k hk) hel]
      by_cases hin : i < n
      · rw [if_neg (by rw [h.de]; simpa using (by omega : i ≤ n)), if_neg (by rw [h.af]; omega)]
        simp only [q_bd, BEq.rfl, q_if1, q_gl]
        refine stops_loop1 100 (now.map (·.1)) sure (by rw [List.length_map]; have := h.nl; omega) (fun _ h => h) h.nn fun sure' hs => ?_
        rw [tail_ok hn (by omega) (.inl ⟨rfl, hin⟩)]
        exact IH _ _ _ _ _ _ _ (h.sync hin hs)
      · have hres : (if de = true then ((12 : Int), st, af, de, cs, es) else if af = 0 then (12, st, af, true, cs, es) else (0, st + 1, if af > 0 then af - 1 else af, de, syncC es cs, [])) = (12, st, af, true, cs, es) := by
          by_cases hd : de = true
          · rw [if_pos hd, hd]
          · rw [if_neg hd, if_pos (by rw [h.af]; omega)]
        rw [hres]
        have := tail_ok (rc := L_law09_DiskStops_0 100 m) (l := l) (keep := keep) (len := ((l.length : Nat) : Int)) (st := st) (af := af) (de := true) (sure := sure) (now := now) (cs := cs) (es := es) hn (show i ≤ 1000 by omega) (.inr ⟨rfl, hin⟩)
        exact this.trans (IH _ _ _ _ _ _ _ (h.fail (by omega)))
    · rw [show (x.1.tmod 3 == 0) = false by simpa using hk, q_if0]
      obtain ⟨v, hv⟩ := filled_ex (N := 100) (by omega) x.2.2
      rw [hv]
      simp only [q_bd, q_gl]
      have hkk : 0 ≤ (x.2.1.tmod 16 + 16).tmod 16 ∧ (x.2.1.tmod 16 + 16).tmod 16 < 16 := ⟨Int.tmod_nonneg _ (by omega), Int.tmod_lt_of_pos _ (by omega)⟩
      revert hkk
      generalize (x.2.1.tmod 16 + 16).tmod 16 = k
      intro hkk
      rw [write_eq hafb.1 hafb.2 hstb.1 hstb.2 (by have := hol k; omega), h.err hkk]
      by_cases hin : i < n
      · rw [if_neg (show ¬ n < i by omega), if_neg (by simp), if_neg (by rw [h.af]; omega)]
        have := tail_ok (rc := L_law09_DiskStops_0 100 m) (l := l) (keep := keep) (e := 0) (len := ((l.length : Nat) : Int)) (st := st + 1) (af := if af > 0 then af - 1 else af) (de := de) (sure := sure) (now := mSet now k v) (cs := cs) (es := mSet es k (opn es k ++ [v])) hn (show i ≤ 1000 by omega) (.inl ⟨rfl, hin⟩)
        refine Eq.trans ?_ (this.trans (IH _ _ _ _ _ _ _ (h.write hin hkk)))
        simp only [q_bd, BEq.rfl, q_if1, hv]
        unfold tailE
        simp only [BEq.rfl, q_gl]
      · have hres : (if (if n < i then (12 : Int) else 0) ≠ 0 then ((if n < i then (12 : Int) else 0), st, af, de, cs, es) else if af = 0 then (12, st, af, true, cs, es) else (0, st + 1, if af > 0 then af - 1 else af, de, cs, mSet es k (opn es k ++ [v]))) = (12, st, af, true, cs, es) := by
          by_cases hd : n < i
          · simp only [if_pos hd]
            rw [if_pos (by decide), h.de, decide_eq_true hd]
          · simp only [if_neg hd]
            rw [if_neg (by simp), if_pos (by rw [h.af]; omega)]
        rw [hres]
        have := tail_ok (rc := L_law09_DiskStops_0 100 m) (l := l) (keep := keep) (len := ((l.length : Nat) : Int)) (st := st) (af := af) (de := true) (sure := sure) (now := now) (cs := cs) (es := es) hn (show i ≤ 1000 by omega) (.inr ⟨rfl, hin⟩)
        refine Eq.trans ?_ (this.trans (IH _ _ _ _ _ _ _ (h.fail (by omega))))
        simp only [q_bd, q_gl, show ((12 : Int) == 0) = false from rfl, q_if0]
        unfold tailE
        simp only [show ((12 : Int) == 0) = false from rfl, q_gl]
theorem stops_true {l : List Op3} {p2 : Int} {keep : List Int} (h0 : 0 ≤ p2) (h1 : p2 ≤ 255) : G_law09_DiskStops 100 l p2 keep = some true := by
  unfold G_law09_DiskStops
  obtain ⟨n, rfl⟩ : ∃ n : Nat, p2 = n := ⟨p2.toNat, by omega⟩
  by_cases hl : l.length ≤ 40
  · rw [show decide (((l.length : Nat) : Int) > 40) = false from decide_eq_false (by omega), q_if0]
    simp only [q_bd]
    by_cases hk : keep.length ≤ 20
    · rw [show decide (((keep.length : Nat) : Int) > 20) = false from decide_eq_false (by omega), q_if0, new_eq (by omega) (by omega)]
      simp only [q_bd, q_smr, q_gl, arm_eq]
      refine stops_loop0 (by omega) hl 100 0 _ _ _ _ _ _ _ (by omega) (by omega) ⟨by simp, ?_, by simp, by simp, List.nodup_nil, fun k hk => (by cases hk), fun k l hk => (by cases hk), by simp, List.nodup_nil, by simp, fun k => by simp [opn, mGet], fun k hk => ?_⟩
      · rw [q_wrap (by omega) (by omega)]; omega
      · show (List.replicate 16 ((Arr.zero 64 : Sec), false))[k]? = _
        rw [List.getElem?_replicate, if_pos hk]
        rfl
    · rw [show decide (((keep.length : Nat) : Int) > 20) = true from decide_eq_true (by omega), q_if1, sanity_true]
      rfl
  · rw [show decide (((l.length : Nat) : Int) > 40) = true from decide_eq_true (by omega), q_if1]
    simp only [q_bd, q_if1, sanity_true]
end Go.Proofs.Try
