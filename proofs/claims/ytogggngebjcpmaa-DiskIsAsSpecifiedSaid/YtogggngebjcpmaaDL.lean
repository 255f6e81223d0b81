/- The disk of the program against that of the specification. -/
import Derived.Test.YtogggngebjcpmaaDP
set_option linter.all false
set_option linter.unusedSimpArgs false
set_option linter.unusedVariables false
set_option synthInstance.maxSize 100000000
set_option synthInstance.maxHeartbeats 4000000
set_option maxRecDepth 100000
namespace Go.Proofs.Try
open Go.Eng Go.RowKit
abbrev RC := Sec × (Bool × List Sec)
def lo (L : List RC) (k : Int) : List Sec := if 0 ≤ k then ((L[k.toNat]?).map (·.2.2)).getD [] else []
structure RD (cs : List Cel) (es : MT) (L : List RC) : Prop where
  c : cs = L.map fun c => (c.1, c.2.1)
  n : (es.map (·.1)).Nodup
  o : ∀ k, opn es k = lo L k
  e : ∀ k l, mGet es k = some l → l ≠ []
  z : ∀ c ∈ L, c.2.1 = true → c.1 = Arr.zero 64
def rc (L : List RC) (i : Nat) : RC := L.getD i (Arr.zero 64, false, [])
theorem rc_get {L : List RC} {i : Nat} (h : i < L.length) : L[i]? = some (rc L i) := by
  rw [rc, List.getD, List.getElem?_eq_getElem h]; rfl
theorem lo_rc {L : List RC} {k : Int} (h0 : 0 ≤ k) (h : k < (L.length : Int)) : lo L k = (rc L k.toNat).2.2 := by
  unfold lo
  rw [if_pos h0, rc_get (by omega)]; rfl
theorem lo_out {L : List RC} {k : Int} (h : lo L k ≠ []) : 0 ≤ k ∧ k < (L.length : Int) := by
  unfold lo at h
  split at h
  · rename_i h0
    refine ⟨h0, ?_⟩
    rcases Nat.lt_or_ge k.toNat L.length with h1 | h1
    · omega
    · rw [List.getElem?_eq_none h1] at h
      exact absurd rfl h
  · exact absurd rfl h
theorem RD.len {cs : List Cel} {es : MT} {L : List RC} (h : RD cs es L) : cs.length = L.length := by rw [h.c, List.length_map]
theorem RD.cel {cs : List Cel} {es : MT} {L : List RC} (h : RD cs es L) {i : Nat} (hi : i < L.length) : cs[i]? = some ((rc L i).1, (rc L i).2.1) := by
  rw [h.c, List.getElem?_map, rc_get hi]; rfl
theorem RD.mem {cs : List Cel} {es : MT} {L : List RC} (h : RD cs es L) {k : Int} : k ∈ es.map (·.1) ↔ lo L k ≠ [] := by
  rw [← h.o k]
  constructor
  · intro hk ho
    obtain ⟨v, hv⟩ := Option.ne_none_iff_exists'.1 (fun e => mGet_none.1 e hk)
    unfold opn at ho
    rw [hv] at ho
    exact h.e k v hv ho
  · intro ho
    refine Decidable.byContradiction fun hk => ho ?_
    unfold opn
    rw [mGet_none.2 hk]; rfl
theorem RD.rng {cs : List Cel} {es : MT} {L : List RC} (h : RD cs es L) : ∀ k ∈ es.map (·.1), 0 ≤ k ∧ k < (cs.length : Int) := fun k hk => by
  rw [h.len]; exact lo_out (h.mem.1 hk)
theorem RD.rc_mem {cs : List Cel} {es : MT} {L : List RC} (h : RD cs es L) {i : Nat} (hi : i < L.length) (hb : (rc L i).2.1 = true) : (rc L i).1 = Arr.zero 64 := h.z _ (List.mem_of_getElem? (rc_get hi)) hb
theorem opn_set (es : MT) (k : Int) (v : List Sec) (j : Int) : opn (mSet es k v) j = if j = k then v else opn es j := by
  unfold opn
  rw [mGet_set]
  split <;> rfl
theorem lo_set {L : List RC} {i : Int} (h0 : 0 ≤ i) (h : i < (L.length : Int)) (x : RC) (k : Int) : lo (L.set i.toNat x) k = if k = i then x.2.2 else lo L k := by
  unfold lo
  by_cases hk : 0 ≤ k
  · rw [if_pos hk, if_pos hk, List.getElem?_set]
    by_cases e : k = i
    · subst e
      rw [if_pos rfl, if_pos rfl]
      simp [show k.toNat < L.length by omega]
    · rw [if_neg (show ¬ i.toNat = k.toNat by omega), if_neg e]
  · rw [if_neg hk, if_neg hk, if_neg (by omega)]
theorem RD.write {cs : List Cel} {es : MT} {L : List RC} (h : RD cs es L) {i : Int} (h0 : 0 ≤ i) (h1 : i < (L.length : Int)) (s : Sec) :
    RD cs (mSet es i (opn es i ++ [s])) (L.set i.toNat ((rc L i.toNat).1, (rc L i.toNat).2.1, (rc L i.toNat).2.2 ++ [s])) := by
  refine ⟨?_, mKeys_nodup h.n _ _, fun k => ?_, fun k l hk => ?_, fun c hc hb => ?_⟩
  · rw [h.c, List.map_set]
    apply List.ext_getElem?
    intro j
    rw [List.getElem?_set]
    split
    · rename_i e; subst e
      rw [List.getElem?_map, rc_get (by omega)]
      simp [show i.toNat < L.length by omega]
    · rfl
  · rw [opn_set, lo_set h0 h1, h.o, h.o, lo_rc h0 h1]
  · rw [mGet_set] at hk
    split at hk
    · cases hk; simp
    · exact h.e k l hk
  · rcases List.mem_or_eq_of_mem_set hc with hm | rfl
    · exact h.z c hm hb
    · exact h.rc_mem (by omega) hb
theorem RD.put {cs : List Cel} {es : MT} {L : List RC} (h : RD cs es L) {i : Int} (h0 : 0 ≤ i) (h1 : i < (L.length : Int)) (s : Sec) (b : Bool) (hz : b = true → s = Arr.zero 64) :
    RD (cs.set i.toNat (s, b)) es (L.set i.toNat (s, b, (rc L i.toNat).2.2)) := by
  refine ⟨by rw [h.c, List.map_set], h.n, fun k => ?_, h.e, fun c hc hb => ?_⟩
  · rw [h.o, lo_set h0 h1]
    by_cases e : k = i
    · subst e; rw [if_pos rfl, lo_rc h0 h1]
    · rw [if_neg e]
  · rcases List.mem_or_eq_of_mem_set hc with hm | rfl
    · exact h.z c hm hb
    · exact hz hb
theorem syncC_get' {es : MT} {cs : List Cel} {k : Nat} : (syncC es cs)[k]? = (cs[k]?).map fun c => match (opn es (k : Int)).getLast? with
    | some s => (s, false)
    | none => c := by
  unfold syncC opn
  rw [List.getElem?_mapIdx]
  congr 1
  funext c
  cases mGet es (k : Int) with
  | none => rfl
  | some l => rfl
def syR (c : RC) : RC := match c.2.2.getLast? with
  | some s => (s, false, [])
  | none => c
theorem syR_open (c : RC) : (syR c).2.2 = [] := by
  unfold syR
  split
  · rfl
  · rename_i h; exact List.getLast?_eq_none_iff.1 h
theorem RD.sync {cs : List Cel} {es : MT} {L : List RC} (h : RD cs es L) : RD (syncC es cs) [] (L.map syR) := by
  refine ⟨?_, List.nodup_nil, fun k => ?_, fun k l hk => (by cases hk), fun c hc hb => ?_⟩
  · apply List.ext_getElem?
    intro j
    rw [syncC_get', List.map_map, List.getElem?_map, h.c, List.getElem?_map, Option.map_map]
    rcases Nat.lt_or_ge j L.length with hj | hj
    · rw [rc_get hj]
      show some _ = some _
      congr 1
      show (match (opn es (j : Int)).getLast? with | some s => (s, false) | none => ((rc L j).1, (rc L j).2.1)) = ((syR (rc L j)).1, (syR (rc L j)).2.1)
      rw [h.o, lo_rc (by omega) (by omega), Int.toNat_natCast]
      unfold syR
      split <;> rename_i e <;> simp only [e]
    · rw [List.getElem?_eq_none hj]; rfl
  · unfold lo
    split
    · rw [List.getElem?_map]
      cases L[k.toNat]? with
      | none => rfl
      | some c => exact (syR_open c).symm
    · rfl
  · obtain ⟨c0, hc0, rfl⟩ := List.mem_map.1 hc
    unfold syR at hb ⊢
    split at hb
    · cases hb
    · exact h.z c0 hc0 hb
end Go.Proofs.Try
set_option synthInstance.maxSize 100000000
set_option synthInstance.maxHeartbeats 4000000
set_option maxRecDepth 100000
namespace Go.Proofs.Try
open Go.Eng Go.RowKit
def ksR (L : List RC) (i m : Nat) : List Int := ((List.range' i m).filter fun j => !(rc L j).2.2.isEmpty).map fun j : Nat => (j : Int)
theorem ksR_cons {L : List RC} {i m : Nat} : ksR L i (m + 1) = if (rc L i).2.2 = [] then ksR L (i + 1) m else (i : Int) :: ksR L (i + 1) m := by
  unfold ksR
  rw [List.range'_succ, List.filter_cons]
  by_cases h : (rc L i).2.2 = []
  · simp [h]
  · simp [h]
theorem srt_id {l : List Int} (h : l.Pairwise (· ≤ ·)) : srt l = l :=
  List.Perm.eq_of_pairwise (le := fun a b : Int => a ≤ b) (fun _ _ _ _ h1 h2 => Int.le_antisymm h1 h2) (srt_sorted l) h (srt_perm l)
theorem ksR_sorted (L : List RC) (i m : Nat) : (ksR L i m).Pairwise (· ≤ ·) := by
  unfold ksR
  refine List.pairwise_map.2 (List.Pairwise.filter _ ?_)
  refine List.Pairwise.imp ?_ (List.pairwise_lt_range' (s := i) (n := m) (step := 1))
  intro a b h
  omega
theorem RD.keys {cs : List Cel} {es : MT} {L : List RC} (h : RD cs es L) : srt (es.map (·.1)) = ksR L 0 L.length := by
  rw [← srt_id (ksR_sorted L 0 L.length)]
  refine srt_of_perm ((List.perm_ext_iff_of_nodup h.n ?_).2 fun k => ?_)
  · unfold ksR
    refine List.pairwise_map.2 (List.Pairwise.filter _ ?_)
    refine List.Pairwise.imp ?_ (List.pairwise_lt_range' (s := 0) (n := L.length) (step := 1))
    intro a b h e
    omega
  · rw [h.mem]
    unfold ksR
    simp only [List.mem_map, List.mem_filter, List.mem_range'_1]
    constructor
    · intro hk
      obtain ⟨k0, k1⟩ := lo_out hk
      refine ⟨k.toNat, ⟨by omega, ?_⟩, by omega⟩
      rw [lo_rc k0 k1] at hk
      simpa using hk
    · rintro ⟨j, ⟨hj, hp⟩, rfl⟩
      rw [lo_rc (by omega) (by omega), Int.toNat_natCast]
      simpa using hp
def openR (L : List RC) (i m : Nat) : List Int := (List.range' i m).flatMap fun j : Nat => List.replicate (rc L j).2.2.length (j : Int)
theorem openR_succ {L : List RC} {i m : Nat} : openR L i (m + 1) = List.replicate (rc L i).2.2.length (i : Int) ++ openR L (i + 1) m := by
  unfold openR
  rw [List.range'_succ, List.flatMap_cons]
theorem open_R {es : MT} {L : List RC} (h : ∀ k, opn es k = lo L k) : ∀ (m i : Nat), i + m = L.length → openL es (ksR L i m) = openR L i m
  | 0, i, _ => rfl
  | m + 1, i, hi => by
    rw [ksR_cons, openR_succ, ← open_R h m (i + 1) (by omega)]
    split
    · rename_i e; rw [e]; rfl
    · unfold openL
      rw [List.flatMap_cons, h, lo_rc (by omega) (by omega), Int.toNat_natCast]
theorem RD.openL {cs : List Cel} {es : MT} {L : List RC} (h : RD cs es L) : openL es (srt (es.map (·.1))) = openR L 0 L.length := by
  rw [h.keys, open_R h.o L.length 0 (by omega)]

def keptM (c : RC) (x : Int) : RC := ((foundM (c.1, c.2.1) c.2.2 x).1, (foundM (c.1, c.2.1) c.2.2 x).2, [])
def crG (keep : List Int) : Nat → List RC → List RC
  | _, [] => []
  | n, c :: L => if c.2.2 = [] then c :: crG keep n L else keptM c (kp keep n) :: crG keep (n + 1) L
theorem crG_length {keep : List Int} : ∀ (n : Nat) (L : List RC), (crG keep n L).length = L.length
  | _, [] => rfl
  | n, c :: L => by
    unfold crG
    split
    · rw [List.length_cons, List.length_cons, crG_length n L]
    · rw [List.length_cons, List.length_cons, crG_length (n + 1) L]
theorem crG_open {keep : List Int} : ∀ (n : Nat) (L : List RC), ∀ c ∈ crG keep n L, c.2.2 = []
  | _, [], _, h => by cases h
  | n, c :: L, x, h => by
    unfold crG at h
    split at h
    · rename_i e
      rcases List.mem_cons.1 h with rfl | h
      · exact e
      · exact crG_open n L x h
    · rcases List.mem_cons.1 h with rfl | h
      · rfl
      · exact crG_open (n + 1) L x h
theorem found_z {c : Cel} {l : List Sec} {x : Int} (h : c.2 = true → c.1 = Arr.zero 64) : (foundM c l x).2 = true → (foundM c l x).1 = Arr.zero 64 := by
  unfold foundM
  split
  · exact h
  · split
    · intro h; cases h
    · split
      · intro _; rfl
      · intro h; cases h
theorem crG_z {keep : List Int} : ∀ (n : Nat) (L : List RC), (∀ c ∈ L, c.2.1 = true → c.1 = Arr.zero 64) → ∀ c ∈ crG keep n L, c.2.1 = true → c.1 = Arr.zero 64
  | _, [], _, _, h => by cases h
  | n, c :: L, hz, x, h => by
    have hz' : ∀ c ∈ L, c.2.1 = true → c.1 = Arr.zero 64 := fun c hc => hz c (List.mem_cons_of_mem _ hc)
    unfold crG at h
    split at h
    · rcases List.mem_cons.1 h with rfl | h
      · exact hz x (List.mem_cons_self ..)
      · exact crG_z n L hz' x h
    · rcases List.mem_cons.1 h with rfl | h
      · exact found_z (hz c (List.mem_cons_self ..))
      · exact crG_z (n + 1) L hz' x h
def prR (c : RC) : Cel := (c.1, c.2.1)
theorem crash_R {es : MT} {cs : List Cel} {keep : List Int} {L : List RC} (h : ∀ k, opn es k = lo L k) (hc : cs = L.map prR) : ∀ (m i n : Nat) (pre : List Cel), i + m = L.length → pre.length = i →
    crashL es cs keep n (ksR L i m) (pre ++ cs.drop i) = pre ++ (crG keep n (L.drop i)).map prR
  | 0, i, n, pre, hi, hp => by
    rw [List.drop_eq_nil_of_le (show cs.length ≤ i by rw [hc, List.length_map]; omega), List.drop_eq_nil_of_le (show L.length ≤ i by omega)]
    simp [ksR, crashL, crG]
  | m + 1, i, n, pre, hi, hp => by
    have hL : L.drop i = rc L i :: L.drop (i + 1) := by
      rw [List.drop_eq_getElem_cons (show i < L.length by omega)]
      congr 1
      have := rc_get (show i < L.length by omega)
      rw [List.getElem?_eq_getElem (show i < L.length by omega)] at this
      exact Option.some.inj this
    have hcs : cs.drop i = prR (rc L i) :: cs.drop (i + 1) := by
      rw [hc, ← List.map_drop, ← List.map_drop, hL, List.map_cons]
    rw [ksR_cons, hL]
    unfold crG
    split
    · rename_i e
      rw [hcs]
      have := crash_R (keep := keep) h hc m (i + 1) n (pre ++ [prR (rc L i)]) (by omega) (by simp [hp])
      simpa using this
    · rename_i e
      unfold crashL
      have hcel : cel cs i = prR (rc L i) := by
        have h1 := cel_get (cs := cs) (i := i) (by rw [hc, List.length_map]; omega)
        have h2 : cs[i]? = some (prR (rc L i)) := by rw [hc, List.getElem?_map, rc_get (by omega)]; rfl
        rw [h1] at h2
        exact Option.some.inj h2
      rw [Int.toNat_natCast, hcel, h, lo_rc (by omega) (by omega), Int.toNat_natCast]
      have hset : (pre ++ cs.drop i).set i (foundM (prR (rc L i)) (rc L i).2.2 (kp keep n)) = (pre ++ [foundM (prR (rc L i)) (rc L i).2.2 (kp keep n)]) ++ cs.drop (i + 1) := by
        rw [hcs, List.set_append_right _ _ (by omega), hp, Nat.sub_self, List.set_cons_zero, List.append_assoc]
        rfl
      rw [hset, crash_R (keep := keep) h hc m (i + 1) (n + 1) _ (by omega) (by simp [hp]), List.append_assoc]
      rfl
theorem RD.crash {cs : List Cel} {es : MT} {L : List RC} (h : RD cs es L) (keep : List Int) : RD (crashL es cs keep 0 (srt (es.map (·.1))) cs) [] (crG keep 0 L) := by
  have := crash_R (es := es) (cs := cs) (keep := keep) (L := L) h.o h.c L.length 0 0 [] (by omega) rfl
  rw [List.drop_zero, List.drop_zero, List.nil_append, List.nil_append] at this
  refine ⟨by rw [h.keys, this]; rfl, List.nodup_nil, fun k => ?_, fun k l hk => (by cases hk), crG_z 0 L h.z⟩
  unfold lo
  split
  · cases hg : (crG keep 0 L)[k.toNat]? with
    | none => rfl
    | some c => exact (crG_open 0 L c (List.mem_of_getElem? hg)).symm
  · rfl
def rdR (c : RC) : Sec × Int := if c.2.2 = [] then (if c.2.1 = true then (Arr.zero 64, 14) else (c.1, 0)) else (at_ c.2.2 (c.2.2.length - 1), 0)
theorem RD.read {cs : List Cel} {es : MT} {L : List RC} (h : RD cs es L) {i : Int} (h0 : 0 ≤ i) (h1 : i < (L.length : Int)) : readM es cs i = rdR (rc L i.toNat) := by
  unfold readM rdR
  rw [h.o, lo_rc h0 h1, h.cel (by omega)]
end Go.Proofs.Try
set_option synthInstance.maxSize 100000000
set_option synthInstance.maxHeartbeats 4000000
set_option maxRecDepth 100000
namespace Go.Proofs.Try
open Go.Eng Go.RowKit
theorem RD.esl {cs : List Cel} {es : MT} {L : List RC} (h : RD cs es L) : es.length ≤ L.length := by
  have h1 := congrArg List.length h.keys
  rw [srt_length, List.length_map] at h1
  rw [h1]
  unfold ksR
  rw [List.length_map]
  exact Nat.le_trans (List.length_filter_le _ _) (by rw [List.length_range']; exact Nat.le_refl _)
structure SR (sec k : Nat) (st af : Int) (cs : List Cel) (es : MT) (L : List RC) : Prop where
  r : RD cs es L
  s0 : 0 ≤ st
  s1 : st ≤ (k : Int)
  a0 : -1 ≤ af
  a1 : af ≤ 9223372036854775807
  len : L.length = sec
  ol : ∀ c ∈ L, c.2.2.length ≤ k
theorem SR.mono {sec k : Nat} {st af : Int} {cs : List Cel} {es : MT} {L : List RC} (h : SR sec k st af cs es L) : SR sec (k + 1) st af cs es L :=
  ⟨h.r, h.s0, by have := h.s1; omega, h.a0, h.a1, h.len, fun c hc => Nat.le_succ_of_le (h.ol c hc)⟩
theorem SR.rc {sec k : Nat} {st af : Int} {cs : List Cel} {es : MT} {L : List RC} (h : SR sec k st af cs es L) {i : Nat} (hi : i < L.length) : (rc L i).2.2.length ≤ k := h.ol _ (List.mem_of_getElem? (rc_get hi))
theorem SR.opn {sec k : Nat} {st af : Int} {cs : List Cel} {es : MT} {L : List RC} (h : SR sec k st af cs es L) (i : Int) : (opn es i).length ≤ k := by
  rw [h.r.o]
  unfold lo
  split
  · cases hg : L[i.toNat]? with
    | none => simp
    | some c => exact h.ol c (List.mem_of_getElem? hg)
  · simp
theorem SR.el {sec k : Nat} {st af : Int} {cs : List Cel} {es : MT} {L : List RC} (h : SR sec k st af cs es L) (hk : k ≤ 1000) : ∀ i l, mGet es i = some l → l ≠ [] ∧ l.length ≤ 1000 := fun i l hi => by
  have := h.opn i
  unfold Go.Proofs.Try.opn at this
  rw [hi] at this
  exact ⟨h.r.e i l hi, Nat.le_trans this hk⟩
def afS (af : Int) : Int := if af > 0 then af - 1 else af
theorem SR.step {sec k : Nat} {st af : Int} {cs : List Cel} {es : MT} {L : List RC} (h : SR sec k st af cs es L) : 0 ≤ st + 1 ∧ st + 1 ≤ ((k + 1 : Nat) : Int) ∧ -1 ≤ afS af ∧ afS af ≤ 9223372036854775807 := by
  have := h.s0; have := h.s1; have := h.a0; have := h.a1
  unfold afS
  split <;> omega
theorem SR.write {sec k : Nat} {st af : Int} {cs : List Cel} {es : MT} {L : List RC} (h : SR sec k st af cs es L) {i : Int} (h0 : 0 ≤ i) (h1 : i < (L.length : Int)) (s : Sec) :
    SR sec (k + 1) (st + 1) (afS af) cs (mSet es i (Go.Proofs.Try.opn es i ++ [s])) (L.set i.toNat ((Go.Proofs.Try.rc L i.toNat).1, (Go.Proofs.Try.rc L i.toNat).2.1, (Go.Proofs.Try.rc L i.toNat).2.2 ++ [s])) := by
  obtain ⟨a, b, c, d⟩ := h.step
  refine ⟨h.r.write h0 h1 s, a, b, c, d, by rw [List.length_set]; exact h.len, fun c hc => ?_⟩
  rcases List.mem_or_eq_of_mem_set hc with hm | rfl
  · exact Nat.le_succ_of_le (h.ol c hm)
  · have := h.rc (show i.toNat < L.length by omega)
    simp only [List.length_append, List.length_singleton]
    omega
theorem syR_len (c : RC) : (syR c).2.2.length = 0 := by rw [syR_open]; rfl
theorem SR.sync {sec k : Nat} {st af : Int} {cs : List Cel} {es : MT} {L : List RC} (h : SR sec k st af cs es L) : SR sec (k + 1) (st + 1) (afS af) (syncC es cs) [] (L.map syR) := by
  obtain ⟨a, b, c, d⟩ := h.step
  refine ⟨h.r.sync, a, b, c, d, by rw [List.length_map]; exact h.len, fun c hc => ?_⟩
  obtain ⟨c0, _, rfl⟩ := List.mem_map.1 hc
  rw [syR_len]; exact Nat.zero_le _
theorem SR.put {sec k : Nat} {st af : Int} {cs : List Cel} {es : MT} {L : List RC} (h : SR sec k st af cs es L) {i : Int} (h0 : 0 ≤ i) (h1 : i < (L.length : Int)) (s : Sec) (b : Bool) (hz : b = true → s = Arr.zero 64) :
    SR sec k st af (cs.set i.toNat (s, b)) es (L.set i.toNat (s, b, (Go.Proofs.Try.rc L i.toNat).2.2)) := by
  refine ⟨h.r.put h0 h1 s b hz, h.s0, h.s1, h.a0, h.a1, by rw [List.length_set]; exact h.len, fun c hc => ?_⟩
  rcases List.mem_or_eq_of_mem_set hc with hm | rfl
  · exact h.ol c hm
  · exact h.rc (by omega)
theorem SR.crash {sec k : Nat} {st af : Int} {cs : List Cel} {es : MT} {L : List RC} (h : SR sec k st af cs es L) (keep : List Int) : SR sec (k + 1) 0 (-1) (crashL es cs keep 0 (srt (es.map (·.1))) cs) [] (crG keep 0 L) := by
  refine ⟨h.r.crash keep, by omega, by omega, by omega, by omega, by rw [crG_length]; exact h.len, fun c hc => ?_⟩
  rw [crG_open 0 L c hc]; exact Nat.zero_le _
theorem SR.arm {sec k : Nat} {st af : Int} {cs : List Cel} {es : MT} {L : List RC} (h : SR sec k st af cs es L) {n : Int} (h1 : n ≤ 9223372036854775807) : SR sec k st (max n (-1)) cs es L :=
  ⟨h.r, h.s0, h.s1, by omega, by omega, h.len, h.ol⟩
end Go.Proofs.Try
