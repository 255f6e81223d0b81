/- The disk: what its calls return, in plain Lean. -/
import Derived.Test.YtogggngebjcpmaaD8
import Derived.Test.YtogggngebjcpmaaYB
set_option linter.all false
set_option linter.unusedSimpArgs false
set_option linter.unusedVariables false
namespace Go.Proofs.Try
open Go.Eng Go.RowKit
abbrev Sec := Arr 64
abbrev Cel := Sec × Bool
abbrev MT := List (Int × List Sec)

theorem check_eq {N : Nat} {i st af : Int} {de : Bool} {cs : List Cel} {es : MT} : G_disk_Disk_check N i st af de cs es = some (if de = true then 12 else if i < 0 ∨ (cs.length : Int) ≤ i then 1 else 0, st, af, de, cs, es) := by
  unfold G_disk_Disk_check
  cases de with
  | true => simp
  | false =>
    by_cases h : i < 0
    · simp [h]
    · by_cases h2 : (cs.length : Int) ≤ i
      · simp [h, h2]
      · simp [h, h2]
theorem step_eq {N : Nat} {st af : Int} {de : Bool} {cs : List Cel} {es : MT} (h1 : -1 ≤ af) (h2 : af ≤ 9223372036854775807) (h3 : 0 ≤ st) (h4 : st ≤ 1000) :
    G_disk_Disk_step N st af de cs es = some (if af = 0 then (12, st, af, true, cs, es) else (0, st + 1, if af > 0 then af - 1 else af, de, cs, es)) := by
  unfold G_disk_Disk_step
  by_cases h : af = 0
  · subst h; simp
  · rw [show (af == 0) = false by simpa using h]
    by_cases h5 : af > 0
    · simp [h5, h]
      rw [q_ck (by omega) (by omega)]
      simp
      rw [q_ck (by omega) (by omega)]
    · simp [h5, h]
      rw [q_ck (by omega) (by omega)]

section
variable {α β : Type} [DecidableEq α]
theorem mGet_set (es : List (α × β)) (k : α) (v : β) (j : α) : mGet (mSet es k v) j = if j = k then some v else mGet es j := by
  induction es with
  | nil => simp only [mSet, mGet]; split <;> simp_all [eq_comm]
  | cons e es ih =>
    unfold mSet
    split
    · rename_i h
      simp only [mGet]
      split <;> rename_i h2
      · rw [if_pos h2.symm]
      · rw [if_neg (fun h3 => h2 h3.symm)]
        rw [if_neg (fun h3 => h2 (by rw [← h, h3]))]
    · rename_i h
      simp only [mGet, ih]
      split <;> rename_i h2
      · rw [if_neg (fun h3 => h (by rw [h2, h3]))]
      · rfl
theorem mKeys_set (es : List (α × β)) (k : α) (v : β) : (mSet es k v).map (·.1) = if k ∈ es.map (·.1) then es.map (·.1) else es.map (·.1) ++ [k] := by
  induction es with
  | nil => simp [mSet]
  | cons e es ih =>
    unfold mSet
    split
    · rename_i h; subst h; simp
    · rename_i h
      simp only [List.map_cons, ih, List.mem_cons]
      by_cases h2 : k ∈ es.map (·.1)
      · rw [if_pos h2, if_pos (.inr h2)]
      · rw [if_neg h2, if_neg (fun h3 => h3.elim (fun h4 => h h4.symm) h2)]; rfl
theorem mGet_none {es : List (α × β)} {k : α} : mGet es k = none ↔ k ∉ es.map (·.1) := by
  induction es with
  | nil => simp [mGet]
  | cons e es ih =>
    simp only [mGet, List.map_cons, List.mem_cons, not_or]
    split
    · rename_i h; simp [h]
    · rename_i h; rw [ih]; exact ⟨fun h2 => ⟨fun h3 => h h3.symm, h2⟩, fun h2 => h2.2⟩
theorem mKeys_del (es : List (α × β)) (k : α) : (mDel es k).map (·.1) = (es.map (·.1)).erase k := by
  induction es with
  | nil => rfl
  | cons e es ih =>
    unfold mDel
    split
    · rename_i h; subst h; simp
    · rename_i h
      rw [List.map_cons, List.map_cons, List.erase_cons_tail (by simpa using h), ih]
theorem mGet_del {es : List (α × β)} (hn : (es.map (·.1)).Nodup) (k j : α) : mGet (mDel es k) j = if j = k then none else mGet es j := by
  induction es with
  | nil => simp [mDel, mGet]
  | cons e es ih =>
    have hn' := List.nodup_cons.1 (show (e.1 :: es.map (·.1)).Nodup from hn)
    unfold mDel
    split
    · rename_i h
      subst h
      simp only [mGet]
      split <;> rename_i h2
      · subst h2; exact mGet_none.2 hn'.1
      · rw [if_neg (fun h3 => h2 h3.symm)]
    · rename_i h
      simp only [mGet, ih hn'.2]
      split <;> rename_i h2
      · rw [if_neg (fun h3 => h (by rw [h2, h3]))]
      · rfl
theorem kDel_not {l : List α} {k : α} (h : k ∉ l) : kDel l k = l := by
  induction l with
  | nil => rfl
  | cons x l ih =>
    have h' := not_or.1 (fun e => h (List.mem_cons.2 e))
    unfold kDel
    rw [if_neg (fun e => h'.1 e.symm), ih h'.2]
end
end Go.Proofs.Try
set_option synthInstance.maxSize 4096
set_option synthInstance.maxHeartbeats 400000
namespace Go.Proofs.Try
open Go.Eng Go.RowKit

theorem perm_erase {α : Type} : ∀ {l : List α} {j : Nat} {k : α}, l[j]? = some k → (k :: l.eraseIdx j).Perm l
  | [], _, _, h => by simp at h
  | x :: l, 0, k, h => by simp at h; subst h; exact .refl _
  | x :: l, j + 1, k, h => by
    have h : l[j]? = some k := by simpa using h
    exact (List.Perm.swap x k _).trans ((perm_erase h).cons x)
theorem srt_length (l : List Int) : (srt l).length = l.length := (srt_perm l).length_eq

theorem sectors_loop {N : Nat} {st af : Int} {de : Bool} {cs : List Cel} {es : MT} : ∀ (m : Nat) (acc rem : List Int), rem.length < m → (∀ k ∈ rem, k ∈ es.map (·.1)) → acc.length + rem.length ≤ 1000 →
    L_disk_Disk_sectors_0 N m st af de cs es rem acc = some (st, af, de, cs, es, srt (acc ++ rem))
  | 0, _, _, h, _, _ => absurd h (Nat.not_lt_zero _)
  | m + 1, acc, rem, h, hk, hl => by
    show B_disk_Disk_sectors_0 N (L_disk_Disk_sectors_0 N m) st af de cs es rem acc = _
    unfold B_disk_Disk_sectors_0
    refine q_nx (fun e => ?_) (fun j k hj => ?_)
    · subst e
      rw [List.append_nil]
      unfold G_slices_Sort_int_int
      rw [if_pos (by omega)]
      simp only [q_gl, q_bd]
      rw [q_glT (srt_length acc).symm]
    · have hp := perm_erase hj
      have hkm := hk k (List.mem_of_getElem? hj)
      have hlr := hp.length_eq
      simp only [List.length_cons] at hlr
      obtain ⟨v, hv⟩ := Option.ne_none_iff_exists'.1 (fun e => mGet_none.1 e hkm)
      rw [hv]
      simp only [q_gl, q_bd]
      rw [q_gdT (by simp only [List.length_singleton]; omega)]
      rw [sectors_loop m (acc ++ [k]) (rem.eraseIdx j) (by omega) (fun x hx => hk x (hp.mem_iff.1 (List.mem_cons_of_mem _ hx))) (by simp; omega)]
      rw [srt_of_perm (show (acc ++ [k] ++ rem.eraseIdx j).Perm (acc ++ rem) by rw [List.append_assoc]; exact hp.append_left acc)]
theorem sectors_eq {N : Nat} {st af : Int} {de : Bool} {cs : List Cel} {es : MT} (hN : es.length < N) (hl : es.length ≤ 1000) : G_disk_Disk_sectors N st af de cs es = some (st, af, de, cs, es, srt (es.map (·.1))) := by
  unfold G_disk_Disk_sectors
  rw [q_gl, sectors_loop N [] (es.map (·.1)) (by simpa using hN) (fun _ h => h) (by simpa using hl), List.nil_append]

def syncC (es : MT) (cs : List Cel) : List Cel := cs.mapIdx fun i c => match mGet es (i : Int) with
  | some l => match l.getLast? with
    | some s => (s, false)
    | none => c
  | none => c
theorem sync_loop {st af : Int} {de : Bool} : ∀ (m : Nat) (es : MT) (rem : List Int) (cs : List Cel), rem.length < m → rem.Perm (es.map (·.1)) → (es.map (·.1)).Nodup →
    (∀ k ∈ es.map (·.1), 0 ≤ k ∧ k < (cs.length : Int)) → (∀ k l, mGet es k = some l → l ≠ [] ∧ l.length ≤ 1000) →
    L_disk_Disk_Sync_0 m st af de es rem cs = some (0, st, af, de, syncC es cs, [])
  | 0, _, _, _, h, _, _, _, _ => absurd h (Nat.not_lt_zero _)
  | m + 1, es, rem, cs, h, hp, hn, hr, hl => by
    show B_disk_Disk_Sync_0 (L_disk_Disk_Sync_0 m) st af de es rem cs = _
    unfold B_disk_Disk_Sync_0
    refine q_nx (fun e => ?_) (fun j k hj => ?_)
    · subst e
      have : es = [] := List.map_eq_nil_iff.1 (List.nil_perm.1 hp)
      subst this
      rw [q_gl]
      simp [syncC, mGet]
      refine (List.ext_getElem? fun i => ?_).symm
      simp
    · have hpe := perm_erase hj
      have hkm : k ∈ es.map (·.1) := hp.mem_iff.1 (List.mem_of_getElem? hj)
      obtain ⟨v, hv⟩ := Option.ne_none_iff_exists'.1 (fun e => mGet_none.1 e hkm)
      obtain ⟨hv0, hv1⟩ := hl k v hv
      obtain ⟨k0, k1⟩ := hr k hkm
      have hlast : v[v.length - 1]? = some (v.getLast hv0) := by rw [← List.getLast?_eq_getElem?, List.getLast?_eq_getLast hv0]
      have hpos : 0 < v.length := List.length_pos_iff.2 hv0
      have hrn : rem.Nodup := hp.nodup_iff.2 hn
      have hrn2 : (k :: rem.eraseIdx j).Nodup := hpe.nodup_iff.2 hrn
      rw [hv]
      simp only [q_bd]
      rw [q_ck (by omega) (by omega)]
      rw [show (v.length : Int) - 1 = ((v.length - 1 : Nat) : Int) by omega, q_get hlast]
      rw [q_gdT k0, q_gdT k1, q_gn (List.getElem?_eq_getElem (show k.toNat < cs.length by omega))]
      rw [q_glT (List.length_set).symm]
      rw [kDel_not (List.nodup_cons.1 hrn2).1]
      have hlen := hpe.length_eq
      simp only [List.length_cons] at hlen
      have hk' : (mDel es k).map (·.1) = (es.map (·.1)).erase k := mKeys_del es k
      have hp' : (rem.eraseIdx j).Perm ((mDel es k).map (·.1)) := by
        rw [hk']
        have := (hpe.trans hp).erase k
        simpa using this
      rw [sync_loop m (mDel es k) (rem.eraseIdx j) _ (by omega) hp' (by rw [hk']; exact hn.erase k) (fun x hx => by
        rw [hk'] at hx
        rw [List.length_set]
        exact hr x (List.mem_of_mem_erase hx)) (fun x l hx => by
        rw [mGet_del hn] at hx
        split at hx
        · cases hx
        · exact hl x l hx)]
      congr 6
      apply List.ext_getElem?
      intro i
      simp only [syncC, List.getElem?_mapIdx, List.getElem?_set, mGet_del hn]
      by_cases hik : k.toNat = i
      · subst hik
        have hlt : k.toNat < cs.length := by omega
        rw [if_pos rfl, if_pos (show ((k.toNat : Nat) : Int) = k by omega)]
        rw [List.getElem?_eq_getElem hlt]
        simp only [hlt, if_true, Option.map_some]
        rw [show ((k.toNat : Nat) : Int) = k by omega, hv]
        simp only [List.getLast?_eq_getLast hv0]
      · rw [if_neg hik, if_neg (show ¬ ((i : Nat) : Int) = k by omega)]
end Go.Proofs.Try
set_option synthInstance.maxSize 4096
set_option synthInstance.maxHeartbeats 400000
namespace Go.Proofs.Try
open Go.Eng Go.RowKit

theorem mul_tab : (List.range 1001).all (fun n => decide (G_bits_Mul 0 1 (n : Int) = some (0, (n : Int)))) = true := by kernel_rfl
theorem mul_1 {N n : Nat} (h : n ≤ 1000) : G_bits_Mul N 1 (n : Int) = some (0, (n : Int)) := by
  have := List.all_eq_true.1 mul_tab n (List.mem_range.2 (by omega))
  exact of_decide_eq_true this

theorem cpy_first {x : Int} {n : Nat} : cpyL (List.replicate n (0 : Int)) 0 n [x] = if n = 0 then [] else x :: List.replicate (n - 1) 0 := by
  cases n with
  | zero => rfl
  | succ n => simp [cpyL]
theorem repeat_loop {x : Int} {n : Nat} (hn : n ≤ 1000) : ∀ (m a : Nat), 0 < a → a ≤ n → n - a < m →
    L_slices_Repeat_int_int_0 m (a : Int) (List.replicate a x ++ List.replicate (n - a) 0) = some (List.replicate n x)
  | 0, _, _, _, h => absurd h (Nat.not_lt_zero _)
  | m + 1, a, h0, ha, h => by
    show B_slices_Repeat_int_int_0 (L_slices_Repeat_int_int_0 m) (a : Int) _ = _
    unfold B_slices_Repeat_int_int_0
    have hlen : (List.replicate a x ++ List.replicate (n - a) (0 : Int)).length = n := by simp; omega
    by_cases hlt : a < n
    · rw [hlen, show decide ((a : Int) < (n : Int)) = true by simpa using hlt, q_if1]
      rw [q_gdT (by omega), Int.toNat_natCast, q_gdT (by omega), q_gdT (by omega), q_gdT (by omega), q_gdT (by omega), q_gdT (by omega), q_gdT (by omega)]
      have e1 : List.take a (List.drop 0 (List.replicate a x ++ List.replicate (n - a) (0 : Int))) = List.replicate a x := by simp
      have e2 : cpyL (List.replicate a x ++ List.replicate (n - a) (0 : Int)) a (n - a) (List.replicate a x) = List.replicate (a + min a (n - a)) x ++ List.replicate (n - (a + min a (n - a))) 0 := by
        simp only [cpyL, List.length_replicate]
        rw [List.take_append_of_le_length (by simp), List.take_of_length_le (by simp), List.take_replicate, List.drop_append]
        rw [List.drop_replicate, List.drop_replicate, List.length_replicate]
        rw [List.replicate_append_replicate, show a - (a + min a (n - a)) = 0 by omega, List.replicate_zero, List.nil_append]
        congr 2
        · omega
        · omega
      rw [e1, e2, List.length_replicate, q_ck (by omega) (by omega), show ((a : Int) + ((min a (n - a) : Nat) : Int)) = ((a + min a (n - a) : Nat) : Int) by omega]
      rw [q_glT (by simp; omega)]
      exact repeat_loop hn m _ (by omega) (by omega) (by omega)
    · rw [hlen, show decide ((a : Int) < (n : Int)) = false by simpa using hlt, q_if0]
      rw [q_glT hlen.symm, show n = a by omega]
      simp
theorem repeat_eq {N : Nat} {x : Int} {n : Nat} (hn : n ≤ 1000) (hN : n < N) : G_slices_Repeat_int_int N [x] (n : Int) = some (List.replicate n x) := by
  unfold G_slices_Repeat_int_int
  rw [show decide ((n : Int) < 0) = false by simp, q_if0]
  have hw : IntKind.wrap .u64 (n : Int) = n := by rw [IntKind.wrap_u64]; omega
  rw [show IntKind.wrap .u64 (([x].length : Nat) : Int) = 1 by rw [List.length_singleton]; decide, hw, mul_1 hn]
  simp only [q_bd]
  rw [show decide ((0 : Int) > 0) = false from rfl, q_if0]
  simp only [q_bd]
  rw [show decide ((n : Int) > 9223372036854775807) = false by simp; omega, q_if0, q_wrap (by omega) (by omega), q_gdT (by omega), q_gdT (by omega), q_gdT (by omega), q_gdT (by omega), Int.toNat_natCast,
    q_gdT (by simp), q_glT (by rw [cpy_first]; split <;> simp <;> omega), cpy_first]
  by_cases h0 : n = 0
  · subst h0
    cases N with
    | zero => omega
    | succ N =>
      rw [if_pos rfl]
      show B_slices_Repeat_int_int_0 (L_slices_Repeat_int_int_0 N) ((min [x].length 0 : Nat) : Int) [] = _
      simp [B_slices_Repeat_int_int_0]
      rfl
  · rw [if_neg h0]
    have := repeat_loop (x := x) hn N 1 (by omega) (by omega) (by omega)
    rw [show ((min [x].length n : Nat) : Int) = ((1 : Nat) : Int) by simp; omega]
    simpa using this

def opn (es : MT) (k : Int) : List Sec := (mGet es k).getD []
def openL (es : MT) (ks : List Int) : List Int := ks.flatMap fun k => List.replicate (opn es k).length k
theorem open_loop {N : Nat} {st af : Int} {de : Bool} {cs : List Cel} {es : MT} {ks : List Int} (hb : ∀ k, (opn es k).length ≤ 1000 ∧ (opn es k).length < N) (hk : ks.length ≤ 1000) : ∀ (m i : Nat) (acc : List Int), i ≤ ks.length → ks.length - i < m → acc.length ≤ i * 1000 →
    L_disk_Disk_Open_0 N m (ks.length : Nat) (i : Nat) st af de cs es acc ks = some (st, af, de, cs, es, acc ++ openL es (ks.drop i))
  | 0, _, _, _, h, _ => absurd h (Nat.not_lt_zero _)
  | m + 1, i, acc, hi, h, ha => by
    show B_disk_Disk_Open_0 N (L_disk_Disk_Open_0 N m) _ _ st af de cs es acc ks = _
    unfold B_disk_Disk_Open_0
    by_cases hlt : i < ks.length
    · rw [show decide ((i : Int) < (ks.length : Int)) = true by simpa using hlt, q_if1, q_gdT (by omega), q_gdT (by omega), Int.toNat_natCast, q_gn (List.getElem?_eq_getElem hlt)]
      have hbk := hb ks[i]
      rw [show (((mGet es ks[i]).getD ([] : List Sec)).length) = (opn es ks[i]).length from rfl, repeat_eq hbk.1 hbk.2]
      simp only [q_bd, q_gl, List.length_replicate]
      rw [q_gdT (by omega), q_ck (by omega) (by omega)]
      rw [show (i : Int) + 1 = ((i + 1 : Nat) : Int) by omega, open_loop hb hk m (i + 1) _ (by omega) (by omega) (by simp; omega)]
      rw [openL, openL, List.drop_eq_getElem_cons hlt, List.flatMap_cons, List.append_assoc]
    · rw [show decide ((i : Int) < (ks.length : Int)) = false by simpa using hlt, q_if0]
      simp only [q_gl]
      rw [List.drop_eq_nil_of_le (by omega)]
      simp [openL]
theorem open_eq {N : Nat} {st af : Int} {de : Bool} {cs : List Cel} {es : MT} (hb : ∀ k, (opn es k).length ≤ 1000 ∧ (opn es k).length < N) (hN : es.length < N) (hl : es.length ≤ 1000) :
    G_disk_Disk_Open N st af de cs es = some (st, af, de, cs, es, openL es (srt (es.map (·.1)))) := by
  unfold G_disk_Disk_Open
  rw [q_gl, sectors_eq hN hl]
  simp only [q_bd, q_gl]
  have hs : (srt (es.map (·.1))).length = es.length := by rw [srt_length, List.length_map]
  have := open_loop (N := N) (st := st) (af := af) (de := de) (cs := cs) (es := es) (ks := srt (es.map (·.1))) hb (by omega) N 0 [] (by omega) (by omega) (by simp)
  rw [List.drop_zero, List.nil_append] at this
  exact this
end Go.Proofs.Try
set_option synthInstance.maxSize 4096
set_option synthInstance.maxHeartbeats 400000
namespace Go.Proofs.Try
open Go.Eng Go.RowKit

def tear (a old : Sec) : Sec := ⟨a.l.take 32 ++ old.l.drop 32, by rw [List.length_append, List.length_take, List.length_drop, a.len, old.len]; rfl⟩
def way (n x : Int) : Int := ((x.tmod (n + 3)) + n + 3).tmod (n + 3)
theorem way_lt {n x : Int} (hn : 0 ≤ n) : 0 ≤ way n x ∧ way n x < n + 3 := by
  have h1 := Int.tmod_lt_of_pos x (show (0 : Int) < n + 3 by omega)
  have h2 : -(n + 3) < x.tmod (n + 3) := by
    rcases Int.lt_or_le x 0 with h | h
    · have := Int.tmod_lt_of_pos (-x) (show (0 : Int) < n + 3 by omega)
      rw [Int.neg_tmod] at this
      omega
    · have := Int.tmod_nonneg (n + 3) h
      omega
  exact ⟨Int.tmod_nonneg _ (by omega), Int.tmod_lt_of_pos _ (by omega)⟩
theorem tmod_in {n x : Int} (hn : 0 ≤ n) : -(n + 3) < x.tmod (n + 3) ∧ x.tmod (n + 3) < n + 3 := by
  have h1 := Int.tmod_lt_of_pos x (show (0 : Int) < n + 3 by omega)
  refine ⟨?_, h1⟩
  rcases Int.lt_or_le x 0 with h | h
  · have := Int.tmod_lt_of_pos (-x) (show (0 : Int) < n + 3 by omega)
    rw [Int.neg_tmod] at this
    omega
  · have := Int.tmod_nonneg (n + 3) h
    omega
def at_ (l : List Sec) (i : Nat) : Sec := l.getD i (Arr.zero 64)
theorem at_get {l : List Sec} {i : Nat} (h : i < l.length) : l[i]? = some (at_ l i) := by
  rw [at_, List.getD, List.getElem?_eq_getElem h]; rfl
def before (c : Sec) (l : List Sec) : Sec := if 1 < l.length then at_ l (l.length - 2) else c
def foundM (c : Cel) (l : List Sec) (x : Int) : Cel :=
  if way l.length x = 0 then c else if way l.length x ≤ l.length then (at_ l (way l.length x - 1).toNat, false)
  else if way l.length x = l.length + 1 then (Arr.zero 64, true) else (tear (at_ l (l.length - 1)) (before c.1 l), false)
theorem tear_self {a b : Sec} (h : a.l = b.l) : tear b a = b := by
  apply Arr.ext
  show b.l.take 32 ++ a.l.drop 32 = b.l
  rw [h, List.take_append_drop]
theorem found_eq {N : Nat} {c : Cel} {l : List Sec} {x : Int} (hl : 0 < l.length) (hn : l.length ≤ 1000) : G_disk_found N c l x = some (foundM c l x) := by
  unfold G_disk_found
  have h3 := tmod_in (n := l.length) (x := x) (by omega)
  rw [q_ck (by omega) (by omega), q_gdT (by omega), q_ck (by omega) (by omega), q_ck (by omega) (by omega), q_ck (by omega) (by omega), q_gdT (by omega)]
  have hw : (((x.tmod ((l.length : Int) + 3)) + (l.length : Int)) + 3).tmod ((l.length : Int) + 3) = way l.length x := rfl
  have hb := way_lt (n := l.length) (x := x) (by omega)
  rw [hw]
  unfold foundM
  revert hb
  generalize way l.length x = r
  intro hb
  by_cases h0 : r = 0
  · subst h0; simp
  · rw [show (r == 0) = false by simpa using h0, q_if0, if_neg h0]
    by_cases h1 : r ≤ (l.length : Int)
    · rw [show decide (r ≤ (l.length : Int)) = true by simpa using h1, q_if1, if_pos h1, q_ck (by omega) (by omega), q_geti (by omega) (at_get (by omega))]
    · rw [show decide (r ≤ (l.length : Int)) = false by simpa using h1, q_if0, if_neg h1, q_ck (by omega) (by omega)]
      by_cases h2 : r = (l.length : Int) + 1
      · rw [show (r == (l.length : Int) + 1) = true by simpa using h2, q_if1, if_pos h2]
      · rw [show (r == (l.length : Int) + 1) = false by simpa using h2, q_if0, if_neg h2, q_ck (by omega) (by omega)]
        rw [show (l.length : Int) - 1 = ((l.length - 1 : Nat) : Int) by omega, q_get (at_get (by omega))]
        have key : ∀ (b a : Sec), (if? ((b.l == a.l)) (some (a, false)) (some ((Arr.put a 32 (List.take (Min.min (cutA b.l 32 (64 - 32) 64).length (64 - 32)) (cutA b.l 32 (64 - 32) 64))), false))) = some (tear a b, false) := by
          intro b a
          by_cases hab : b.l = a.l
          · rw [show (b.l == a.l) = true by simpa using hab, q_if1, tear_self hab]
          · rw [show (b.l == a.l) = false by simpa using hab, q_if0]
            congr 2
            apply Arr.ext
            have hc : cutA b.l 32 (64 - 32) 64 = b.l.drop 32 := by
              rw [cutA_eq b.len]
              exact List.take_of_length_le (by rw [List.length_drop, b.len]; decide)
            have hlen : (b.l.drop 32).length = 32 := by rw [List.length_drop, b.len]
            rw [hc, hlen, List.take_of_length_le (by rw [hlen]; decide), Arr.l_put (by rw [hlen]; decide), hlen]
            have e : a.l.drop (32 + 32) = [] := List.drop_eq_nil_of_le (by rw [a.len]; decide)
            rw [e, List.append_nil]
            rfl
        by_cases h5 : 1 < l.length
        · rw [show decide ((l.length : Int) > 1) = true by simp; omega, q_if1, q_ck (by omega) (by omega), show (l.length : Int) - 2 = ((l.length - 2 : Nat) : Int) by omega, q_get (at_get (by omega))]
          simp only [q_bd]
          rw [key, before, if_pos h5]
        · rw [show decide ((l.length : Int) > 1) = false by simp; omega, q_if0]
          simp only [q_bd]
          rw [key, before, if_neg h5]
end Go.Proofs.Try
set_option synthInstance.maxSize 4096
set_option synthInstance.maxHeartbeats 400000
set_option maxRecDepth 8000
namespace Go.Proofs.Try
open Go.Eng Go.RowKit

def errOf (de : Bool) (i : Int) (n : Nat) : Int := if de = true then 12 else if i < 0 ∨ (n : Int) ≤ i then 1 else 0
theorem check_e {N : Nat} {i st af : Int} {de : Bool} {cs : List Cel} {es : MT} : G_disk_Disk_check N i st af de cs es = some (errOf de i cs.length, st, af, de, cs, es) := check_eq
theorem errOf_0 {de : Bool} {i : Int} {n : Nat} (h : errOf de i n = 0) : de = false ∧ 0 ≤ i ∧ i < (n : Int) := by
  unfold errOf at h
  split at h
  · cases h
  · rename_i h1
    split at h
    · cases h
    · rename_i h2
      exact ⟨by simpa using h1, by omega, by omega⟩
theorem ne0 {e : Int} (h : e ≠ 0) : (e == 0) = false ∧ (e != 0) = true := by simp [h]
theorem write_eq {N : Nat} {i st af : Int} {s : Sec} {de : Bool} {cs : List Cel} {es : MT} (h1 : -1 ≤ af) (h2 : af ≤ 9223372036854775807) (h3 : 0 ≤ st) (h4 : st ≤ 1000) (h5 : (opn es i).length ≤ 1000) :
    G_disk_Disk_Write N i s st af de cs es = some (if errOf de i cs.length ≠ 0 then (errOf de i cs.length, st, af, de, cs, es) else if af = 0 then (12, st, af, true, cs, es) else (0, st + 1, if af > 0 then af - 1 else af, de, cs, mSet es i (opn es i ++ [s]))) := by
  unfold G_disk_Disk_Write
  rw [q_gl, check_e]
  simp only [q_bd]
  generalize errOf de i cs.length = e
  by_cases h : e = 0
  · subst h
    simp only [show ((0 : Int) == 0) = true from rfl, q_if1, q_gl, step_eq h1 h2 h3 h4, q_bd]
    by_cases h0 : af = 0
    · subst h0
      simp
    · simp only [if_neg h0, ne_eq, not_true_eq_false, if_false]
      simp only [show ((0 : Int) == 0) = true from rfl, q_if1, q_gd, q_gd1]
      rw [show (mGet es i).getD ([] : List Sec) = opn es i from rfl, q_gdT (by simp; omega)]
      simp only [q_bd]
  · simp only [(ne0 h).1, q_if0, q_gl, q_bd]
    rw [if_pos h]
def readM (es : MT) (cs : List Cel) (i : Int) : Sec × Int := if opn es i = [] then match cs[i.toNat]? with
    | some c => if c.2 = true then (Arr.zero 64, 14) else (c.1, 0)
    | none => (Arr.zero 64, 0) else (at_ (opn es i) ((opn es i).length - 1), 0)
theorem read_eq {N : Nat} {i st af : Int} {de : Bool} {cs : List Cel} {es : MT} (h5 : (opn es i).length ≤ 1000) :
    G_disk_Disk_Read N i st af de cs es = some (if errOf de i cs.length ≠ 0 then (Arr.zero 64, errOf de i cs.length, st, af, de, cs, es) else ((readM es cs i).1, (readM es cs i).2, st, af, de, cs, es)) := by
  unfold G_disk_Disk_Read
  rw [q_gl, check_e]
  simp only [q_bd]
  generalize he : errOf de i cs.length = e
  by_cases h : e = 0
  · subst h
    obtain ⟨rfl, hi0, hi1⟩ := errOf_0 he
    simp only [show ((0 : Int) != 0) = false from rfl, q_if0]
    rw [show (mGet es i).getD ([] : List Sec) = opn es i from rfl, if_neg (by simp)]
    unfold readM
    by_cases ho : opn es i = []
    · rw [ho, show decide (((([] : List Sec).length : Nat) : Int) > 0) = false from rfl, q_if0, q_gdT hi0, q_gdT hi1, if_pos rfl]
      have hc : cs[i.toNat]? = some cs[i.toNat] := List.getElem?_eq_getElem (by omega)
      rw [q_gn hc, hc]
      cases hb : cs[i.toNat].2 with
      | true => simp [hb]
      | false =>
        simp only [q_if0, q_gl]
        rw [q_gdT hi0, q_gdT hi1, q_gn hc]
        simp [hb]
    · have hp : 0 < (opn es i).length := List.length_pos_iff.2 ho
      rw [show decide (((opn es i).length : Int) > 0) = true by simp; omega, q_if1, q_ck (by omega) (by omega), show ((opn es i).length : Int) - 1 = (((opn es i).length - 1 : Nat) : Int) by omega, q_get (at_get (by omega))]
      simp only [q_gl]
      rw [if_neg ho]
  · simp only [(ne0 h).2, q_if1, q_gl]
    rw [if_pos h]
theorem rot_eq {N : Nat} {i st af : Int} {de : Bool} {cs : List Cel} {es : MT} :
    G_disk_Disk_Rot N i st af de cs es = some (errOf de i cs.length, st, af, de, if errOf de i cs.length = 0 then cs.set i.toNat (Arr.zero 64, true) else cs, es) := by
  unfold G_disk_Disk_Rot
  rw [q_gl, check_e]
  simp only [q_bd]
  generalize he : errOf de i cs.length = e
  by_cases h : e = 0
  · subst h
    obtain ⟨rfl, hi0, hi1⟩ := errOf_0 he
    simp only [show ((0 : Int) == 0) = true from rfl, q_if1]
    rw [q_gdT hi0, q_gdT hi1, q_gn (List.getElem?_eq_getElem (show i.toNat < cs.length by omega)), q_glT (List.length_set).symm]
    simp
  · simp only [(ne0 h).1, q_if0, q_gl, q_bd]
    rw [if_neg h]
theorem arm_eq {N : Nat} {n st af : Int} {de : Bool} {cs : List Cel} {es : MT} : G_disk_Disk_Arm N n st af de cs es = some (st, max n (-1), de, cs, es) := by
  unfold G_disk_Disk_Arm; rw [q_gl]
theorem size_eq {N : Nat} {st af : Int} {de : Bool} {cs : List Cel} {es : MT} : G_disk_Disk_Size N st af de cs es = some ((cs.length : Int), st, af, de, cs, es) := by
  unfold G_disk_Disk_Size; rw [q_gl]
theorem steps_eq {N : Nat} {st af : Int} {de : Bool} {cs : List Cel} {es : MT} : G_disk_Disk_Steps N st af de cs es = some (st, st, af, de, cs, es) := by
  unfold G_disk_Disk_Steps; rw [q_gl]
theorem down_eq {N : Nat} {st af : Int} {de : Bool} {cs : List Cel} {es : MT} : G_disk_Disk_Down N st af de cs es = some (de, st, af, de, cs, es) := by
  unfold G_disk_Disk_Down; rw [q_gl]
theorem new_eq {N : Nat} {n : Int} (h0 : 1 ≤ n) (h1 : n ≤ 65536) : G_disk_New N n = some (.inr (0, -1, false, List.replicate n.toNat (Arr.zero 64, false), [])) := by
  unfold G_disk_New
  rw [show decide (n < 1) = false by simp; omega, q_if0]
  simp only [q_bd]
  rw [show decide (n > 65536) = false by simp; omega, q_if0, q_gdT (by omega), q_gdT (by omega), q_gdT (by omega), q_gdT (by omega), q_glT (by simp)]
theorem new_no {N : Nat} {n : Int} (h : n < 1 ∨ 65536 < n) : G_disk_New N n = some (.inl ()) := by
  unfold G_disk_New
  by_cases h0 : n < 1
  · rw [show decide (n < 1) = true by simpa using h0, q_if1]
    simp
  · rw [show decide (n < 1) = false by simpa using h0, q_if0]
    simp only [q_bd]
    rw [show decide (n > 65536) = true by simp; omega, q_if1]
theorem sync_eq {N : Nat} {st af : Int} {de : Bool} {cs : List Cel} {es : MT} (h1 : -1 ≤ af) (h2 : af ≤ 9223372036854775807) (h3 : 0 ≤ st) (h4 : st ≤ 1000) (hN : es.length < N) (hc : 0 < cs.length)
    (hn : (es.map (·.1)).Nodup) (hr : ∀ k ∈ es.map (·.1), 0 ≤ k ∧ k < (cs.length : Int)) (hl : ∀ k l, mGet es k = some l → l ≠ [] ∧ l.length ≤ 1000) :
    G_disk_Disk_Sync N st af de cs es = some (if de = true then (12, st, af, de, cs, es) else if af = 0 then (12, st, af, true, cs, es) else (0, st + 1, if af > 0 then af - 1 else af, de, syncC es cs, [])) := by
  unfold G_disk_Disk_Sync
  rw [q_gl, check_e]
  simp only [q_bd]
  have he : errOf de 0 cs.length = if de = true then 12 else 0 := by
    unfold errOf
    split
    · rfl
    · rw [if_neg (by omega)]
  rw [he]
  cases de with
  | true => simp
  | false =>
    simp only [Bool.false_eq_true, if_false, show ((0 : Int) == 0) = true from rfl, q_if1, q_gl, step_eq h1 h2 h3 h4, q_bd]
    by_cases h0 : af = 0
    · subst h0
      simp
    · rw [if_neg h0, if_neg h0]
      simp only [show ((0 : Int) != 0) = false from rfl, q_if0, q_gl]
      rw [sync_loop N es _ cs (by simpa using hN) (.refl _) hn hr hl]
end Go.Proofs.Try
set_option synthInstance.maxSize 4096
set_option synthInstance.maxHeartbeats 400000
set_option maxRecDepth 8000
namespace Go.Proofs.Try
open Go.Eng Go.RowKit

def kp (keep : List Int) (j : Nat) : Int := if keep.length = 0 then 0 else keep.getD (j % keep.length) 0
def cel (cs : List Cel) (i : Nat) : Cel := cs.getD i (Arr.zero 64, false)
theorem cel_get {cs : List Cel} {i : Nat} (h : i < cs.length) : cs[i]? = some (cel cs i) := by
  rw [cel, List.getD, List.getElem?_eq_getElem h]; rfl
def crashL (es : MT) (cs : List Cel) (keep : List Int) : Nat → List Int → List Cel → List Cel
  | _, [], out => out
  | j, k :: ks, out => crashL es cs keep (j + 1) ks (out.set k.toNat (foundM (cel cs k.toNat) (opn es k) (kp keep j)))
theorem crash_loop {N : Nat} {keep ks : List Int} {st af st2 af2 : Int} {de de2 : Bool} {cs : List Cel} {es es2 : MT} (hr : ∀ k ∈ ks, 0 ≤ k ∧ k < (cs.length : Int)) (hl : ∀ k ∈ ks, 0 < (opn es k).length ∧ (opn es k).length ≤ 1000) (hks : ks.length ≤ 1000) :
    ∀ (m j : Nat) (out : List Cel), out.length = cs.length → j ≤ ks.length → ks.length - j < m → L_disk_Disk_Crash_0 N m keep (ks.length : Nat) (j : Nat) st af de st2 af2 de2 ks cs es out es2 = some (st, af, de, st2, af2, de2, cs, es, crashL es cs keep j (ks.drop j) out, es2)
  | 0, _, _, _, _, h => absurd h (Nat.not_lt_zero _)
  | m + 1, j, out, ho, hj, h => by
    show B_disk_Disk_Crash_0 N (L_disk_Disk_Crash_0 N m) keep _ _ st af de st2 af2 de2 ks cs es out es2 = _
    unfold B_disk_Disk_Crash_0
    by_cases hlt : j < ks.length
    · rw [show decide ((j : Int) < (ks.length : Int)) = true by simpa using hlt, q_if1, q_gdT (by omega), q_gdT (by omega), Int.toNat_natCast, q_gn (List.getElem?_eq_getElem hlt)]
      obtain ⟨k0, k1⟩ := hr ks[j] (List.getElem_mem hlt)
      obtain ⟨l0, l1⟩ := hl ks[j] (List.getElem_mem hlt)
      have hx : (if? (decide (((keep.length : Nat) : Int) > 0)) (gd? ((((keep.length : Nat) : Int) ≠ 0)) (get? keep ((Int.tmod (j : Int) ((keep.length : Nat) : Int))) fun x27 => gl? (ks.length) ks (gl? (cs.length) cs (gl? (out.length) out (some (keep, ks[j], x27, ((ks.length : Nat) : Int), (j : Int), st, af, de, st2, af2, de2, ks, cs, es, out, es2))))))
          (gl? (ks.length) ks (gl? (cs.length) cs (gl? (out.length) out (some (keep, ks[j], 0, ((ks.length : Nat) : Int), (j : Int), st, af, de, st2, af2, de2, ks, cs, es, out, es2)))))) = some (keep, ks[j], kp keep j, ((ks.length : Nat) : Int), (j : Int), st, af, de, st2, af2, de2, ks, cs, es, out, es2) := by
        unfold kp
        by_cases hk : keep.length = 0
        · rw [if_pos hk, show decide (((keep.length : Nat) : Int) > 0) = false from decide_eq_false (by omega), q_if0]
          simp only [q_gl]
        · rw [if_neg hk, show decide (((keep.length : Nat) : Int) > 0) = true from decide_eq_true (by omega), q_if1, q_gdT (p := ((keep.length : Nat) : Int) ≠ 0) (by omega)]
          have hm : j % keep.length < keep.length := Nat.mod_lt _ (by omega)
          rw [show Int.tmod (j : Int) (keep.length : Int) = ((j % keep.length : Nat) : Int) from rfl, q_get (List.getElem?_eq_getElem hm)]
          simp only [q_gl]
          rw [List.getD, List.getElem?_eq_getElem hm]
          rfl
      rw [hx]
      simp only [q_bd]
      have hc := cel_get (cs := cs) (i := ks[j].toNat) (by omega)
      rw [q_gdT k0, q_gdT k1, q_gn hc, show (mGet es ks[j]).getD ([] : List Sec) = opn es ks[j] from rfl, found_eq l0 l1]
      simp only [q_bd]
      rw [q_gdT k0, q_gdT (by omega), q_gn (List.getElem?_eq_getElem (show ks[j].toNat < out.length by omega)), q_ck (by omega) (by omega)]
      simp only [q_gl]
      rw [q_glT (List.length_set).symm, show (j : Int) + 1 = ((j + 1 : Nat) : Int) by omega, crash_loop hr hl hks m (j + 1) _ (by rw [List.length_set]; exact ho) (by omega) (by omega), List.drop_eq_getElem_cons hlt]
      rfl
    · rw [show decide ((j : Int) < (ks.length : Int)) = false by simpa using hlt, q_if0]
      simp only [q_gl]
      rw [List.drop_eq_nil_of_le (by omega)]
      rfl
theorem cpy_all {α : Type} {xs ys : List α} (h : xs.length = ys.length) : cpyL xs 0 xs.length ys = ys := by
  simp only [cpyL, List.take_zero, List.nil_append, h, Nat.min_self, Nat.zero_add, List.take_length]
  rw [← h, List.drop_length, List.append_nil]
theorem crash_eq {N : Nat} {keep : List Int} {st af : Int} {de : Bool} {cs : List Cel} {es : MT} (hc : 0 < cs.length) (hc1 : cs.length ≤ 65536) (hN : es.length < N) (he : es.length ≤ 1000) (hr : ∀ k ∈ es.map (·.1), 0 ≤ k ∧ k < (cs.length : Int)) (hl : ∀ k l, mGet es k = some l → l ≠ [] ∧ l.length ≤ 1000) :
    G_disk_Disk_Crash N keep st af de cs es = some (st, af, de, 0, -1, false, cs, es, crashL es cs keep 0 (srt (es.map (·.1))) cs, []) := by
  unfold G_disk_Disk_Crash
  rw [new_eq (by omega) (by omega)]
  simp only [q_bd, q_smr]
  rw [q_gdT (by omega)]
  simp only [q_gl]
  rw [sectors_eq hN he]
  simp only [q_bd, q_gl]
  have hlen : (List.replicate (cs.length : Int).toNat ((Arr.zero 64 : Sec), false)).length = cs.length := by simp
  have hcp : cpyL (List.replicate (cs.length : Int).toNat ((Arr.zero 64 : Sec), false)) 0 (List.replicate (cs.length : Int).toNat ((Arr.zero 64 : Sec), false)).length cs = cs := cpy_all hlen
  rw [hcp, q_glT hlen]
  have hs : (srt (es.map (·.1))).length = es.length := by rw [srt_length, List.length_map]
  have hm : ∀ k, k ∈ srt (es.map (·.1)) → k ∈ es.map (·.1) := fun k h => (srt_perm _).mem_iff.1 h
  have := crash_loop (N := N) (keep := keep) (ks := srt (es.map (·.1))) (st := st) (af := af) (de := de) (st2 := 0) (af2 := -1) (de2 := false) (cs := cs) (es := es) (es2 := []) (fun k h => hr k (hm k h)) (fun k h => by
    obtain ⟨v, hv⟩ := Option.ne_none_iff_exists'.1 (fun e => mGet_none.1 e (hm k h))
    have := hl k v hv
    rw [opn, hv]
    exact ⟨List.length_pos_iff.2 this.1, this.2⟩) (by omega) N 0 cs rfl (by omega) (by omega)
  rw [List.drop_zero] at this
  exact this
end Go.Proofs.Try
set_option synthInstance.maxSize 4096
set_option synthInstance.maxHeartbeats 400000
set_option maxRecDepth 8000
namespace Go.Proofs.Try
open Go.Eng Go.RowKit
def flipS (s : Sec) (bit : Int) : Sec := Arr.set s (bit.tdiv 8).toNat (bits .xor .u8 (s.l.getD (bit.tdiv 8).toNat 0) (IntKind.wrap .u8 (1 * (2 ^ (bit.tmod 8).toNat))))
def flipC (cs : List Cel) (i : Nat) (bit : Int) : List Cel := if (cel cs i).1.l = (Arr.zero 64).l ∧ (cel cs i).2 = true then cs else cs.set i (flipS (cel cs i).1 bit, (cel cs i).2)
theorem flipC_length {cs : List Cel} {i : Nat} {bit : Int} : (flipC cs i bit).length = cs.length := by
  unfold flipC
  split
  · rfl
  · rw [List.length_set]
theorem bit_in {bit : Int} (h0 : 0 ≤ bit) (h1 : bit < 512) : 0 ≤ bit.tdiv 8 ∧ bit.tdiv 8 < 64 ∧ 0 ≤ bit.tmod 8 ∧ bit.tmod 8 ≤ 8 := by
  rw [Int.tdiv_eq_ediv_of_nonneg h0, Int.tmod_eq_emod_of_nonneg h0]
  omega
theorem flip_eq {N : Nat} {i bit st af : Int} {de : Bool} {cs : List Cel} {es : MT} :
    G_disk_Disk_Flip N i bit st af de cs es = some (if errOf de i cs.length ≠ 0 then (errOf de i cs.length, st, af, de, cs, es) else if bit < 0 ∨ 512 ≤ bit then (1, st, af, de, cs, es) else (0, st, af, de, flipC cs i.toNat bit, es)) := by
  unfold G_disk_Disk_Flip
  rw [q_gl, check_e]
  simp only [q_bd]
  generalize he : errOf de i cs.length = e
  by_cases h : e = 0
  · subst h
    obtain ⟨rfl, hi0, hi1⟩ := errOf_0 he
    simp only [show ((0 : Int) != 0) = false from rfl, q_if0, ne_eq, not_true_eq_false, if_false]
    by_cases hb : bit < 0
    · rw [show decide (bit < 0) = true from decide_eq_true hb, q_if1]
      simp only [q_gl, q_bd, q_if1]
      rw [if_pos (.inl hb)]
    · rw [show decide (bit < 0) = false from decide_eq_false hb, q_if0]
      simp only [q_gl, q_bd]
      by_cases hb2 : 512 ≤ bit
      · rw [show decide (bit ≥ 512) = true from decide_eq_true hb2, q_if1, if_pos (.inr hb2)]
      · rw [show decide (bit ≥ 512) = false from decide_eq_false hb2, q_if0, if_neg (by omega)]
        obtain ⟨b0, b1, b2, b3⟩ := bit_in (show 0 ≤ bit by omega) (show bit < 512 by omega)
        have hc := cel_get (cs := cs) (i := i.toNat) (by omega)
        rw [q_gdT hi0, q_gdT hi1, q_gn hc]
        unfold flipC
        have hand : (andS [Sh.s 0] ((cel cs i.toNat).1.l == (Arr.zero 64).l) (andS ([] : List Sh) ((cel cs i.toNat).2 == true) true)) = decide ((cel cs i.toNat).1.l = (Arr.zero 64).l ∧ (cel cs i.toNat).2 = true) := by
          rw [Bool.eq_iff_iff]
          simp [andS]
        rw [hand]
        by_cases hz : (cel cs i.toNat).1.l = (Arr.zero 64).l ∧ (cel cs i.toNat).2 = true
        · rw [decide_eq_true hz, if_pos hz]
          simp only [Bool.not_true, q_if0, q_gl, q_bd]
        · rw [decide_eq_false hz, if_neg hz]
          simp only [Bool.not_false, q_if1]
          have hl : (cel cs i.toNat).1.l[(bit.tdiv 8).toNat]? = some ((cel cs i.toNat).1.l.getD (bit.tdiv 8).toNat 0) := by
            have hlt : (bit.tdiv 8).toNat < (cel cs i.toNat).1.l.length := by rw [(cel cs i.toNat).1.len]; omega
            rw [List.getD, List.getElem?_eq_getElem hlt]; rfl
          rw [q_ck (by omega) (by omega), q_gdT hi0, q_gdT hi1, q_gdT b0, q_gdT (by omega), q_gn hc, q_gn hl, q_gdT b2, q_gdT (show bit.tmod 8 ≤ ((IntKind.bits .u8 : Nat) : Int) from b3), q_gdT hi0, q_gdT hi1, q_gdT b0, q_gdT (by omega), q_gn hc, q_gdT (show (bit.tdiv 8).toNat < 64 by omega), q_glT (List.length_set).symm]
          simp only [q_bd, q_gl]
          rfl
  · simp only [(ne0 h).2, q_if1, q_gl]
    rw [if_pos h]
end Go.Proofs.Try
set_option synthInstance.maxSize 100000000
set_option synthInstance.maxHeartbeats 4000000
set_option maxRecDepth 100000
namespace Go.Proofs.Try
open Go.Eng Go.RowKit

theorem filled_loop {b : Int} {x : Sec} : ∀ (m i : Nat) (y : Sec), i ≤ 64 → 64 - i < m → ∃ v, L_ref09_Filled_0 m b (i : Nat) x y = some v
  | 0, _, _, _, h => absurd h (Nat.not_lt_zero _)
  | m + 1, i, y, hi, h => by
    show ∃ v, B_ref09_Filled_0 (L_ref09_Filled_0 m) b _ x y = some v
    unfold B_ref09_Filled_0
    by_cases hlt : i < 64
    · obtain ⟨v, hv⟩ := filled_loop (b := b) (x := x) m (i + 1) (Arr.set y i (IntKind.wrap .u8 b)) (by omega) (by omega)
      refine ⟨v, ?_⟩
      rw [show decide ((i : Int) < 64) = true from decide_eq_true (by omega), q_if1, q_gdT (by omega), q_gdT (by omega), q_gdT (by omega), q_ck (by omega) (by omega), Int.toNat_natCast]
      exact hv
    · exact ⟨y, by rw [show decide ((i : Int) < 64) = false from decide_eq_false (by omega), q_if0]⟩
theorem filled_ex {N : Nat} (h : 64 < N) (b : Int) : ∃ v, G_ref09_Filled N b = some v := filled_loop N 0 _ (by omega) (by omega)

theorem opn_len {es : MT} {i : Nat} (h : ∀ k l, mGet es k = some l → l ≠ [] ∧ l.length ≤ i) (k : Int) : (opn es k).length ≤ i := by
  unfold opn
  cases hg : mGet es k with
  | none => simp
  | some l => exact (h k l hg).2
theorem opn_nil {es : MT} {i : Nat} (h : ∀ k l, mGet es k = some l → l ≠ [] ∧ l.length ≤ i) {k : Int} (ho : opn es k = []) : k ∉ es.map (·.1) := by
  refine mGet_none.1 ?_
  cases hg : mGet es k with
  | none => rfl
  | some l =>
    unfold opn at ho
    rw [hg] at ho
    exact absurd ho (h k l hg).1
theorem mSet_len {α β : Type} [DecidableEq α] (es : List (α × β)) (k : α) (v : β) : (mSet es k v).length ≤ es.length + 1 := by
  have := congrArg List.length (mKeys_set es k v)
  rw [List.length_map] at this
  rw [this]
  split <;> simp
theorem mKeys_nodup {α β : Type} [DecidableEq α] {es : List (α × β)} (h : (es.map (·.1)).Nodup) (k : α) (v : β) : ((mSet es k v).map (·.1)).Nodup := by
  rw [mKeys_set]
  split
  · exact h
  · rename_i hk
    refine List.nodup_append.2 ⟨h, by simp, fun a ha b hb => ?_⟩
    rw [List.mem_singleton] at hb
    subst hb
    exact fun e => hk (e ▸ ha)

theorem crashL_length {es : MT} {cs : List Cel} {keep : List Int} : ∀ (ks : List Int) (j : Nat) (out : List Cel), (crashL es cs keep j ks out).length = out.length
  | [], _, _ => rfl
  | k :: ks, j, out => by
    unfold crashL
    rw [crashL_length ks, List.length_set]
theorem crashL_get {es : MT} {cs : List Cel} {keep : List Int} {i : Nat} : ∀ (ks : List Int) (j : Nat) (out : List Cel), (∀ k ∈ ks, k.toNat ≠ i) → (crashL es cs keep j ks out)[i]? = out[i]?
  | [], _, _, _ => rfl
  | k :: ks, j, out, h => by
    unfold crashL
    rw [crashL_get ks _ _ (fun x hx => h x (List.mem_cons_of_mem _ hx)), List.getElem?_set_ne (h k (List.mem_cons_self ..))]

end Go.Proofs.Try
