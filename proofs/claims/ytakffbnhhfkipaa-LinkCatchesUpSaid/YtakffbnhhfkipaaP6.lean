/- link: acts on a line; what is delivered is in order. -/
import Derived.Test.YtakffbnhhfkipaaP4d
set_option linter.unusedSimpArgs false
set_option linter.unusedVariables false
namespace Go.Proofs.Try
open Go.Eng

/-! ### Messages and summaries -/
def msg (n : Int) : Str := ([109] : Str) ++ (bytesI [(IntKind.wrap .u8 ((97 + (Int.tmod n 26)))), (IntKind.wrap .u8 ((97 + (Int.tmod (Int.tdiv n 26) 26))))])
def summ (n : Int) : Str := ([115] : Str) ++ msg n
theorem msg_len (n : Int) : (msg n).length = 3 := rfl
theorem summ_len (n : Int) : (summ n).length = 4 := rfl
theorem F46_eq (N : Nat) (n : Int) (h0 : 0 ≤ n) (h1 : n ≤ 2199023255552) : F46 N n = some (msg n) := by
  unfold F46
  rw [Int.tmod_eq_emod_of_nonneg h0, Int.tdiv_eq_ediv_of_nonneg h0, Int.tmod_eq_emod_of_nonneg (by omega : 0 ≤ n / 26)]
  rw [ck_of (by omega) (by omega), ck_of (by omega) (by omega), ck_of (by omega) (by omega), gd_of (by simp [bytesI])]
  unfold msg
  rw [Int.tmod_eq_emod_of_nonneg h0, Int.tdiv_eq_ediv_of_nonneg h0, Int.tmod_eq_emod_of_nonneg (by omega : 0 ≤ n / 26)]
theorem F47_eq (N : Nat) (n : Int) (h0 : 0 ≤ n) (h1 : n ≤ 2199023255552) : F47 N n = some (summ n) := by
  unfold F47
  rw [F46_eq N n h0 h1, bd_some, gd_of (by rw [msg_len]; simp)]; rfl

/-! ### Order -/
def ordFrom : List Frame → Int → Option Int
  | [], n => some n
  | f :: r, n => if f.Sum = true then (if n < f.Seq ∧ f.Body = summ f.Seq then ordFrom r f.Seq else none) else (if f.Seq = n ∧ f.Body = msg f.Seq then ordFrom r (n + 1) else none)
theorem ordFrom_app : ∀ (a b : List Frame) (n : Int), ordFrom (a ++ b) n = (ordFrom a n).bind (ordFrom b)
  | [], b, n => rfl
  | f :: r, b, n => by
    simp only [List.cons_append, ordFrom]
    split
    · split
      · exact ordFrom_app r b _
      · rfl
    · split
      · exact ordFrom_app r b _
      · rfl
theorem ordFrom_len : ∀ {l : List Frame} {n m : Int}, ordFrom l n = some m → n + l.length ≤ m
  | [], n, m, h => by cases h; simp
  | f :: r, n, m, h => by
    simp only [ordFrom] at h
    split at h
    · split at h
      · have := ordFrom_len h; simp only [List.length_cons]; omega
      · cases h
    · split at h
      · have := ordFrom_len h; simp only [List.length_cons]; omega
      · cases h
theorem L29_eq (N : Nat) (w : WLine) (m : Int) (hm : m ≤ 1000) (hnx : m = w.I.Next) : ∀ (n i : Nat) (a : Int), i ≤ w.Delivered.length → w.Delivered.length - i < n → w.Delivered.length ≤ 1000 → 0 ≤ a → ordFrom (w.Delivered.drop i) a = some m → L29_0 N w n a i = some true
  | 0, _, _, _, h, _, _, _ => by omega
  | n + 1, i, a, hi, h, hl, h0, ho => by
    rw [L29_0, if_dec]
    by_cases hlt : i < w.Delivered.length
    · rw [if_pos (by omega), get_of hlt]
      rw [drop_cons hlt] at ho
      simp only [ordFrom] at ho
      rw [if_ite]
      split at ho
      · rename_i hs
        split at ho
        · rename_i hb
          have hle := ordFrom_len ho
          rw [if_pos hs, if_dec, if_neg (by omega), F47_eq N _ (by omega) (by omega), bd_some, if_ite, if_pos (by simp [hb.2]), ck_of (by omega) (by omega), cast_succ]
          exact L29_eq N w m hm hnx n (i + 1) _ (by omega) (by omega) hl (by omega) ho
        · cases ho
      · rename_i hs
        split at ho
        · rename_i hb
          have hle := ordFrom_len ho
          rw [if_neg hs, if_ite, if_neg (by simp [hb.1]), F46_eq N _ (by omega) (by omega), bd_some, if_ite, if_pos (by simp [hb.2]), ck_of (by omega) (by omega), ck_of (by omega) (by omega), cast_succ]
          exact L29_eq N w m hm hnx n (i + 1) _ (by omega) (by omega) hl (by omega) ho
        · cases ho
    · rw [if_neg (by omega)]
      rw [List.drop_eq_nil_of_le (by omega)] at ho
      simp only [ordFrom, Option.some.injEq] at ho
      simp [ho, hnx]

/-! ### The invariant -/
def FrOk (e : Int) (f : Frame) : Prop := if f.Sum = true then 0 < f.Seq ∧ f.Seq ≤ e ∧ f.Body = summ f.Seq else 0 ≤ f.Seq ∧ f.Seq < e ∧ f.Body = msg f.Seq
theorem FrOk.mono {e e' : Int} {f : Frame} (h : FrOk e f) (he : e ≤ e') : FrOk e' f := by
  unfold FrOk at h ⊢
  split
  · rename_i hs; rw [if_pos hs] at h; exact ⟨h.1, by omega, h.2.2⟩
  · rename_i hs; rw [if_neg hs] at h; exact ⟨h.1, by omega, h.2.2⟩
theorem FrOk.body {e : Int} {f : Frame} (h : FrOk e f) : bodyOk f.Body = true := by
  unfold FrOk at h
  unfold bodyOk
  split at h
  · rw [h.2.2, summ_len]; rfl
  · rw [h.2.2, msg_len]; rfl
theorem FrOk.rng {e : Int} {f : Frame} (h : FrOk e f) : 0 ≤ f.Seq ∧ f.Seq ≤ e := by
  unfold FrOk at h
  split at h <;> omega

structure SInv (o : Outbox) (e : Int) : Prop where
  b0 : 0 ≤ o.Base
  e_ : o.Base + o.Queue.length = e
  a0 : 0 ≤ o.Acked
  ae : o.Acked ≤ e
  q : ∀ j (h : j < o.Queue.length), o.Queue[j] = msg (o.Base + j)
  sm : o.Acked < o.Base → o.Summary = summ o.Base
  sb : bodyOk o.Summary = true
theorem SInv.valid {o : Outbox} {e : Int} (h : SInv o e) (he : e ≤ 1000) : validOut o = true := by
  have h1 := h.e_; have h2 := h.b0; have h3 := h.a0; have h4 := h.ae
  unfold validOut
  rw [decide_eq_true (by omega), h.sb, Bool.true_and, Bool.true_and, List.all_eq_true]
  intro x hx
  obtain ⟨j, hj, rfl⟩ := List.mem_iff_getElem.1 hx
  rw [h.q j hj]; unfold bodyOk; rw [msg_len]; rfl
structure RInv (i : Inbox) (d : List Frame) (e : Int) : Prop where
  v : validIn i = true
  nx : i.Next ≤ e
  ah : ∀ x ∈ i.Ahead, x.Sum = false ∧ x.Seq < e ∧ x.Body = msg x.Seq
  od : ordFrom d 0 = some i.Next
theorem RInv.mono {i : Inbox} {d : List Frame} {e e' : Int} (h : RInv i d e) (he : e ≤ e') : RInv i d e' :=
  ⟨h.v, by have := h.nx; omega, fun x hx => by have := h.ah x hx; exact ⟨this.1, by omega, this.2.2⟩, h.od⟩

theorem SInv.put {o : Outbox} {e : Int} (h : SInv o e) (he : e < 1000) : putS o (msg e) = (⟨o.Base, o.Acked, o.Summary, o.Queue ++ [msg e]⟩, 0) ∧ SInv ⟨o.Base, o.Acked, o.Summary, o.Queue ++ [msg e]⟩ (e + 1) := by
  have h1 := h.e_; have h2 := h.b0; have h3 := h.ae
  refine ⟨?_, ⟨h.b0, by simp; omega, h.a0, by show o.Acked ≤ _; omega, fun j hj => ?_, h.sm, h.sb⟩⟩
  · unfold putS
    rw [if_pos ⟨h.valid (by omega), by unfold bodyOk; rw [msg_len]; rfl⟩, if_neg (by omega)]
  · show (o.Queue ++ [msg e])[j] = msg (o.Base + j)
    rcases Nat.lt_or_ge j o.Queue.length with hl | hl
    · rw [List.getElem_append_left hl]; exact h.q j hl
    · have : j = o.Queue.length := by simp at hj; omega
      subst this
      rw [List.getElem_append_right (Nat.le_refl _)]
      simp [h1]
theorem SInv.drop {o : Outbox} {e u : Int} (h : SInv o e) (h1 : o.Base ≤ u) (h2 : u ≤ e) : (∀ j (hj : j < (o.Queue.drop (u - o.Base).toNat).length), (o.Queue.drop (u - o.Base).toNat)[j] = msg (u + j)) ∧ u + ((o.Queue.drop (u - o.Base).toNat).length : Int) = e := by
  have h3 := h.e_
  refine ⟨fun j hj => ?_, by simp; omega⟩
  simp only [List.length_drop] at hj
  rw [List.getElem_drop, h.q _ (by omega)]
  congr 1; omega
theorem SInv.fold {o : Outbox} {e u : Int} (h : SInv o e) (he : e ≤ 1000) (h1 : o.Base ≤ u) (h2 : u ≤ e) : foldS o u (summ u) = (⟨u, o.Acked, summ u, o.Queue.drop (u - o.Base).toNat⟩, 0) ∧ SInv ⟨u, o.Acked, summ u, o.Queue.drop (u - o.Base).toNat⟩ e := by
  have h3 := h.e_; have h4 := h.b0
  obtain ⟨d1, d2⟩ := h.drop h1 h2
  refine ⟨?_, ⟨by show 0 ≤ u; omega, d2, h.a0, h.ae, d1, fun _ => rfl, by show bodyOk (summ u) = true; unfold bodyOk; rw [summ_len]; rfl⟩⟩
  unfold foldS
  rw [if_pos ⟨h.valid he, h1, by omega, by unfold bodyOk; rw [summ_len]; rfl⟩]
theorem SInv.ack {o : Outbox} {e u : Int} (h : SInv o e) (he : e ≤ 1000) (h1 : 0 ≤ u) (h2 : u ≤ e) : (ackS o u).2 = 0 ∧ SInv (ackS o u).1 e := by
  have h3 := h.e_; have h4 := h.b0
  unfold ackS
  rw [if_pos ⟨h.valid he, h1, by omega⟩]
  split
  · exact ⟨rfl, h⟩
  · rename_i ha
    split
    · rename_i hb
      obtain ⟨d1, d2⟩ := h.drop (by omega : o.Base ≤ u) h2
      exact ⟨rfl, ⟨by show 0 ≤ u; omega, d2, h1, h2, d1, fun q => absurd q (Int.lt_irrefl _), rfl⟩⟩
    · rename_i hb
      exact ⟨rfl, ⟨h.b0, h.e_, h1, h2, h.q, fun q => h.sm (by show o.Acked < o.Base; have : u < o.Base := q; omega), h.sb⟩⟩
theorem framesFrom_mem (b : Int) : ∀ (i : Nat) (l : List Str) (f : Frame), f ∈ framesFrom b i l → ∃ j, ∃ h : j < l.length, f = ⟨false, b + ((i + j : Nat) : Int), l[j]⟩
  | _, [], _, h => by cases h
  | i, s :: r, f, h => by
    rcases List.mem_cons.1 h with rfl | h
    · exact ⟨0, by simp, rfl⟩
    · obtain ⟨j, hj, rfl⟩ := framesFrom_mem b (i + 1) r f h
      exact ⟨j + 1, by simpa using hj, by simp; omega⟩
theorem SInv.frames {o : Outbox} {e : Int} (h : SInv o e) : ∀ f ∈ allFrames o, FrOk e f := by
  intro f hf
  have h3 := h.e_; have h4 := h.b0; have h5 := h.a0; have h6 := h.ae
  unfold allFrames heads at hf
  rcases List.mem_append.1 hf with hf | hf
  · split at hf
    · rename_i ha
      rw [List.mem_singleton] at hf
      subst hf
      unfold FrOk
      rw [if_pos rfl]
      exact ⟨by show 0 < o.Base; omega, by show o.Base ≤ e; omega, h.sm ha⟩
    · cases hf
  · obtain ⟨j, hj, rfl⟩ := framesFrom_mem _ _ _ _ hf
    unfold FrOk
    rw [if_neg (by simp)]
    simp only [List.length_drop] at hj
    refine ⟨by show 0 ≤ o.Base + _; omega, by show o.Base + _ < e; omega, ?_⟩
    show (o.Queue.drop _)[j] = _
    rw [List.getElem_drop, h.q _ (by omega)]

theorem scan_ord (e : Int) : ∀ (l : List Frame) (n : Int), n ≤ e → (∀ x ∈ l, x.Sum = false ∧ x.Seq < e ∧ x.Body = msg x.Seq) →
    ordFrom (scan l n).2.1 n = some (scan l n).1 ∧ (scan l n).1 ≤ e ∧ ∀ x ∈ (scan l n).2.2, x.Sum = false ∧ x.Seq < e ∧ x.Body = msg x.Seq
  | [], n, hn, _ => ⟨rfl, hn, fun x h => by cases h⟩
  | x :: r, n, hn, h => by
    have hx := h x (by simp)
    have hr := fun y hy => h y (List.mem_cons_of_mem _ hy)
    rw [scan_c]
    split
    · rename_i hs
      obtain ⟨g1, g2, g3⟩ := scan_ord e r (n + 1) (by omega) hr
      refine ⟨?_, g2, g3⟩
      simp only [ordFrom]
      rw [if_neg (by simp [hx.1]), if_pos ⟨hs, hx.2.2⟩]; exact g1
    · split
      · obtain ⟨g1, g2, g3⟩ := scan_ord e r n hn hr
        refine ⟨g1, g2, fun y hy => ?_⟩
        rcases List.mem_cons.1 hy with rfl | hy
        · exact hx
        · exact g3 y hy
      · exact scan_ord e r n hn hr
theorem insAt_mem {f x : Frame} {l : List Frame} (h : x ∈ insAt f l) : x = f ∨ x ∈ l := by
  unfold insAt at h
  simp only [List.mem_append, List.mem_singleton] at h
  rcases h with (h | h) | h
  · exact .inr (List.mem_of_mem_take h)
  · exact .inl h
  · exact .inr (List.mem_of_mem_drop h)
end Go.Proofs.Try
