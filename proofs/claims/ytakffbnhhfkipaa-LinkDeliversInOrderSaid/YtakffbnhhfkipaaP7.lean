/- link: the laws LinkDeliversInOrder and LinkCatchesUp, with no program in sight. -/
import Derived.Test.YtakffbnhhfkipaaP6b
set_option linter.unusedSimpArgs false
set_option linter.unusedVariables false
namespace Go.Proofs.Try
open Go.Eng
theorem F29_ok {k : Nat} {e : Int} {w : WLine} (h : RInv w.I w.Delivered e) (he : e ≤ 100) : F29 2000 w = some true := by
  have h1 := ordFrom_len h.od; have h2 := h.nx
  exact L29_eq 2000 w w.I.Next (by omega) rfl 2000 0 0 (by omega) (by omega) (by omega) (by omega) h.od
theorem L6_eq (l : List WAct) (hl : l.length ≤ 100) (ha : ∀ a ∈ l, 0 ≤ a.N ∧ a.N ≤ 255) : ∀ (n i : Nat) (w : WLine) (e : Int), i ≤ l.length → l.length - i < n → Inv i e w → L6_0 2000 l n i w.O.Base w.O.Acked w.O.Summary w.O.Queue w.I.Next w.I.Ahead w.Sent w.Told w.Delivered w.Bad = some true
  | 0, _, _, _, _, h, _ => by omega
  | n + 1, i, w, e, hi, h, hv => by
    rw [L6_0, if_dec]
    by_cases hlt : i < l.length
    · obtain ⟨h0, h1⟩ := ha _ (List.getElem_mem hlt)
      obtain ⟨w', e', hw, hv'⟩ := act_ok (a := l[i]) hv (by omega) h0 h1
      have hw : F28 2000 ⟨⟨w.O.Base, w.O.Acked, w.O.Summary, w.O.Queue⟩, ⟨w.I.Next, w.I.Ahead⟩, w.Sent, w.Told, w.Delivered, w.Bad⟩ l[i] = some w' := hw
      have ek := hv'.ek
      rw [if_pos (by omega), get_of hlt, hw, bd_some, if_ite, if_neg (by simp [hv'.bd]), F29_ok (k := 0) hv'.r (by omega), bd_some, if_true?, ck_of (by omega) (by omega), cast_succ]
      exact L6_eq l hl ha n (i + 1) w' e' (by omega) (by omega) hv'
    · rw [if_neg (by omega), F9_eq]; rfl
theorem delivers_true (l : List WAct) (ha : ∀ a ∈ l, 0 ≤ a.N ∧ a.N ≤ 255) : F6 2000 l = some true := by
  unfold F6
  rw [if_dec]
  by_cases h : (l.length : Int) > 100
  · rw [if_pos h, F9_eq]; rfl
  · rw [if_neg h]
    exact L6_eq l (by omega) ha 2000 0 ⟨⟨0, 0, [], []⟩, ⟨0, []⟩, [], [], [], false⟩ 0 (by omega) (by omega) Inv.zero

/-! ### Catching up -/
def fol : Int → List Frame → Int → Prop
  | n, [], e => e ≤ n
  | n, f :: r, e => if f.Sum = true then fol f.Seq r e else (f.Seq ≤ n ∧ fol (f.Seq + 1) r e)
theorem fol_from (b : Int) : ∀ (i : Nat) (l : List Str), fol (b + i) (framesFrom b i l) (b + i + l.length)
  | i, [] => by simp [framesFrom, fol]
  | i, s :: r => by
    have := fol_from b (i + 1) r
    simp only [framesFrom, fol]
    rw [if_neg (by simp)]
    refine ⟨Int.le_refl _, ?_⟩
    rw [show b + (i : Int) + 1 = b + ((i + 1 : Nat) : Int) by omega, show b + (i : Int) + ((s :: r).length : Int) = b + ((i + 1 : Nat) : Int) + (r.length : Int) by simp; omega]
    exact this
theorem fol_all {o : Outbox} {e : Int} (h : SInv o e) : fol o.Acked (allFrames o) e := by
  have h1 := h.b0; have h2 := h.e_; have h3 := h.a0; have h4 := h.ae
  unfold allFrames heads
  have hk := fol_from o.Base (max o.Acked o.Base - o.Base).toNat (o.Queue.drop (max o.Acked o.Base - o.Base).toNat)
  have hl : o.Base + ((max o.Acked o.Base - o.Base).toNat : Int) + ((o.Queue.drop (max o.Acked o.Base - o.Base).toNat).length : Int) = e := by simp; omega
  rw [hl] at hk
  split
  · rw [show o.Base + ((max o.Acked o.Base - o.Base).toNat : Int) = o.Base by omega] at hk
    show fol _ (_ :: _) _
    simp only [fol]
    rw [if_pos trivial]; exact hk
  · rw [show o.Base + ((max o.Acked o.Base - o.Base).toNat : Int) = o.Acked by omega] at hk
    exact hk
theorem recv_next {i : Inbox} {d : List Frame} {e : Int} {f : Frame} (h : RInv i d e) (hf : FrOk e f) (he : e ≤ 1000) (hn : f.Sum = false → f.Seq ≤ i.Next) :
    (if f.Sum = true then f.Seq else f.Seq + 1) ≤ (recvS i f).1.Next := by
  have hr := hf.rng
  have hcond : validIn i = true ∧ 0 ≤ f.Seq ∧ f.Seq ≤ 1099511627776 ∧ bodyOk f.Body = true := ⟨h.v, hr.1, by omega, hf.body⟩
  unfold recvS; rw [if_pos hcond]
  by_cases h1 : f.Seq < i.Next ∨ (f.Sum = true ∧ f.Seq = i.Next)
  · rw [if_pos h1]
    show _ ≤ i.Next
    rcases h1 with h1 | h1
    · split <;> omega
    · rw [if_pos h1.1]; omega
  · have h2 : ¬ (f.Sum = false ∧ i.Next < f.Seq) := fun q => by have := hn q.1; omega
    rw [if_neg h1, if_neg h2]
    have := (scan_len i.Ahead (if f.Sum = true then f.Seq else f.Seq + 1)).2
    show _ ≤ (scan i.Ahead (if f.Sum = true then f.Seq else f.Seq + 1)).1
    omega
theorem L7_1_eq {o : Outbox} {e : Int} (sent : List Frame) (told : List Int) (fs : List Frame) (he : e ≤ 100) (hs : SInv o e) (hfs : ∀ f ∈ fs, FrOk e f) (hfl : fs.length ≤ 1000) :
    ∀ (n j : Nat) (i : Inbox) (d : List Frame) (x : Int), j ≤ fs.length → fs.length - j < n → RInv i d e → fol x (fs.drop j) e → x ≤ i.Next → L7_1 2000 o.Base o.Acked o.Summary o.Queue sent told false (fs, 0) n j i.Next i.Ahead d = some true
  | 0, _, _, _, _, _, h, _, _, _ => by omega
  | n + 1, j, i, d, x, hj, h, hr, hx, hxn => by
    have vi := validIn_le hr.v
    rw [L7_1, if_dec]
    by_cases hlt : j < fs.length
    · have hlt' : j < (fs, (0 : Int)).1.length := hlt
      have hf := hfs _ (List.getElem_mem hlt)
      obtain ⟨q1, q2, q3⟩ := hr.recv hf (by omega)
      have hd2 := ordFrom_len q2.od
      have hd3 := q2.nx
      rw [List.length_append] at hd2
      rw [if_pos (by show (j : Int) < (fs.length : Int); omega), get_of hlt']
      show bd? (F23 2000 i fs[j]) _ = _
      rw [F23_eq _ _ _ (by omega) (by omega), bd_some, if_ite, if_neg (by simp [q1]), gd_of (by omega), ck_of (by omega) (by omega), cast_succ]
      rw [drop_cons hlt] at hx
      simp only [fol] at hx
      have hnx := recv_next hr hf (by omega) (fun hsum => by rw [if_neg (by simp [hsum])] at hx; omega)
      split at hx
      · rename_i hsum
        rw [if_pos hsum] at hnx
        exact L7_1_eq sent told fs he hs hfs hfl n (j + 1) _ _ _ (by omega) (by omega) q2 hx hnx
      · rename_i hsum
        rw [if_neg hsum] at hnx
        exact L7_1_eq sent told fs he hs hfs hfl n (j + 1) _ _ _ (by omega) (by omega) q2 hx.2 hnx
    · rw [if_neg (by show ¬ ((j : Int) < (fs.length : Int)); omega)]
      rw [List.drop_eq_nil_of_le (by omega)] at hx
      have hx : e ≤ x := hx
      have hnx := hr.nx
      have hne : i.Next = e := by omega
      have s1 := hs.b0; have s2 := hs.e_; have s3 := hs.a0; have s4 := hs.ae
      obtain ⟨q1, q2⟩ := hs.ack (u := i.Next) (by omega) (by omega) (by omega)
      have t1 := q2.b0; have t2 := q2.e_; have t3 := q2.a0; have t4 := q2.ae
      have hacked : (ackS o i.Next).1.Acked = e := by
        unfold ackS
        rw [if_pos ⟨hs.valid (by omega), by omega, by omega⟩]
        split
        · show o.Acked = e; omega
        · split
          · exact hne
          · exact hne
      have hall : allFrames (ackS o i.Next).1 = [] := by
        unfold allFrames heads
        rw [if_neg (by omega), List.nil_append, List.drop_eq_nil_of_le (by omega)]; rfl
      show bd? (F13 2000 o i.Next) _ = _
      rw [F13_eq _ _ _ (by omega) (by omega), bd_some, F12_eq _ _ _ (by omega) (by omega), bd_some, F9_eq, bd_some, if_true?, if_ite, if_pos (by simp [q1]), if_ite]
      have hfr : framesS (ackS o i.Next).1 1000 = ([], 0) := by
        unfold framesS
        rw [if_pos ⟨q2.valid (by omega), by decide⟩, hall]; rfl
      rw [hfr, if_pos (by rfl), if_ite, if_pos (by rfl), ck_of (by omega) (by omega), if_ite, if_pos (by rw [beq_iff_eq]; omega)]
      have := F29_ok (k := 0) (w := ⟨o, i, sent, told, d, false⟩) hr he
      show bd? (F29 2000 ⟨o, i, sent, told, d, false⟩) _ = _
      rw [this]; rfl
theorem F28_1_eq : F28_1 = F28 := rfl
theorem L7_0_eq (l : List WAct) (hl : l.length ≤ 100) (ha : ∀ a ∈ l, 0 ≤ a.N ∧ a.N ≤ 255) : ∀ (n i : Nat) (w : WLine) (e : Int), i ≤ l.length → l.length - i < n → Inv i e w → L7_0 2000 l n i w.O.Base w.O.Acked w.O.Summary w.O.Queue w.I.Next w.I.Ahead w.Sent w.Told w.Bad w.Delivered = some true
  | 0, _, _, _, _, h, _ => by omega
  | n + 1, i, w, e, hi, h, hv => by
    rw [L7_0, if_dec]
    by_cases hlt : i < l.length
    · obtain ⟨h0, h1⟩ := ha _ (List.getElem_mem hlt)
      obtain ⟨w', e', hw, hv'⟩ := act_ok (a := l[i]) hv (by omega) h0 h1
      have hw : F28 2000 ⟨⟨w.O.Base, w.O.Acked, w.O.Summary, w.O.Queue⟩, ⟨w.I.Next, w.I.Ahead⟩, w.Sent, w.Told, w.Delivered, w.Bad⟩ l[i] = some w' := hw
      rw [if_pos (by omega), get_of hlt, F28_1_eq, hw, bd_some, ck_of (by omega) (by omega), cast_succ]
      exact L7_0_eq l hl ha n (i + 1) w' e' (by omega) (by omega) hv'
    · have s1 := hv.s.b0; have s2 := hv.s.e_; have ek := hv.ek
      rw [if_neg (by omega)]
      show bd? (F12 2000 w.O 1000) _ = _
      have hlen : (allFrames w.O).length ≤ 1000 := by
        unfold allFrames heads
        rw [List.length_append, framesFrom_length, List.length_drop]
        split
        · simp; omega
        · simp; omega
      have hfr : framesS w.O 1000 = (allFrames w.O, 0) := by
        unfold framesS
        rw [if_pos ⟨hv.s.valid (by omega), by decide⟩, List.take_of_length_le (by omega)]
      rw [F12_eq _ _ _ (by omega) (by omega), bd_some, hfr, hv.bd, if_false?, if_ite, if_neg (by simp)]
      exact L7_1_eq w.Sent w.Told (allFrames w.O) (by omega) hv.s hv.s.frames hlen 2000 0 w.I w.Delivered w.O.Acked (by omega) (by omega) hv.r (fol_all hv.s) hv.ak
theorem catches_true (l : List WAct) (ha : ∀ a ∈ l, 0 ≤ a.N ∧ a.N ≤ 255) : F7 2000 l = some true := by
  unfold F7
  rw [if_dec]
  by_cases h : (l.length : Int) > 100
  · rw [if_pos h, F9_eq]; rfl
  · rw [if_neg h]
    exact L7_0_eq l (by omega) ha 2000 0 ⟨⟨0, 0, [], []⟩, ⟨0, []⟩, [], [], [], false⟩ 0 (by omega) (by omega) Inv.zero
theorem delivers_k (l : List WAct) (k : l.length ≤ 9223372036854775807 ∧ ∀ y ∈ l, (IntKind.min .u8 ≤ y.Kind ∧ y.Kind ≤ IntKind.max .u8) ∧ (IntKind.min .u8 ≤ y.N ∧ y.N ≤ IntKind.max .u8)) : F6 2000 l = some true :=
  delivers_true l fun a h => ((k.2 a h).2)
theorem catches_k (l : List WAct) (k : l.length ≤ 9223372036854775807 ∧ ∀ y ∈ l, (IntKind.min .u8 ≤ y.Kind ∧ y.Kind ≤ IntKind.max .u8) ∧ (IntKind.min .u8 ≤ y.N ∧ y.N ≤ IntKind.max .u8)) : F7 2000 l = some true :=
  catches_true l fun a h => ((k.2 a h).2)
end Go.Proofs.Try
