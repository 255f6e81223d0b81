/- link: the laws of the receiver. -/
import Derived.Test.YtakffbnhhfkipaaP4
set_option linter.unusedSimpArgs false
set_option linter.unusedVariables false
namespace Go.Proofs.Try
open Go.Eng

theorem known_of {l : List Frame} {last t : Int} (hc : chain last l = true) (i : Nat) (h : i < l.length) (e : (l[i]).Seq = t) : pos t l = i ∧ known t l = true := by
  have h1 := pos_iff (t := t) hc i h
  have h2 : pos t l ≤ i := by
    have := fun q => (h1.2 q); omega
  have hp : pos t l < l.length := by omega
  have h3 := pos_iff (t := t) hc (pos t l) hp
  have hge : t ≤ (l[pos t l]).Seq := by
    have := fun q => Nat.lt_irrefl _ (h3.1 q); omega
  have : pos t l = i := by
    rcases Nat.lt_or_ge (pos t l) i with q | q
    · exfalso
      have h4 := pos_iff (t := t + 1) hc i h
      have h5 := pos_iff (t := (l[i]).Seq) hc (pos t l) hp
      have h6 := pos_iff (t := (l[i]).Seq) hc i h
      have h7 : pos (l[i]).Seq l ≤ i := by have := fun q => Int.lt_irrefl _ (h6.2 q); omega
      rw [e] at h5 h7
      -- the element at pos is smaller
      have mono : ∀ {l : List Frame} {last : Int}, chain last l = true → ∀ a b (ha : a < l.length) (hb : b < l.length), a < b → (l[a]).Seq < (l[b]).Seq := by
        intro l
        induction l with
        | nil => intro _ _ a b ha; simp at ha
        | cons x r ih =>
          intro last hc a b ha hb hab
          obtain ⟨_, _, _, _, h9⟩ := chain_cons.1 hc
          cases b with
          | zero => omega
          | succ b =>
            cases a with
            | zero => exact (chain_gt h9 _ (List.getElem_mem (by simpa using hb : b < r.length))).1
            | succ a => exact ih h9 a b (by simpa using ha) (by simpa using hb) (by omega)
      have := mono hc (pos t l) i hp h q
      omega
    · omega
  refine ⟨this, ?_⟩
  unfold known
  rw [this, List.getElem?_eq_getElem h]
  simp [e]

theorem L45_placed (N : Nat) (l : List Frame) (f : Frame) (hq : l.length ≤ 1000) : ∀ (n i : Nat) (out : List Frame), i ≤ l.length → l.length - i < n → out.length ≤ i + 1 → (∀ j (h : j < l.length), i ≤ j → (l[j]).Seq ≠ f.Seq) →
    L45_0 N l f n true i out = some (out ++ l.drop i)
  | 0, _, _, _, h, _, _ => by omega
  | n + 1, i, out, hi, h, ho, hne => by
    rw [L45_0, if_dec]
    by_cases hlt : i < l.length
    · rw [if_pos (by omega), get_of hlt, if_ite, if_neg (by simp [hne i hlt (Nat.le_refl _)]), if_true?, gd_of (by simp; omega), ck_of (by omega) (by omega), cast_succ, L45_placed N l f hq n (i + 1) _ (by omega) (by omega) (by simp; omega) (fun j h' hj => hne j h' (by omega)), drop_cons hlt]
      simp
    · rw [if_neg (by omega), if_true?, List.drop_eq_nil_of_le (by omega), List.append_nil]
theorem L45_eq (N : Nat) (l : List Frame) (f : Frame) (last : Int) (hc : chain last l = true) (hq : l.length ≤ 1000) : ∀ (n i : Nat) (out : List Frame), i ≤ pos f.Seq l → l.length - i < n → out.length ≤ i →
    L45_0 N l f n false i out = some (if known f.Seq l = true then l else out ++ (l.drop i).take (pos f.Seq l - i) ++ [f] ++ l.drop (pos f.Seq l))
  | 0, i, _, hi, h, _ => by omega
  | n + 1, i, out, hi, h, ho => by
    have hpl := pos_le f.Seq l
    rw [L45_0, if_dec]
    by_cases hlt : i < l.length
    · rw [if_pos (by omega), get_of hlt, if_ite, if_false?, if_dec]
      by_cases h1 : (l[i]).Seq = f.Seq
      · rw [if_pos (by simp [h1]), if_pos (known_of hc i hlt h1).2]
      · rw [if_neg (by simp [h1])]
        have hpi := pos_iff (t := f.Seq) hc i hlt
        by_cases h2 : f.Seq < (l[i]).Seq
        · have e : i = pos f.Seq l := by have := fun q => hpi.2 q; omega
          have hk : known f.Seq l = false := by
            unfold known
            rw [← e, List.getElem?_eq_getElem hlt]
            exact beq_false_of_ne h1
          rw [if_pos h2, gd_of (by simp; omega), gd_of (by simp; omega), ck_of (by omega) (by omega), cast_succ, L45_placed N l f hq n (i + 1) _ (by omega) (by omega) (by simp; omega) (fun j h' hj q => by
            have := (known_of hc j h' q).1; omega), if_neg (by simp [hk]), ← e, drop_cons hlt]
          simp
        · have h3 : i < pos f.Seq l := hpi.1 (by omega)
          rw [if_neg h2, gd_of (by simp; omega), ck_of (by omega) (by omega), cast_succ, L45_eq N l f last hc hq n (i + 1) _ (by omega) (by omega) (by simp; omega), drop_cons hlt]
          have e : pos f.Seq l - i = (pos f.Seq l - (i + 1)) + 1 := by omega
          rw [e, List.take_succ_cons]
          simp
    · have e : i = pos f.Seq l := by omega
      have hk : known f.Seq l = false := by
        unfold known
        rw [List.getElem?_eq_none (by omega)]
      rw [if_neg (by omega), if_false?, gd_of (by simp; omega), if_neg (by simp [hk]), ← e, List.drop_eq_nil_of_le (by omega)]
      simp
theorem F45_eq (N : Nat) (l : List Frame) (f : Frame) (last : Int) (hc : chain last l = true) (hq : l.length ≤ 1000) (hN : 1000 < N) : F45 N l f = some (if known f.Seq l = true then l else insAt f l) := by
  unfold F45 insAt
  have := L45_eq N l f last hc hq N 0 [] (Nat.zero_le _) (by omega) (by simp)
  rw [show ((0 : Nat) : Int) = 0 from rfl] at this
  rw [this]
  simp

theorem F26_eq (N : Nat) (i : Inbox) (f : Frame) (hN : 1000 < N) (hq : i.Ahead.length ≤ 1000) : F26 N i f = some ⟨(recvS i f).1, (recvS i f).2.1, (recvS i f).2.2⟩ := by
  unfold F26 recvS
  rw [F27_eq N i hN hq, bd_some, if_ite]
  by_cases hv : validIn i = true
  · obtain ⟨v1, v2, v3, v4⟩ := validIn_le hv
    rw [if_pos hv, if_dec, if_dec, if_dec]
    by_cases hs : 0 ≤ f.Seq ∧ f.Seq ≤ 1099511627776
    · rw [if_neg (by omega), if_neg (by omega)]
      by_cases hb : bodyOk f.Body = true
      · have hb' : f.Body.length ≤ 65536 := by simpa [bodyOk] using hb
        rw [if_neg (by omega), if_pos ⟨hv, hs.1, hs.2, hb⟩, gd_of (by omega), if_ite]
        have key : ∀ n : Int, 0 ≤ n → n ≤ 2199023255552 → L26_0 N i N 0 n [f] [] = some ⟨⟨(scan i.Ahead n).1, (scan i.Ahead n).2.2⟩, [f] ++ (scan i.Ahead n).2.1, 0⟩ := fun n g1 g2 => by
          have := L26_eq N i v3 N 0 n [f] [] (Nat.zero_le _) (by omega) g1 (by omega) (by simp) (by simp)
          rw [show ((0 : Nat) : Int) = 0 from rfl] at this
          rw [this]; simp
        by_cases h2 : f.Sum = true
        · rw [if_pos h2, if_dec]
          by_cases h3 : f.Seq ≤ i.Next
          · rw [if_pos h3, if_pos (by rcases Int.lt_or_eq_of_le h3 with h | h; exact .inl h; exact .inr ⟨h2, h⟩)]
          · rw [if_neg h3, if_neg (by simp [h2]; omega), if_neg (by simp [h2]), key _ hs.1 (by omega)]
            simp only [if_pos h2]
        · have h2' : f.Sum = false := by simpa using h2
          rw [if_neg h2, if_dec]
          by_cases h1 : f.Seq < i.Next
          · rw [if_pos h1, if_pos (.inl h1)]
          · rw [if_neg h1, if_neg (by simp [h1, h2']), if_dec]
            by_cases h3 : i.Next < f.Seq
            · rw [if_pos h3, if_pos ⟨h2', h3⟩, if_dec]
              by_cases h5 : i.Ahead.length < 64
              · rw [if_pos (by omega), F45_eq N i.Ahead f i.Next v4 hq hN, bd_some]
                by_cases h4 : known f.Seq i.Ahead = true
                · rw [if_pos h4, if_neg (by simp [h4])]
                · rw [if_neg h4, if_pos ⟨by simpa using h4, h5⟩]
              · rw [if_neg (by omega), if_neg (by simp [h5])]
            · rw [if_neg h3, if_neg (by simp [h3]), ck_of (by omega) (by omega), key _ (by omega) (by omega)]
              simp only [if_neg h2]
      · have hb' : ¬ f.Body.length ≤ 65536 := by simpa [bodyOk] using hb
        rw [if_pos (by omega), if_neg (fun h => hb h.2.2.2)]
    · have hx : ¬ (validIn i = true ∧ 0 ≤ f.Seq ∧ f.Seq ≤ 1099511627776 ∧ bodyOk f.Body = true) := fun h => hs ⟨h.2.1, h.2.2.1⟩
      rw [if_neg hx]
      repeat' split
      all_goals first | rfl | (exfalso; omega)
  · rw [if_neg hv, if_neg (fun h => hv h.1)]

theorem F24_eq (N : Nat) (i : Inbox) (hN : i.Ahead.length < N) (hq : i.Ahead.length ≤ 4611686018427387904) : F24 N i i = some true := by
  unfold F24
  simp only [BEq.rfl, if_true?, F21_eq N _ hN hq, bd_some]
theorem insAt_len (f : Frame) (l : List Frame) : (insAt f l).length = l.length + 1 := by
  have := pos_le f.Seq l
  unfold insAt; simp; omega
theorem recvS_len (i : Inbox) (f : Frame) : (recvS i f).1.Ahead.length ≤ i.Ahead.length + 1 ∧ (recvS i f).2.1.length ≤ i.Ahead.length + 1 := by
  unfold recvS
  have h := scan_len i.Ahead (if f.Sum = true then f.Seq else f.Seq + 1)
  have h2 := insAt_len f i.Ahead
  split
  · split
    · simp
    · split
      · split
        · simp [h2]
        · simp
      · simp only [List.length_append, List.length_cons, List.length_nil]; omega
  · simp

theorem L5_eq (p : Inbox) (f : Frame) (hq : p.Ahead.length ≤ 70) : ∀ (n i : Nat), i ≤ p.Ahead.length → p.Ahead.length - i < n → L5_0 2000 p f n i = some true
  | 0, _, _, h => by omega
  | n + 1, i, hi, h => by
    rw [L5_0, if_dec]
    by_cases hlt : i < p.Ahead.length
    · rw [if_pos (by omega), get_of hlt, if_dec, F9_eq, bd_some, ck_of (by omega) (by omega), cast_succ, L5_eq p f hq n (i + 1) (by omega) (by omega)]
      split <;> rfl
    · have hl := recvS_len p f
      rw [if_neg (by omega), F23_eq 2000 p f (by omega) (by omega), bd_some, F26_eq 2000 p f (by omega) (by omega), F9_eq, F22_eq 2000 p (by omega) (by omega), F27_eq 2000 p (by omega) (by omega)]
      unfold F25
      simp only [bd_some, if_true?, BEq.rfl, F24_eq 2000 (recvS p f).1 (by omega) (by omega), F21_eq 2000 (recvS p f).2.1 (by omega) (by omega)]
      rfl
theorem receives_true (p : Inbox) (f : Frame) : F5 2000 p f = some true := by
  unfold F5
  rw [if_dec, if_dec, F9_eq]
  by_cases h : p.Ahead.length ≤ 70
  · rw [if_neg (by omega)]
    have := L5_eq p f h 2000 0 (by omega) (by omega)
    rw [show ((0 : Nat) : Int) = 0 from rfl] at this
    rw [this]
    split <;> rfl
  · rw [if_pos (by omega)]; rfl

/-! ### Once more -/
theorem chain_drop : ∀ {l : List Frame} {last : Int} (i : Nat) (h : i < l.length), chain last l = true → chain (l[i]).Seq (l.drop (i + 1)) = true
  | [], _, _, h, _ => by simp at h
  | f :: r, last, 0, _, hc => by
    obtain ⟨_, _, _, _, h3⟩ := chain_cons.1 hc
    simpa using h3
  | f :: r, last, i + 1, h, hc => by
    obtain ⟨_, _, _, _, h3⟩ := chain_cons.1 hc
    simpa using chain_drop i (by simpa using h) h3
theorem chain_weak : ∀ {l : List Frame} {a b : Int}, chain a l = true → (∀ x ∈ l, b < x.Seq) → chain b l = true
  | [], _, _, _, _ => rfl
  | f :: r, a, b, hc, hb => by
    obtain ⟨h0, _, h2, h3, h4⟩ := chain_cons.1 hc
    exact chain_cons.2 ⟨h0, hb f (by simp), h2, h3, h4⟩
theorem chain_ins (f : Frame) (h0 : f.Sum = false) (h1 : f.Seq ≤ 2199023255552) (h2 : bodyOk f.Body = true) : ∀ {l : List Frame} {last : Int}, chain last l = true → last < f.Seq → known f.Seq l = false → chain last (insAt f l) = true
  | [], last, _, hl, _ => by
    simp only [insAt, pos, List.take_nil, List.drop_nil, List.nil_append, List.append_nil]
    exact chain_cons.2 ⟨h0, hl, h1, h2, rfl⟩
  | x :: r, last, hc, hl, hk => by
    obtain ⟨g0, g1, g2, g3, g4⟩ := chain_cons.1 hc
    by_cases h : x.Seq < f.Seq
    · have e : insAt f (x :: r) = x :: insAt f r := by simp [insAt, pos, h]
      have hk' : known f.Seq r = false := by simpa [known, pos, h] using hk
      rw [e]
      exact chain_cons.2 ⟨g0, g1, g2, g3, chain_ins f h0 h1 h2 g4 h hk'⟩
    · have e : insAt f (x :: r) = f :: x :: r := by simp [insAt, pos, h]
      have hne : x.Seq ≠ f.Seq := by simpa [known, pos, h] using hk
      rw [e]
      exact chain_cons.2 ⟨h0, hl, h1, h2, chain_cons.2 ⟨g0, by omega, g2, g3, g4⟩⟩
theorem known_ins (f : Frame) : ∀ (l : List Frame), known f.Seq (insAt f l) = true
  | [] => by simp [insAt, pos, known]
  | x :: r => by
    by_cases h : x.Seq < f.Seq
    · have e : insAt f (x :: r) = x :: insAt f r := by simp [insAt, pos, h]
      rw [e]
      have := known_ins f r
      simpa [known, pos, h] using this
    · have e : insAt f (x :: r) = f :: x :: r := by simp [insAt, pos, h]
      rw [e]
      simp [known, pos]
theorem scan_above : ∀ {l : List Frame} {n : Int}, (∀ x ∈ l, n < x.Seq) → scan l n = (n, [], l)
  | [], _, _ => rfl
  | x :: r, n, h => by
    have h1 := h x (by simp)
    rw [scan_c, if_neg (by omega), if_pos h1, scan_above (fun y hy => h y (by simp [hy]))]
theorem scan_chain : ∀ {l : List Frame} {last n : Int}, chain last l = true → chain (scan l n).1 (scan l n).2.2 = true ∧ (scan l n).2.2.length ≤ l.length
  | [], _, _, _ => ⟨rfl, Nat.le_refl _⟩
  | x :: r, last, n, hc => by
    obtain ⟨g0, g1, g2, g3, g4⟩ := chain_cons.1 hc
    rw [scan_c]
    split
    · have := scan_chain (n := n + 1) g4
      exact ⟨this.1, by simp; omega⟩
    · split
      · rename_i h1 h2
        have : scan r n = (n, [], r) := scan_above (fun y hy => by have := (chain_gt g4 y hy).1; omega)
        rw [this]
        exact ⟨chain_cons.2 ⟨g0, h2, g2, g3, g4⟩, Nat.le_refl _⟩
      · have := scan_chain (n := n) g4
        exact ⟨this.1, by simp; omega⟩

theorem recvS_valid {i : Inbox} {f : Frame} (h : validIn i = true) : validIn (recvS i f).1 = true ∧ i.Next ≤ (recvS i f).1.Next := by
  obtain ⟨v1, v2, v3, v4⟩ := validIn_le h
  have mk : ∀ j : Inbox, 0 ≤ j.Next → j.Next ≤ 2199023255552 → j.Ahead.length ≤ 64 → chain j.Next j.Ahead = true → validIn j = true := fun j a b c d => by
    unfold validIn; rw [d, Bool.and_true, decide_eq_true ⟨a, b, c⟩]
  unfold recvS
  split
  · rename_i hc
    split
    · exact ⟨h, Int.le_refl _⟩
    · rename_i hn
      split
      · rename_i h2
        split
        · rename_i h3
          exact ⟨mk _ v1 v2 (by simp only [insAt_len]; omega) (chain_ins f h2.1 (by omega) hc.2.2.2 v4 h2.2 h3.1), Int.le_refl _⟩
        · exact ⟨h, Int.le_refl _⟩
      · have hs := scan_len i.Ahead (if f.Sum = true then f.Seq else f.Seq + 1)
        have hch := scan_chain (n := if f.Sum = true then f.Seq else f.Seq + 1) v4
        have hb : (if f.Sum = true then f.Seq else f.Seq + 1) ≤ 1099511627777 := by split <;> omega
        have hb2 : i.Next ≤ (if f.Sum = true then f.Seq else f.Seq + 1) := by
          have : ¬ f.Seq < i.Next := fun q => hn (.inl q)
          split <;> omega
        refine ⟨mk _ ?_ ?_ ?_ hch.1, ?_⟩
        · show 0 ≤ (scan _ _).1; omega
        · show (scan _ _).1 ≤ _; omega
        · show (scan _ _).2.2.length ≤ _; omega
        · show i.Next ≤ (scan _ _).1; omega
  · exact ⟨h, Int.le_refl _⟩

theorem recvS_again {i : Inbox} {f : Frame} (h : validIn i = true) (he : (recvS i f).2.2 = 0) : recvS (recvS i f).1 f = ((recvS i f).1, [], 0) := by
  have hv := (recvS_valid (f := f) h).1
  obtain ⟨v1, v2, v3, v4⟩ := validIn_le h
  unfold recvS at he hv ⊢
  split at he
  · rename_i hc
    rw [if_pos hc] at hv ⊢
    by_cases h1 : f.Seq < i.Next ∨ (f.Sum = true ∧ f.Seq = i.Next)
    · rw [if_pos h1] at hv ⊢
      rw [if_pos ⟨hv, hc.2⟩, if_pos h1]
    · rw [if_neg h1] at hv ⊢
      by_cases h2 : f.Sum = false ∧ i.Next < f.Seq
      · rw [if_pos h2] at hv ⊢
        by_cases h3 : known f.Seq i.Ahead = false ∧ i.Ahead.length < 64
        · rw [if_pos h3] at hv ⊢
          simp only at hv ⊢
          rw [if_pos ⟨hv, hc.2⟩, if_neg h1, if_pos h2, if_neg (by simp [known_ins])]
        · rw [if_neg h3] at hv ⊢
          simp only at hv ⊢
          rw [if_pos ⟨hv, hc.2⟩, if_neg h1, if_pos h2, if_neg h3]
      · rw [if_neg h2] at hv ⊢
        simp only at hv ⊢
        have hs := scan_len i.Ahead (if f.Sum = true then f.Seq else f.Seq + 1)
        rw [if_pos ⟨hv, hc.2⟩, if_pos ?_]
        by_cases h5 : f.Sum = true
        · rw [if_pos h5] at hs ⊢
          rcases Int.lt_or_eq_of_le (by omega : f.Seq ≤ (scan i.Ahead f.Seq).1) with q | q
          · exact .inl q
          · exact .inr ⟨h5, q⟩
        · rw [if_neg h5] at hs ⊢
          exact .inl (by omega)
  · cases he

theorem recvS_err {i : Inbox} {f : Frame} (he : (recvS i f).2.2 ≠ 0) : recvS i f = (i, [], 1) := by
  unfold recvS at he ⊢
  split at he
  · exfalso
    apply he
    split
    · rfl
    · split
      · split <;> rfl
      · rfl
  · rename_i hc
    rw [if_neg hc]

theorem L4_eq (p : Inbox) (f : Frame) (hq : p.Ahead.length ≤ 64) (hv : validIn p = true) : ∀ (n i : Nat), i ≤ p.Ahead.length → p.Ahead.length - i < n → L4_0 2000 p f n i = some true
  | 0, _, _, h => by omega
  | n + 1, i, hi, h => by
    rw [L4_0, if_dec]
    by_cases hlt : i < p.Ahead.length
    · rw [if_pos (by omega), get_of hlt, if_dec, F9_eq, bd_some, ck_of (by omega) (by omega), cast_succ, L4_eq p f hq hv n (i + 1) (by omega) (by omega)]
      split <;> rfl
    · have hl := recvS_len p f
      obtain ⟨hv1, hnx⟩ := recvS_valid (f := f) hv
      rw [if_neg (by omega), gd_of (by omega), F23_eq 2000 p f (by omega) (by omega), bd_some, F21_eq 2000 p.Ahead (by omega) (by omega), bd_some, if_true?, F22_eq 2000 (recvS p f).1 (by omega) (by omega), bd_some, hv1, if_true?, if_dec, if_neg (by omega), if_ite, F9_eq]
      by_cases he : (recvS p f).2.2 = 0
      · rw [if_neg (by simp [he]), F23_eq 2000 (recvS p f).1 f (by omega) (by omega), recvS_again hv he]
        simp only [bd_some, if_true?, BEq.rfl, F24_eq 2000 (recvS p f).1 (by omega) (by omega)]
        rfl
      · rw [if_pos (by simp [he]), recvS_err he]
        simp only [bd_some, if_true?, F24_eq 2000 p (by omega) (by omega)]
        rfl
theorem once_true (p : Inbox) (f : Frame) : F4 2000 p f = some true := by
  unfold F4
  rw [if_dec, if_dec, F9_eq]
  by_cases h : p.Ahead.length ≤ 64
  · rw [if_neg (by omega), F22_eq 2000 p (by omega) (by omega)]
    simp only [bd_some, if_ite]
    by_cases hv : validIn p = true
    · have := L4_eq p f h hv 2000 0 (by omega) (by omega)
      rw [show ((0 : Nat) : Int) = 0 from rfl] at this
      rw [this, if_pos hv]
      split <;> rfl
    · rw [if_neg hv]
      split <;> rfl
  · rw [if_pos (by omega)]; rfl
end Go.Proofs.Try
