/- link: a receive keeps an inbox valid (parted from P5). -/
import Derived.Test.YtakffbnhhfkipaaP4d
set_option linter.unusedSimpArgs false
set_option linter.unusedVariables false
namespace Go.Proofs.Try
open Go.Eng
theorem known_of {l : List Frame} {last t : Int} (hc : chain last l = true) (i : Nat) (h : i < l.length) (e : (l[i]).Seq = t) : pos t l = i ∧ known t l = true := by
  have h1 := pos_iff (t := t) hc i h
  have h2 : pos t l ≤ i := by
    have := fun q => (h1.2 q); omega
  have hp : pos t l < l.length := by omega
  have h3 := pos_iff (t := t) hc (pos t l) hp
  have hge : t ≤ (l[pos t l]).Seq := by
    have := fun q => Nat.lt_irrefl _ (h3.1 q); omega
  have : pos t l = i := by
    rcases Nat.lt_or_ge (pos t l) i with q | q
    · exfalso
      have h4 := pos_iff (t := t + 1) hc i h
      have h5 := pos_iff (t := (l[i]).Seq) hc (pos t l) hp
      have h6 := pos_iff (t := (l[i]).Seq) hc i h
      have h7 : pos (l[i]).Seq l ≤ i := by have := fun q => Int.lt_irrefl _ (h6.2 q); omega
      rw [e] at h5 h7
      -- the element at pos is smaller
      have mono : ∀ {l : List Frame} {last : Int}, chain last l = true → ∀ a b (ha : a < l.length) (hb : b < l.length), a < b → (l[a]).Seq < (l[b]).Seq := by
        intro l
        induction l with
        | nil => intro _ _ a b ha; simp at ha
        | cons x r ih =>
          intro last hc a b ha hb hab
          obtain ⟨_, _, _, _, h9⟩ := chain_cons.1 hc
          cases b with
          | zero => omega
          | succ b =>
            cases a with
            | zero => exact (chain_gt h9 _ (List.getElem_mem (by simpa using hb : b < r.length))).1
            | succ a => exact ih h9 a b (by simpa using ha) (by simpa using hb) (by omega)
      have := mono hc (pos t l) i hp h q
      omega
    · omega
  refine ⟨this, ?_⟩
  unfold known
  rw [this, List.getElem?_eq_getElem h]
  simp [e]

theorem insAt_len (f : Frame) (l : List Frame) : (insAt f l).length = l.length + 1 := by
  have := pos_le f.Seq l
  unfold insAt; simp; omega
theorem chain_drop : ∀ {l : List Frame} {last : Int} (i : Nat) (h : i < l.length), chain last l = true → chain (l[i]).Seq (l.drop (i + 1)) = true
  | [], _, _, h, _ => by simp at h
  | f :: r, last, 0, _, hc => by
    obtain ⟨_, _, _, _, h3⟩ := chain_cons.1 hc
    simpa using h3
  | f :: r, last, i + 1, h, hc => by
    obtain ⟨_, _, _, _, h3⟩ := chain_cons.1 hc
    simpa using chain_drop i (by simpa using h) h3
theorem chain_weak : ∀ {l : List Frame} {a b : Int}, chain a l = true → (∀ x ∈ l, b < x.Seq) → chain b l = true
  | [], _, _, _, _ => rfl
  | f :: r, a, b, hc, hb => by
    obtain ⟨h0, _, h2, h3, h4⟩ := chain_cons.1 hc
    exact chain_cons.2 ⟨h0, hb f (by simp), h2, h3, h4⟩
theorem chain_ins (f : Frame) (h0 : f.Sum = false) (h1 : f.Seq ≤ 2199023255552) (h2 : bodyOk f.Body = true) : ∀ {l : List Frame} {last : Int}, chain last l = true → last < f.Seq → known f.Seq l = false → chain last (insAt f l) = true
  | [], last, _, hl, _ => by
    simp only [insAt, pos, List.take_nil, List.drop_nil, List.nil_append, List.append_nil]
    exact chain_cons.2 ⟨h0, hl, h1, h2, rfl⟩
  | x :: r, last, hc, hl, hk => by
    obtain ⟨g0, g1, g2, g3, g4⟩ := chain_cons.1 hc
    by_cases h : x.Seq < f.Seq
    · have e : insAt f (x :: r) = x :: insAt f r := by simp [insAt, pos, h]
      have hk' : known f.Seq r = false := by simpa [known, pos, h] using hk
      rw [e]
      exact chain_cons.2 ⟨g0, g1, g2, g3, chain_ins f h0 h1 h2 g4 h hk'⟩
    · have e : insAt f (x :: r) = f :: x :: r := by simp [insAt, pos, h]
      have hne : x.Seq ≠ f.Seq := by simpa [known, pos, h] using hk
      rw [e]
      exact chain_cons.2 ⟨h0, hl, h1, h2, chain_cons.2 ⟨g0, by omega, g2, g3, g4⟩⟩
theorem known_ins (f : Frame) : ∀ (l : List Frame), known f.Seq (insAt f l) = true
  | [] => by simp [insAt, pos, known]
  | x :: r => by
    by_cases h : x.Seq < f.Seq
    · have e : insAt f (x :: r) = x :: insAt f r := by simp [insAt, pos, h]
      rw [e]
      have := known_ins f r
      simpa [known, pos, h] using this
    · have e : insAt f (x :: r) = f :: x :: r := by simp [insAt, pos, h]
      rw [e]
      simp [known, pos]
theorem scan_above : ∀ {l : List Frame} {n : Int}, (∀ x ∈ l, n < x.Seq) → scan l n = (n, [], l)
  | [], _, _ => rfl
  | x :: r, n, h => by
    have h1 := h x (by simp)
    rw [scan_c, if_neg (by omega), if_pos h1, scan_above (fun y hy => h y (by simp [hy]))]
theorem scan_chain : ∀ {l : List Frame} {last n : Int}, chain last l = true → chain (scan l n).1 (scan l n).2.2 = true ∧ (scan l n).2.2.length ≤ l.length
  | [], _, _, _ => ⟨rfl, Nat.le_refl _⟩
  | x :: r, last, n, hc => by
    obtain ⟨g0, g1, g2, g3, g4⟩ := chain_cons.1 hc
    rw [scan_c]
    split
    · have := scan_chain (n := n + 1) g4
      exact ⟨this.1, by simp; omega⟩
    · split
      · rename_i h1 h2
        have : scan r n = (n, [], r) := scan_above (fun y hy => by have := (chain_gt g4 y hy).1; omega)
        rw [this]
        exact ⟨chain_cons.2 ⟨g0, h2, g2, g3, g4⟩, Nat.le_refl _⟩
      · have := scan_chain (n := n) g4
        exact ⟨this.1, by simp; omega⟩

theorem recvS_valid {i : Inbox} {f : Frame} (h : validIn i = true) : validIn (recvS i f).1 = true ∧ i.Next ≤ (recvS i f).1.Next := by
  obtain ⟨v1, v2, v3, v4⟩ := validIn_le h
  have mk : ∀ j : Inbox, 0 ≤ j.Next → j.Next ≤ 2199023255552 → j.Ahead.length ≤ 64 → chain j.Next j.Ahead = true → validIn j = true := fun j a b c d => by
    unfold validIn; rw [d, Bool.and_true, decide_eq_true ⟨a, b, c⟩]
  unfold recvS
  split
  · rename_i hc
    split
    · exact ⟨h, Int.le_refl _⟩
    · rename_i hn
      split
      · rename_i h2
        split
        · rename_i h3
          exact ⟨mk _ v1 v2 (by simp only [insAt_len]; omega) (chain_ins f h2.1 (by omega) hc.2.2.2 v4 h2.2 h3.1), Int.le_refl _⟩
        · exact ⟨h, Int.le_refl _⟩
      · have hs := scan_len i.Ahead (if f.Sum = true then f.Seq else f.Seq + 1)
        have hch := scan_chain (n := if f.Sum = true then f.Seq else f.Seq + 1) v4
        have hb : (if f.Sum = true then f.Seq else f.Seq + 1) ≤ 1099511627777 := by split <;> omega
        have hb2 : i.Next ≤ (if f.Sum = true then f.Seq else f.Seq + 1) := by
          have : ¬ f.Seq < i.Next := fun q => hn (.inl q)
          split <;> omega
        refine ⟨mk _ ?_ ?_ ?_ hch.1, ?_⟩
        · show 0 ≤ (scan _ _).1; omega
        · show (scan _ _).1 ≤ _; omega
        · show (scan _ _).2.2.length ≤ _; omega
        · show i.Next ≤ (scan _ _).1; omega
  · exact ⟨h, Int.le_refl _⟩

end Go.Proofs.Try
