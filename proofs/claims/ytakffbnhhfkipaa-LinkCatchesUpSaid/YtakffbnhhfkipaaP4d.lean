/- link: what the receiver's functions, and their specification, compute. -/
import Derived.Test.YtakffbnhhfkipaaP3
set_option linter.unusedSimpArgs false
set_option linter.unusedVariables false
namespace Go.Proofs.Try
open Go.Eng

def chain : Int → List Frame → Bool
  | _, [] => true
  | last, f :: r => !f.Sum && decide (last < f.Seq) && decide (f.Seq ≤ 2199023255552) && bodyOk f.Body && chain f.Seq r
def validIn (i : Inbox) : Bool := decide (0 ≤ i.Next ∧ i.Next ≤ 2199023255552 ∧ i.Ahead.length ≤ 64) && chain i.Next i.Ahead
theorem chain_c {last : Int} {f : Frame} {r : List Frame} : chain last (f :: r) = (!f.Sum && decide (last < f.Seq) && decide (f.Seq ≤ 2199023255552) && bodyOk f.Body && chain f.Seq r) := rfl
theorem chain_cons {last : Int} {f : Frame} {r : List Frame} : chain last (f :: r) = true ↔ f.Sum = false ∧ last < f.Seq ∧ f.Seq ≤ 2199023255552 ∧ bodyOk f.Body = true ∧ chain f.Seq r = true := by
  simp [chain, and_assoc]

theorem L22_eq (N : Nat) (p : Inbox) (hq : p.Ahead.length ≤ 1000) : ∀ (n i : Nat) (last : Int), i ≤ p.Ahead.length → p.Ahead.length - i < n → L22_0 N p n last i = some (chain last (p.Ahead.drop i) && decide (0 ≤ p.Next ∧ p.Next ≤ 2199023255552 ∧ p.Ahead.length ≤ 64))
  | 0, _, _, _, h => by omega
  | n + 1, i, last, hi, h => by
    rw [L22_0, if_dec]
    by_cases hlt : i < p.Ahead.length
    · rw [if_pos (by omega), get_of hlt, drop_cons hlt, if_ite, if_dec, if_dec, F31_eq, bd_some, if_ite, ck_of (by omega) (by omega), cast_succ, L22_eq N p hq n (i + 1) _ (by omega) (by omega)]
      rw [chain_c]
      by_cases h1 : (p.Ahead[i]).Sum = true
      · rw [if_pos h1]; simp [h1]
      · rw [if_neg h1]
        by_cases h2 : (p.Ahead[i]).Seq ≤ last
        · rw [if_pos h2, decide_eq_false (by omega : ¬ last < (p.Ahead[i]).Seq)]; simp
        · rw [if_neg h2]
          by_cases h3 : (p.Ahead[i]).Seq > 2199023255552
          · rw [if_pos h3, decide_eq_false (by omega : ¬ (p.Ahead[i]).Seq ≤ 2199023255552)]; simp
          · rw [if_neg h3, decide_eq_true (by omega : last < (p.Ahead[i]).Seq), decide_eq_true (by omega : (p.Ahead[i]).Seq ≤ 2199023255552)]
            by_cases h4 : bodyOk (p.Ahead[i]).Body = true
            · rw [if_pos h4]; simp [h1, h4]
            · rw [if_neg h4]; simp [h4]
    · rw [if_neg (by omega), List.drop_eq_nil_of_le (by omega), F35_eq, bd_some, if_dec]
      by_cases h1 : 0 ≤ p.Next ∧ p.Next ≤ 2199023255552
      · rw [if_pos h1]; simp [chain, h1]; omega
      · rw [if_neg h1, decide_eq_false (by omega)]; simp
theorem F22_eq (N : Nat) (p : Inbox) (hN : 1000 < N) (hq : p.Ahead.length ≤ 1000) : F22 N p = some (validIn p) := by
  unfold F22 validIn
  have := L22_eq N p hq N 0 p.Next (by omega) (by omega)
  rw [show ((0 : Nat) : Int) = 0 from rfl] at this
  rw [this, List.drop_zero, Bool.and_comm]
/-! ### The place of a number -/
theorem chain_gt : ∀ {l : List Frame} {last : Int}, chain last l = true → ∀ x ∈ l, last < x.Seq ∧ x.Seq ≤ 2199023255552
  | [], _, _, _, h => by cases h
  | f :: r, last, h, x, hx => by
    obtain ⟨_, h1, h2, _, h3⟩ := chain_cons.1 h
    rcases List.mem_cons.1 hx with rfl | hx
    · exact ⟨h1, h2⟩
    · have := chain_gt h3 x hx; omega
def pos (t : Int) : List Frame → Nat
  | [] => 0
  | f :: r => if f.Seq < t then pos t r + 1 else 0
theorem pos_le (t : Int) : ∀ l : List Frame, pos t l ≤ l.length
  | [] => Nat.le_refl _
  | f :: r => by unfold pos; split <;> simp [pos_le t r]
theorem pos_iff : ∀ {l : List Frame} {last t : Int}, chain last l = true → ∀ (i : Nat) (h : i < l.length), (l[i]).Seq < t ↔ i < pos t l
  | [], _, _, _, _, h => by simp at h
  | f :: r, last, t, hc, 0, h => by
    unfold pos
    by_cases h1 : f.Seq < t <;> simp [h1]
  | f :: r, last, t, hc, i + 1, h => by
    obtain ⟨_, _, _, _, h3⟩ := chain_cons.1 hc
    have ih := pos_iff (t := t) h3 i (by simpa using h)
    unfold pos
    by_cases h1 : f.Seq < t
    · simp [h1]; exact ih
    · have := (chain_gt h3 _ (List.getElem_mem (by simpa using h : i < r.length))).1
      simp [h1]; omega
def known (t : Int) (l : List Frame) : Bool := match l[pos t l]? with | some f => f.Seq == t | none => false

theorem L39_eq (N : Nat) (l : List Frame) (t last : Int) (hc : chain last l = true) (hl : 0 ≤ last) (ht : 0 ≤ t) (ht' : t ≤ 2199023255552) (hq : l.length ≤ 1000) : ∀ (n a b : Nat), a ≤ pos t l → pos t l ≤ b → b ≤ l.length → b - a < n → L39_0 N l t n a b = some ((pos t l : Int), known t l)
  | 0, _, _, _, _, _, h => by omega
  | n + 1, a, b, h1, h2, h3, h => by
    rw [L39_0, if_dec]
    have cmp : ∀ i (hi : i < l.length), F40 N l[i] t = some ((l[i]).Seq - t) := fun i hi => by
      have := chain_gt hc _ (List.getElem_mem hi)
      unfold F40; exact ck_of (by omega) (by omega)
    by_cases hlt : a < b
    · have e1 : IntKind.wrap .u64 ((a : Int) + (b : Int)) = ((a + b : Nat) : Int) := by rw [IntKind.wrap_u64]; omega
      have e2 : ((a + b : Nat) : Int) / 2 ^ (1 : Int).toNat = (((a + b) / 2 : Nat) : Int) := by
        rw [show (2 : Int) ^ (1 : Int).toNat = 2 from rfl]; omega
      have hm : (a + b) / 2 < l.length := by omega
      rw [if_pos (by omega), ck_of (by omega) (by omega), e1, e2, ck_of (by omega) (by omega), get_of hm, cmp _ hm, bd_some, if_dec]
      have hp := pos_iff (t := t) hc _ hm
      by_cases h4 : (l[(a + b) / 2]).Seq < t
      · rw [if_pos (by omega), ck_of (by omega) (by omega), cast_succ]
        exact L39_eq N l t last hc hl ht ht' hq n _ b (by have := hp.1 h4; omega) h2 h3 (by omega)
      · rw [if_neg (by omega)]
        exact L39_eq N l t last hc hl ht ht' hq n a _ h1 (by have := fun q => h4 (hp.2 q); omega) (by omega) (by omega)
    · have e : a = pos t l := by omega
      subst e
      rw [if_neg (by omega), if_dec]
      unfold known
      by_cases h5 : pos t l < l.length
      · rw [if_pos (by omega), get_of h5, cmp _ h5, bd_some, List.getElem?_eq_getElem h5]
        congr 2
        show ((l[pos t l]).Seq - t == 0) = ((l[pos t l]).Seq == t)
        by_cases h6 : (l[pos t l]).Seq = t
        · rw [h6]; simp
        · rw [beq_false_of_ne h6, beq_false_of_ne (by omega)]
      · rw [if_neg (by omega), List.getElem?_eq_none (by omega)]
theorem F39_eq (N : Nat) (l : List Frame) (t last : Int) (hc : chain last l = true) (hl : 0 ≤ last) (ht : 0 ≤ t) (ht' : t ≤ 2199023255552) (hq : l.length ≤ 1000) (hN : 1000 < N) : F39 N l t = some ((pos t l : Int), known t l) := by
  unfold F39
  exact L39_eq N l t last hc hl ht ht' hq N 0 l.length (Nat.zero_le _) (pos_le t l) (Nat.le_refl _) (by omega)

/-! ### What is delivered -/
/-- the next number, what is delivered, what is kept -/
def scan : List Frame → Int → Int × List Frame × List Frame
  | [], n => (n, [], [])
  | x :: r, n => if x.Seq = n then ((scan r (n + 1)).1, x :: (scan r (n + 1)).2.1, (scan r (n + 1)).2.2)
    else if n < x.Seq then ((scan r n).1, (scan r n).2.1, x :: (scan r n).2.2) else scan r n
theorem scan_c {x : Frame} {r : List Frame} {n : Int} : scan (x :: r) n = if x.Seq = n then ((scan r (n + 1)).1, x :: (scan r (n + 1)).2.1, (scan r (n + 1)).2.2)
    else if n < x.Seq then ((scan r n).1, (scan r n).2.1, x :: (scan r n).2.2) else scan r n := rfl
theorem scan_len : ∀ (l : List Frame) (n : Int), (scan l n).2.1.length + (scan l n).2.2.length ≤ l.length ∧ (scan l n).1 = n + (scan l n).2.1.length
  | [], n => by simp [scan]
  | x :: r, n => by
    have h1 := scan_len r (n + 1)
    have h2 := scan_len r n
    rw [scan_c]
    split
    · simp only [List.length_cons]; omega
    · split
      · simp only [List.length_cons]; omega
      · simp only [List.length_cons]; omega

theorem F44_eq (N : Nat) (x : Frame) (n : Int) (ah out : List Frame) (hn : 0 ≤ n) (hn' : n ≤ 4398046511104) (ho : out.length ≤ 1000) :
    F44 N x ⟨n, ah⟩ out = some (if x.Seq = n then (true, ⟨n + 1, ah⟩, out ++ [x]) else (decide (x.Seq < n), ⟨n, ah⟩, out)) := by
  unfold F44
  rw [if_ite]
  by_cases h : x.Seq = n
  · rw [if_pos (by simp [h]), if_pos h, gd_of (by simp; omega), ck_of (by simp; omega) (by simp; omega)]
  · rw [if_neg (by simp [h]), if_neg h]

/-- IndexFunc: the first element that goes. -/
theorem L52_eq (N : Nat) (l : List Frame) (ah : List Frame) (hq : l.length ≤ 64) (out : List Frame) (n : Int) (hn : 0 ≤ n) (hn' : n ≤ 2199023255552) (ho : out.length ≤ 1) : ∀ (m i : Nat), i ≤ l.length → l.length - i < m →
    (L52_0 N l m i out n ah = some (-1, l, ⟨n, ah⟩, out) ∧ scan (l.drop i) n = (n, [], l.drop i)) ∨
    (∃ (j : Nat) (hj : j < l.length), i ≤ j ∧ L52_0 N l m i out n ah = some ((j : Int), l, ⟨if (l[j]).Seq = n then n + 1 else n, ah⟩, if (l[j]).Seq = n then out ++ [l[j]] else out) ∧
      scan (l.drop i) n = (if (l[j]).Seq = n then ((scan (l.drop (j + 1)) (n + 1)).1, l[j] :: (scan (l.drop (j + 1)) (n + 1)).2.1, (l.drop i).take (j - i) ++ (scan (l.drop (j + 1)) (n + 1)).2.2) else ((scan (l.drop (j + 1)) n).1, (scan (l.drop (j + 1)) n).2.1, (l.drop i).take (j - i) ++ (scan (l.drop (j + 1)) n).2.2)))
  | 0, _, _, h => by omega
  | m + 1, i, hi, h => by
    rw [L52_0, if_dec]
    by_cases hlt : i < l.length
    · rw [if_pos (by omega), get_of hlt, F44_eq N _ n ah out hn (by omega) (by omega), bd_some, if_ite]
      by_cases h1 : (l[i]).Seq = n
      · right
        refine ⟨i, hlt, Nat.le_refl _, ?_, ?_⟩
        · simp [h1]
        · rw [drop_cons hlt, scan_c]; simp [h1]
      · simp only [if_neg h1]
        by_cases h2 : (l[i]).Seq < n
        · right
          refine ⟨i, hlt, Nat.le_refl _, ?_, ?_⟩
          · simp [h1, h2]
          · rw [drop_cons hlt]
            have h3 : ¬ n < (l[i]).Seq := by omega
            rw [scan_c]; simp [h1, h3]
        · rw [if_neg (by simp [h2]), ck_of (by omega) (by omega), cast_succ]
          have h3 : n < (l[i]).Seq := by omega
          rcases L52_eq N l ah hq out n hn hn' ho m (i + 1) (by omega) (by omega) with ⟨g1, g2⟩ | ⟨j, hj, g0, g1, g2⟩
          · left
            refine ⟨g1, ?_⟩
            rw [drop_cons hlt, scan_c, if_neg h1, if_pos h3, g2]
          · right
            refine ⟨j, hj, by omega, g1, ?_⟩
            rw [drop_cons hlt, scan_c, if_neg h1, if_pos h3, g2]
            have e : j - i = (j - (i + 1)) + 1 := by omega
            rw [e, List.take_succ_cons]
            split <;> simp
    · left
      rw [if_neg (by omega), List.drop_eq_nil_of_le (by omega)]
      exact ⟨rfl, rfl⟩

theorem take_set {α : Type} (l : List α) (a : Nat) (x : α) (h : a < l.length) : (l.set a x).take (a + 1) = l.take a ++ [x] := by
  rw [List.take_add_one, List.take_set_of_le (Nat.le_refl _), List.getElem?_set_self h]; rfl

theorem L43_eq (N : Nat) (l : List Frame) (hq : l.length ≤ 64) : ∀ (m i a : Nat) (cur : List Frame) (n : Int) (ah out : List Frame), i ≤ l.length → l.length - i < m → a < i → cur.length = l.length → cur.drop i = l.drop i → 0 ≤ n → n ≤ 2199023255552 + i → out.length ≤ 1 + i →
    ∃ c, L43_0 N m a i out cur n ah = some (((cur.take a ++ (scan (l.drop i) n).2.2).length : Int), c, ⟨(scan (l.drop i) n).1, ah⟩, out ++ (scan (l.drop i) n).2.1) ∧ c.length = l.length ∧ (cur.take a ++ (scan (l.drop i) n).2.2).length ≤ l.length ∧ c.take (cur.take a ++ (scan (l.drop i) n).2.2).length = cur.take a ++ (scan (l.drop i) n).2.2
  | 0, _, _, _, _, _, _, _, h, _, _, _, _, _, _ => by omega
  | m + 1, i, a, cur, n, ah, out, hi, h, ha, hcl, hcd, h1, h2, h3 => by
    rw [L43_0, if_dec]
    by_cases hlt : i < l.length
    · have hlt' : i < cur.length := by omega
      have hx : cur[i] = l[i] := by
        have : (cur.drop i)[0]? = (l.drop i)[0]? := by rw [hcd]
        rw [List.getElem?_drop, List.getElem?_drop, Nat.add_zero, List.getElem?_eq_getElem hlt', List.getElem?_eq_getElem hlt] at this
        exact Option.some.inj this
      have hd1 : cur.drop (i + 1) = l.drop (i + 1) := by
        have := congrArg (List.drop 1) hcd
        rwa [List.drop_drop, List.drop_drop] at this
      rw [if_pos (by omega), get_of hlt', F44_eq N _ n ah out h1 (by omega) (by omega), bd_some, hx, if_ite, drop_cons hlt]
      by_cases h5 : (l[i]).Seq = n
      · simp only [if_pos h5]
        rw [if_true, ck_of (by omega) (by omega), cast_succ]
        obtain ⟨c, g1, g2, g3, g4⟩ := L43_eq N l hq m (i + 1) a cur (n + 1) ah (out ++ [l[i]]) (by omega) (by omega) (by omega) hcl hd1 (by omega) (by omega) (by simp; omega)
        rw [scan_c]
        simp only [if_pos h5]
        refine ⟨c, ?_, g2, g3, g4⟩
        rw [g1]; simp
      · simp only [if_neg h5]
        by_cases h6 : (l[i]).Seq < n
        · rw [if_pos (by simp [h6]), ck_of (by omega) (by omega), cast_succ]
          obtain ⟨c, g1, g2, g3, g4⟩ := L43_eq N l hq m (i + 1) a cur n ah out (by omega) (by omega) (by omega) hcl hd1 h1 (by omega) (by omega)
          have h7 : ¬ n < (l[i]).Seq := by omega
          rw [scan_c]
          simp only [if_neg h5, if_neg h7]
          exact ⟨c, g1, g2, g3, g4⟩
        · have h7 : n < (l[i]).Seq := by omega
          have ha' : a < cur.length := by omega
          rw [if_neg (by simp [h6]), get_of ha', ck_of (by omega) (by omega), ck_of (by omega) (by omega), cast_succ, cast_succ, Int.toNat_natCast]
          obtain ⟨c, g1, g2, g3, g4⟩ := L43_eq N l hq m (i + 1) (a + 1) (cur.set a (l[i])) n ah out (by omega) (by omega) (by omega) (by simp [hcl]) (by rw [List.drop_set_of_lt (by omega)]; exact hd1) h1 (by omega) (by omega)
          rw [take_set _ _ _ ha'] at g1 g3 g4
          rw [scan_c]
          simp only [if_neg h5, if_pos h7]
          have e : cur.take a ++ [l[i]] ++ (scan (l.drop (i + 1)) n).2.2 = cur.take a ++ l[i] :: (scan (l.drop (i + 1)) n).2.2 := by simp
          rw [e] at g1 g3 g4
          exact ⟨c, g1, g2, g3, g4⟩
    · rw [if_neg (by omega), gd_of (by omega), gd_of (by omega), gd_of (by omega), gd_of (by simp; omega), List.drop_eq_nil_of_le (by omega : l.length ≤ i)]
      simp only [scan, List.append_nil, Int.toNat_natCast]
      have e : (cur.take a).length = a := by simp; omega
      refine ⟨cur.take a ++ List.replicate (cur.length - a) ⟨false, 0, []⟩ ++ cur.drop (a + (cur.length - a)), ?_, ?_, by omega, ?_⟩
      · rw [e]; simp
      · simp; omega
      · rw [e, List.append_assoc, List.take_left' e]

theorem F43_eq (N : Nat) (l ah : List Frame) (n : Int) (f : Frame) (hq : l.length ≤ 64) (hN : 1000 < N) (hn : 0 ≤ n) (hn' : n ≤ 2199023255552) :
    ∃ c, F43 N l ⟨n, ah⟩ [f] = some (((scan l n).2.2.length : Int), c, ⟨(scan l n).1, ah⟩, [f] ++ (scan l n).2.1) ∧ c.length = l.length ∧ (scan l n).2.2.length ≤ l.length ∧ c.take (scan l n).2.2.length = (scan l n).2.2 := by
  unfold F43 F52
  have e0 : l.drop 0 = l := List.drop_zero
  rcases L52_eq N l ah hq [f] n hn hn' (by simp) N 0 (by omega) (by omega) with ⟨g1, g2⟩ | ⟨j, hj, _, g1, g2⟩
  · rw [e0] at g2
    rw [show ((0 : Nat) : Int) = 0 from rfl] at g1
    rw [g1, bd_some, gd_of rfl, if_ite, if_pos (by simp), g2]
    exact ⟨l, by simp, rfl, Nat.le_refl _, by simp⟩
  · rw [e0] at g2
    rw [show ((0 : Nat) : Int) = 0 from rfl] at g1
    rw [g1, bd_some, gd_of rfl, if_ite, if_neg (by simp <;> omega), ck_of (by show _ ≤ (j : Int) + 1; omega) (by show (j : Int) + 1 ≤ _; omega)]
    have ej : ((j : Int) + 1) = ((j + 1 : Nat) : Int) := by omega
    rw [Nat.sub_zero] at g2
    rw [g2]
    by_cases h1 : (l[j]).Seq = n
    · simp only [if_pos h1]
      obtain ⟨c, q1, q2, q3, q4⟩ := L43_eq N l hq N (j + 1) j l (n + 1) ah ([f] ++ [l[j]]) (by omega) (by omega) (by omega) rfl rfl (by omega) (by omega) (by simp; omega)
      rw [ej]
      refine ⟨c, ?_, q2, q3, q4⟩
      have := q1
      simp only [List.append_assoc] at this ⊢
      exact this
    · simp only [if_neg h1]
      obtain ⟨c, q1, q2, q3, q4⟩ := L43_eq N l hq N (j + 1) j l n ah [f] (by omega) (by omega) (by omega) rfl rfl (by omega) (by omega) (by simp)
      rw [ej]
      exact ⟨c, q1, q2, q3, q4⟩

/-! ### Receive -/
def insAt (f : Frame) (l : List Frame) : List Frame := l.take (pos f.Seq l) ++ [f] ++ l.drop (pos f.Seq l)
def recvS (i : Inbox) (f : Frame) : Inbox × List Frame × Int :=
  if validIn i = true ∧ 0 ≤ f.Seq ∧ f.Seq ≤ 1099511627776 ∧ bodyOk f.Body = true then
    (if f.Seq < i.Next ∨ (f.Sum = true ∧ f.Seq = i.Next) then (i, [], 0)
     else if f.Sum = false ∧ i.Next < f.Seq then (if known f.Seq i.Ahead = false ∧ i.Ahead.length < 64 then (⟨i.Next, insAt f i.Ahead⟩, [], 0) else (i, [], 0))
     else (⟨(scan i.Ahead (if f.Sum = true then f.Seq else f.Seq + 1)).1, (scan i.Ahead (if f.Sum = true then f.Seq else f.Seq + 1)).2.2⟩, [f] ++ (scan i.Ahead (if f.Sum = true then f.Seq else f.Seq + 1)).2.1, 0))
  else (i, [], 1)
theorem validIn_le {i : Inbox} (h : validIn i = true) : 0 ≤ i.Next ∧ i.Next ≤ 2199023255552 ∧ i.Ahead.length ≤ 64 ∧ chain i.Next i.Ahead = true := by
  unfold validIn at h
  simp only [Bool.and_eq_true, decide_eq_true_eq] at h
  exact ⟨h.1.1, h.1.2.1, h.1.2.2, h.2⟩
theorem F23_eq (N : Nat) (i : Inbox) (f : Frame) (hN : 1000 < N) (hq : i.Ahead.length ≤ 1000) : F23 N i f = some (recvS i f) := by
  unfold F23 recvS
  rw [F22_eq N i hN hq, bd_some, if_ite]
  by_cases hv : validIn i = true
  · obtain ⟨v1, v2, v3, v4⟩ := validIn_le hv
    rw [if_pos hv, F35_eq, bd_some, if_dec]
    by_cases hs : 0 ≤ f.Seq ∧ f.Seq ≤ 1099511627776
    · rw [if_pos hs, F31_eq, bd_some, if_ite]
      by_cases hb : bodyOk f.Body = true
      · rw [if_pos hb, if_pos ⟨hv, hs.1, hs.2, hb⟩, F39_eq N i.Ahead f.Seq i.Next v4 v1 hs.1 (by omega) hq hN, bd_some, if_dec]
        by_cases h1 : f.Seq < i.Next
        · rw [if_pos h1, if_pos (.inl h1)]
        · rw [if_neg h1, if_ite]
          by_cases h2 : f.Sum = true
          · rw [if_pos h2, if_ite]
            by_cases h3 : f.Seq = i.Next
            · rw [if_pos (by simp [h3]), if_pos (.inr ⟨h2, h3⟩)]
            · rw [if_neg (by simp [h3]), if_neg (by simp [h1, h3]), if_neg (by simp [h2]), F42_eq N _ (by omega), bd_some]
              obtain ⟨c, q1, q2, q3, q4⟩ := F43_eq N i.Ahead i.Ahead f.Seq f v3 hN hs.1 (by omega)
              rw [q1, bd_some, gd_of q2, gd_of (by simp; omega)]
              simp only [Int.toNat_natCast, q4, if_pos h2]
          · have h2' : f.Sum = false := by simpa using h2
            rw [if_neg h2, if_neg (by simp [h1, h2']), if_dec]
            by_cases h3 : i.Next < f.Seq
            · rw [if_pos h3, if_pos ⟨h2', h3⟩, if_ite]
              by_cases h4 : known f.Seq i.Ahead = true
              · rw [if_pos h4, if_neg (by simp [h4])]
              · have h4' : known f.Seq i.Ahead = false := by simpa using h4
                rw [if_neg h4, if_dec]
                by_cases h5 : i.Ahead.length < 64
                · rw [if_pos (by omega), if_pos ⟨h4', h5⟩, F42_eq N _ (by omega), bd_some]
                  have := pos_le f.Seq i.Ahead
                  unfold F41
                  rw [gd_of (by simp), gd_of (by simp; omega), gd_of (by simp; omega), bd_some]
                  simp only [Int.toNat_natCast, insAt]
                · rw [if_neg (by omega), if_neg (by simp [h5])]
            · rw [if_neg h3, if_neg (by simp [h3]), ck_of (by omega) (by omega), F42_eq N _ (by omega), bd_some]
              obtain ⟨c, q1, q2, q3, q4⟩ := F43_eq N i.Ahead i.Ahead (f.Seq + 1) f v3 hN (by omega) (by omega)
              rw [q1, bd_some, gd_of q2, gd_of (by simp; omega)]
              simp only [Int.toNat_natCast, q4, if_neg h2]
      · rw [if_neg hb, if_neg (fun h => hb h.2.2.2)]
    · rw [if_neg hs, if_neg (fun h => hs ⟨h.2.1, h.2.2.1⟩)]
  · rw [if_neg hv, if_neg (fun h => hv h.1)]
end Go.Proofs.Try
