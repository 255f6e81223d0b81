/- link: what every act keeps. -/
import Derived.Test.YtakffbnhhfkipaaP6
import Derived.Test.YtakffbnhhfkipaaP6a
set_option linter.unusedSimpArgs false
set_option linter.unusedVariables false
namespace Go.Proofs.Try
open Go.Eng
theorem RInv.recv {i : Inbox} {d : List Frame} {e : Int} {f : Frame} (h : RInv i d e) (hf : FrOk e f) (he : e ≤ 1000) :
    (recvS i f).2.2 = 0 ∧ RInv (recvS i f).1 (d ++ (recvS i f).2.1) e ∧ i.Next ≤ (recvS i f).1.Next := by
  have hv := recvS_valid (f := f) h.v
  have hr := hf.rng
  have hle := validIn_le h.v
  have hnx := h.nx
  have hcond : validIn i = true ∧ 0 ≤ f.Seq ∧ f.Seq ≤ 1099511627776 ∧ bodyOk f.Body = true := ⟨h.v, hr.1, by omega, hf.body⟩
  have key : (recvS i f).2.2 = 0 ∧ (recvS i f).1.Next ≤ e ∧ (∀ x ∈ (recvS i f).1.Ahead, x.Sum = false ∧ x.Seq < e ∧ x.Body = msg x.Seq) ∧ ordFrom (d ++ (recvS i f).2.1) 0 = some (recvS i f).1.Next := by
    unfold recvS; rw [if_pos hcond]
    split
    · exact ⟨rfl, hnx, h.ah, by simpa using h.od⟩
    · rename_i h1
      split
      · rename_i h2
        split
        · refine ⟨rfl, hnx, fun x hx => ?_, by simpa using h.od⟩
          rcases insAt_mem hx with rfl | hx
          · unfold FrOk at hf; rw [if_neg (by simp [h2.1])] at hf; exact ⟨h2.1, hf.2.1, hf.2.2⟩
          · exact h.ah x hx
        · exact ⟨rfl, hnx, h.ah, by simpa using h.od⟩
      · rename_i h2
        have hf' := hf
        unfold FrOk at hf'
        by_cases hs : f.Sum = true
        · rw [if_pos hs] at hf' ⊢
          obtain ⟨g1, g2, g3⟩ := scan_ord e i.Ahead f.Seq hr.2 h.ah
          have hlt : i.Next < f.Seq := by
            rcases Int.lt_trichotomy f.Seq i.Next with q | q | q
            · exact absurd (Or.inl q) h1
            · exact absurd (Or.inr ⟨hs, q⟩) h1
            · exact q
          refine ⟨rfl, g2, g3, ?_⟩
          rw [ordFrom_app, h.od]
          show ordFrom (f :: (scan i.Ahead f.Seq).2.1) i.Next = _
          simp only [ordFrom]
          rw [if_pos hs, if_pos ⟨hlt, hf'.2.2⟩]; exact g1
        · rw [if_neg hs] at hf' ⊢
          obtain ⟨g1, g2, g3⟩ := scan_ord e i.Ahead (f.Seq + 1) (by omega) h.ah
          have hs' : f.Sum = false := by simpa using hs
          have hlt : f.Seq = i.Next := by
            rcases Int.lt_trichotomy f.Seq i.Next with q | q | q
            · exact absurd (Or.inl q) h1
            · exact q
            · exact absurd ⟨hs', q⟩ h2
          refine ⟨rfl, g2, g3, ?_⟩
          rw [ordFrom_app, h.od]
          show ordFrom (f :: (scan i.Ahead (f.Seq + 1)).2.1) i.Next = _
          simp only [ordFrom]
          rw [if_neg hs, if_pos ⟨hlt, hf'.2.2⟩, ← hlt]; exact g1
  exact ⟨key.1, ⟨hv.1, key.2.1, key.2.2.1, key.2.2.2⟩, hv.2⟩

structure Inv (k : Nat) (e : Int) (w : WLine) : Prop where
  s : SInv w.O e
  ek : e ≤ k
  r : RInv w.I w.Delivered e
  fr : ∀ f ∈ w.Sent, FrOk e f
  sl : w.Sent.length ≤ 20 * k
  tl : w.Told.length ≤ k
  td : ∀ t ∈ w.Told, 0 ≤ t ∧ t ≤ w.I.Next
  ak : w.O.Acked ≤ w.I.Next
  bd : w.Bad = false
theorem Inv.zero : Inv 0 0 ⟨⟨0, 0, [], []⟩, ⟨0, []⟩, [], [], [], false⟩ :=
  ⟨⟨by decide, rfl, by decide, by decide, fun j h => by simp at h, fun q => absurd q (by decide), rfl⟩, by decide, ⟨by decide, by decide, fun x h => (by cases h), rfl⟩, fun f h => (by cases h), by decide, by decide, fun f h => (by cases h), by decide, rfl⟩
theorem Inv.up {k : Nat} {e : Int} {w : WLine} (h : Inv k e w) : Inv (k + 1) e w :=
  ⟨h.s, by have := h.ek; omega, h.r, h.fr, by have := h.sl; omega, by have := h.tl; omega, h.td, h.ak, h.bd⟩
theorem Inv.del {k : Nat} {e : Int} {w : WLine} (h : Inv k e w) : (w.Delivered.length : Int) ≤ w.I.Next ∧ w.I.Next ≤ k := by
  have h1 := ordFrom_len h.r.od; have h2 := h.r.nx; have h3 := h.ek
  omega
theorem ackS_acked (o : Outbox) (u n : Int) (h0 : 0 ≤ n) (h1 : o.Acked ≤ n) (h2 : u ≤ n) : (ackS o u).1.Acked ≤ n := by
  unfold ackS
  split
  · split
    · exact h1
    · split
      · exact h2
      · exact h2
  · exact h0
theorem act_ok {k : Nat} {e : Int} {w : WLine} {a : WAct} (h : Inv k e w) (hk : k < 100) (h0 : 0 ≤ a.N) (h1 : a.N ≤ 255) :
    ∃ w' e', F28 2000 w a = some w' ∧ Inv (k + 1) e' w' := by
  have s1 := h.s.b0; have s2 := h.s.e_; have s3 := h.s.a0; have s4 := h.s.ae; have ek := h.ek; have sl := h.sl; have tl := h.tl; have dl := h.del
  have vi := validIn_le h.r.v
  have hb : ¬ (w.Bad = true) := by simp [h.bd]
  unfold F28
  rw [ck_of (by omega) (by omega), s2]
  simp only [if_ite, beq_iff_eq]
  by_cases c0 : Int.tmod a.Kind 6 = 0
  · rw [if_pos c0, F46_eq _ e (by omega) (by omega), bd_some, F10_eq _ _ _ (by omega) (by omega), bd_some, if_neg hb]
    obtain ⟨p1, p2⟩ := h.s.put (by omega)
    rw [p1]
    exact ⟨_, e + 1, rfl, ⟨p2, by omega, h.r.mono (by omega), fun f hf => (h.fr f hf).mono (by omega), by show w.Sent.length ≤ _; omega, by show w.Told.length ≤ _; omega, h.td, h.ak, rfl⟩⟩
  rw [if_neg c0]
  by_cases c1 : Int.tmod a.Kind 6 = 1
  · rw [if_pos c1, ck_of (by omega) (by omega), ck_of (by omega) (by omega), gd_of (by omega)]
    have t : 0 ≤ Int.tmod a.N ((w.O.Queue.length : Int) + 1) ∧ Int.tmod a.N ((w.O.Queue.length : Int) + 1) ≤ w.O.Queue.length := by
      rw [Int.tmod_eq_emod_of_nonneg h0]
      have := Int.emod_nonneg a.N (by omega : (w.O.Queue.length : Int) + 1 ≠ 0)
      have := Int.emod_lt_of_pos a.N (by omega : 0 < (w.O.Queue.length : Int) + 1)
      omega
    generalize Int.tmod a.N ((w.O.Queue.length : Int) + 1) = v at t ⊢
    rw [ck_of (by omega) (by omega), F47_eq _ _ (by omega) (by omega), bd_some, F11_eq _ _ _ _ (by omega) (by omega), bd_some, if_neg hb]
    obtain ⟨p1, p2⟩ := h.s.fold (u := w.O.Base + v) (by omega) (by omega) (by omega)
    rw [p1]
    exact ⟨_, e, rfl, ⟨p2, by omega, h.r, h.fr, by show w.Sent.length ≤ _; omega, by show w.Told.length ≤ _; omega, h.td, h.ak, rfl⟩⟩
  rw [if_neg c1]
  by_cases c2 : Int.tmod a.Kind 6 = 2
  · have t : 0 ≤ Int.tmod a.N 20 ∧ Int.tmod a.N 20 < 20 := by
      rw [Int.tmod_eq_emod_of_nonneg h0]; omega
    rw [if_pos c2, ck_of (by omega) (by omega)]
    generalize Int.tmod a.N 20 = v at t ⊢
    rw [ck_of (by omega) (by omega), F12_eq _ _ _ (by omega) (by omega), bd_some]
    have hF : framesS w.O (1 + v) = ((allFrames w.O).take (1 + v).toNat, 0) := by
      unfold framesS; rw [if_pos ⟨h.s.valid (by omega), by omega⟩]
    rw [hF]
    have hl : ((allFrames w.O).take (1 + v).toNat).length ≤ 20 := by rw [List.length_take]; omega
    rw [gd_of (by omega), gd_of (by show (_ + ((allFrames w.O).take (1 + v).toNat).length) * _ ≤ _; omega), if_neg hb]
    refine ⟨_, e, rfl, ⟨h.s, by omega, h.r, fun f hf => ?_, by show (w.Sent ++ _).length ≤ _; rw [List.length_append]; show _ + ((allFrames w.O).take (1 + v).toNat).length ≤ _; omega, by show w.Told.length ≤ _; omega, h.td, h.ak, rfl⟩⟩
    rcases List.mem_append.1 hf with hf | hf
    · exact h.fr f hf
    · exact h.s.frames f (List.mem_of_mem_take hf)
  rw [if_neg c2]
  by_cases c3 : Int.tmod a.Kind 6 = 3
  · rw [if_pos c3]
    by_cases hz : 0 < w.Sent.length
    · rw [if_pos (by rw [decide_eq_true_eq]; omega), ck_of (by omega) (by omega), gd_of (by omega)]
      have t : 0 ≤ Int.tmod a.N (w.Sent.length : Int) ∧ Int.tmod a.N (w.Sent.length : Int) < w.Sent.length := by
        rw [Int.tmod_eq_emod_of_nonneg h0]
        exact ⟨Int.emod_nonneg a.N (by omega), Int.emod_lt_of_pos a.N (by omega)⟩
      generalize Int.tmod a.N (w.Sent.length : Int) = v at t ⊢
      obtain ⟨j, rfl⟩ : ∃ j : Nat, v = j := ⟨v.toNat, by omega⟩
      have hj : j < w.Sent.length := by omega
      rw [get_of hj, F23_eq _ _ _ (by omega) (by omega), bd_some]
      obtain ⟨q1, q2, q3⟩ := h.r.recv (h.fr _ (List.getElem_mem hj)) (by omega)
      have hd2 := ordFrom_len q2.od
      have hd3 := q2.nx
      rw [List.length_append] at hd2
      rw [gd_of (by omega), gd_of (by omega), gd_of (by omega), gd_of (by simp; omega), if_neg hb, q1]
      refine ⟨_, e, rfl, ⟨h.s, by omega, q2, h.fr, by show w.Sent.length ≤ _; omega, by show (w.Told ++ _).length ≤ _; simp; omega, fun t ht => ?_, by show w.O.Acked ≤ (recvS w.I w.Sent[j]).1.Next; have := h.ak; omega, rfl⟩⟩
      show 0 ≤ t ∧ t ≤ (recvS w.I w.Sent[j]).1.Next
      rcases List.mem_append.1 ht with ht | ht
      · have := h.td t ht; omega
      · rw [List.mem_singleton] at ht; omega
    · rw [if_neg (by rw [decide_eq_true_eq]; omega)]
      exact ⟨_, _, rfl, h.up⟩
  rw [if_neg c3]
  by_cases c4 : Int.tmod a.Kind 6 = 4
  · rw [if_pos c4]
    by_cases hz : 0 < w.Told.length
    · rw [if_pos (by rw [decide_eq_true_eq]; omega), ck_of (by omega) (by omega), gd_of (by omega)]
      have t : 0 ≤ Int.tmod a.N (w.Told.length : Int) ∧ Int.tmod a.N (w.Told.length : Int) < w.Told.length := by
        rw [Int.tmod_eq_emod_of_nonneg h0]
        exact ⟨Int.emod_nonneg a.N (by omega), Int.emod_lt_of_pos a.N (by omega)⟩
      generalize Int.tmod a.N (w.Told.length : Int) = v at t ⊢
      obtain ⟨j, rfl⟩ : ∃ j : Nat, v = j := ⟨v.toNat, by omega⟩
      have hj : j < w.Told.length := by omega
      rw [get_of hj, F13_eq _ _ _ (by omega) (by omega), bd_some, if_neg hb]
      have ht := h.td _ (List.getElem_mem hj)
      have hn := h.r.nx
      obtain ⟨q1, q2⟩ := h.s.ack (u := w.Told[j]) (by omega) ht.1 (by omega)
      rw [q1]
      refine ⟨_, e, rfl, ⟨q2, by omega, h.r, h.fr, by show w.Sent.length ≤ _; omega, by show w.Told.length ≤ _; omega, h.td, ?_, rfl⟩⟩
      exact ackS_acked w.O w.Told[j] w.I.Next vi.1 h.ak ht.2
    · rw [if_neg (by rw [decide_eq_true_eq]; omega)]
      exact ⟨_, _, rfl, h.up⟩
  rw [if_neg c4]
  by_cases c5 : Int.tmod a.Kind 6 = 5
  · rw [if_pos c5]
    unfold F25
    rw [bd_some]
    refine ⟨_, e, rfl, ⟨h.s, by omega, ⟨?_, h.r.nx, fun x hx => (by cases hx), h.r.od⟩, h.fr, by show w.Sent.length ≤ _; omega, by show w.Told.length ≤ _; omega, h.td, h.ak, h.bd⟩⟩
    unfold validIn
    rw [decide_eq_true ⟨vi.1, vi.2.1, Nat.zero_le 64⟩]; rfl
  · rw [if_neg c5]
    exact ⟨_, _, rfl, h.up⟩
end Go.Proofs.Try
