/- Slices with their capacity; slices.overlaps; slices.Insert. -/
import Derived.Test.YtakffbnhhfkipaaE27
import Derived.Lib.Overlaps
set_option linter.unusedSimpArgs false
set_option linter.unusedVariables false
namespace Go.Eng
open Go.RowKit

/-! ### What lies behind a slice's elements -/
def junkCells (vs : Array Value) : Nat → Nat → List DV
  | 0, _ => []
  | k + 1, o => .C (vs.getD o undef) :: junkCells vs k (o + 1)
def junkRows (vs : Array Value) (k : Nat) : Nat → Nat → List (List DV)
  | 0, _ => []
  | n + 1, o => junkCells vs k o :: junkRows vs k n (o + k)
theorem junkCells_length (vs : Array Value) : ∀ k o, (junkCells vs k o).length = k
  | 0, _ => rfl
  | k + 1, o => by simp [junkCells, junkCells_length vs k]
theorem junkRows_length (vs : Array Value) (k : Nat) : ∀ n o, (junkRows vs k n o).length = n
  | 0, _ => rfl
  | n + 1, o => by simp [junkRows, junkRows_length vs k n]
theorem junkRows_uni (vs : Array Value) (k : Nat) : ∀ n o, Uni k (junkRows vs k n o)
  | 0, _ => fun _ h => by cases h
  | n + 1, o => fun e h => by
    rcases List.mem_cons.1 h with rfl | h
    · exact junkCells_length vs k o
    · exact junkRows_uni vs k n _ e h
theorem junkCells_rep (G : Gh) (vs : Array Value) : ∀ k o, o + k ≤ vs.size → DV.cells G (fun i => vs[i]?) o (junkCells vs k o)
  | 0, _, _ => by simp [junkCells, DV.cells]
  | k + 1, o, h => by
    unfold junkCells DV.cells
    refine ⟨⟨vs.getD o undef, ?_, by unfold DV.Rep; rfl⟩, junkCells_rep G vs k (o + 1) (by omega)⟩
    simp only [Array.getD_eq_getD_getElem?]
    rw [Array.getElem?_eq_getElem (by omega)]; rfl
theorem junkRows_rep (G : Gh) (vs : Array Value) (k : Nat) : ∀ n o, o + n * k ≤ vs.size → DV.rows G (fun i => vs[i]?) k o (junkRows vs k n o)
  | 0, _, _ => by simp [junkRows, DV.rows]
  | n + 1, o, h => by
    rw [Nat.add_mul, Nat.one_mul] at h
    unfold junkRows DV.rows
    exact ⟨junkCells_length _ _ _, junkCells_rep G vs k o (by omega), junkRows_rep G vs k n (o + k) (by omega)⟩

/-- A row, and a slice of it, are known as far as the capacity goes. -/
def AState.ext (s : AState) (h : Hd) (t k n cap : Nat) (es : List (List DV)) : AState := (s.setBlk h (some (.row true k es))).put (some t) (.slk h k 0 n cap) [] []
theorem lk_ext (s : AState) (h : Hd) (t k n cap : Nat) (es : List (List DV)) (x : Hd) : (s.ext h t k n cap es).lk x = if x = h then some (.row true k es) else s.lk x := by
  unfold AState.ext
  rw [lk_put, lkF_nil, lkN_nil, lk_setBlk]

theorem nx_ext (s : AState) (h : Hd) (t k n cap : Nat) (es : List (List DV)) : (s.ext h t k n cap es).nx = s.nx := by unfold AState.ext AState.put; rw [setBlk_nx]; rfl
theorem AState.ext_ok {E : Ent} {s : AState} {a : Act} {w : World} (hA : ASim E s a w) {h : Hd} {t k n : Nat} {es : List (List DV)} (ht : t < E.N) (he : s.env t = .sl h k 0 n) (hl : s.lk h = some (.row true k es)) (hn : es.length = n) (hpos : 0 < n) :
    ∃ cap junk, n ≤ cap ∧ (es ++ junk).length = cap ∧ Uni k junk ∧ ASim E (s.ext h t k n cap (es ++ junk)) a w := by
  obtain ⟨G, m, hA⟩ := hA
  have hr := hA.env t
  rw [he] at hr
  have hr0 := hr
  unfold AV.Rep at hr
  obtain ⟨h1, loc, hloc, hs⟩ := hr
  have hnd : loc ≠ .dead := fun e => by subst e; rw [hA.sim.dead _ hloc] at hl; cases hl
  rcases hs hnd with ⟨_, _, e⟩ | ⟨b, sz, cap, rfl, hv, hcap, hsz⟩
  · omega
  obtain ⟨bl, h2, h3⟩ := hA.sim.blk _ _ _ hloc
  rw [hl] at h2
  cases h2
  obtain ⟨vs, T, q1, q2, q3, q4, q5⟩ := h3
  rw [Nat.zero_add] at hsz
  have hnk : n * k + (cap - n) * k = cap * k := by rw [← Nat.add_mul]; congr 1; omega
  refine ⟨cap, junkRows vs k (cap - n) (n * k), hcap, by rw [List.length_append, junkRows_length]; omega, junkRows_uni _ _ _ _, G, m, ⟨fun x b' sz' hx => ?_, fun x hx => ?_, hA.sim.inj, hA.sim.gh, fun x hx => ?_⟩, fun u => ?_, hA.size, hA.defers, ?_, fun i hi => hA.fresh i (by rw [nx_ext] at hi; exact hi), hA.frame, hA.base, hA.own, trivial, fun j hj => ?_⟩
  · rw [lk_ext]
    by_cases e : x = h
    · subst e
      rw [hloc] at hx
      cases hx
      rw [if_pos rfl]
      refine ⟨_, rfl, vs, T, q1, q2, ?_, DV.rows_append q4 (by rw [Nat.zero_add, hn]; exact junkRows_rep G vs k _ _ (by omega)), q5⟩
      rw [List.length_append, junkRows_length, hn, Nat.add_mul]; omega
    · rw [if_neg e]; exact hA.sim.blk _ _ _ hx
  · rw [lk_ext]
    by_cases e : x = h
    · subst e; rw [hloc] at hx; cases hx
    · rw [if_neg e]; exact hA.sim.nil _ hx
  · rw [lk_ext]
    by_cases e : x = h
    · subst e; rw [hloc] at hx; cases hx
    · rw [if_neg e]; exact hA.sim.dead _ hx
  · have henv : (s.ext h t k n cap (es ++ junkRows vs k (cap - n) (n * k))).env = upd s.env t (.slk h k 0 n cap) := by
      unfold AState.ext AState.put setDst; rw [setBlk_env]
    rw [henv]
    unfold upd
    by_cases e : u = t
    · subst e
      rw [if_pos rfl, hv]
      unfold AV.Rep
      exact ⟨rfl, _, hloc, fun _ => ⟨b, sz, rfl, rfl, hcap, by rw [Nat.zero_add]; exact hsz⟩⟩
    · rw [if_neg e]; exact hA.env u
  · have henv : (s.ext h t k n cap (es ++ junkRows vs k (cap - n) (n * k))).env = upd s.env t (.slk h k 0 n cap) := by
      unfold AState.ext AState.put setDst; rw [setBlk_env]
    rw [henv]
    unfold upd
    rw [if_neg (by omega)]
    exact hA.jok
  · have hnx : (s.ext h t k n cap (es ++ junkRows vs k (cap - n) (n * k))).nx = s.nx := by
      unfold AState.ext AState.put; rw [setBlk_nx]; rfl
    rw [hnx] at hj
    have := hA.nxOk j hj
    have h9 : (s.ext h t k n cap (es ++ junkRows vs k (cap - n) (n * k))).lk (.O j) = (s.ext h t k n cap (es ++ junkRows vs k (cap - n) (n * k))).own j := rfl
    rw [← h9, lk_ext]
    by_cases e : (Hd.O j) = h
    · subst e
      have h0 : s.lk (.O j) = none := this
      rw [h0] at hl; cases hl
    · rw [if_neg e]; exact this

/-- What is behind the elements is left aside. -/
def AState.trim (s : AState) (h : Hd) (t k n : Nat) (es : List (List DV)) : AState := (s.setBlk h (some (.row true k es))).put (some t) (.sl h k 0 n) [] []
theorem AState.trim_ok (s : AState) (h : Hd) (t k n cap : Nat) (es junk : List (List DV)) (he : s.env t = .slk h k 0 n cap) (hl : s.lk h = some (.row true k (es ++ junk))) : Wk s (s.trim h t k n es) := fun E a w ⟨G, m, hA⟩ => by
  have hlk : ∀ x, (s.trim h t k n es).lk x = if x = h then some (.row true k es) else s.lk x := fun x => by
    unfold AState.trim
    rw [lk_put, lkF_nil, lkN_nil, lk_setBlk]
  have hnx : (s.trim h t k n es).nx = s.nx := by
    unfold AState.trim AState.put; rw [setBlk_nx]; rfl
  have henv : (s.trim h t k n es).env = upd s.env t (.sl h k 0 n) := by
    unfold AState.trim AState.put setDst; rw [setBlk_env]
  have hr := hA.env t
  rw [he] at hr
  unfold AV.Rep at hr
  obtain ⟨h1, loc, hloc, hs⟩ := hr
  have hnd : loc ≠ .dead := fun e => by subst e; rw [hA.sim.dead _ hloc] at hl; cases hl
  obtain ⟨b, sz, rfl, hv, hcap, hsz⟩ := hs hnd
  refine ⟨G, m, ⟨fun x b' sz' hx => ?_, fun x hx => ?_, hA.sim.inj, hA.sim.gh, fun x hx => ?_⟩, fun u => ?_, hA.size, hA.defers, ?_, fun i hi => hA.fresh i (by rw [hnx] at hi; exact hi), hA.frame, hA.base, hA.own, trivial, fun j hj => ?_⟩
  · rw [hlk]
    by_cases e : x = h
    · subst e
      obtain ⟨bl, h2, h3⟩ := hA.sim.blk _ _ _ hx
      rw [hl] at h2
      cases h2
      obtain ⟨vs, T, q1, q2, q3, q4, q5⟩ := h3
      rw [if_pos rfl]
      rw [List.length_append, Nat.add_mul] at q3
      refine ⟨_, rfl, vs, T, q1, q2, by omega, ?_, q5⟩
      have := DV.rows_take es.length q4
      rwa [List.take_left] at this
    · rw [if_neg e]; exact hA.sim.blk _ _ _ hx
  · rw [hlk]
    by_cases e : x = h
    · subst e; rw [hloc] at hx; cases hx
    · rw [if_neg e]; exact hA.sim.nil _ hx
  · rw [hlk]
    by_cases e : x = h
    · subst e; rw [hloc] at hx; cases hx
    · rw [if_neg e]; exact hA.sim.dead _ hx
  · rw [henv]
    unfold upd
    by_cases e : u = t
    · subst e
      rw [if_pos rfl, hv]
      unfold AV.Rep
      exact ⟨rfl, _, hloc, fun _ => .inr ⟨b, sz, cap, rfl, rfl, hcap, hsz⟩⟩
    · rw [if_neg e]; exact hA.env u
  · rw [henv]
    unfold upd
    by_cases e : E.N = t
    · rw [if_pos e]
      exact E.Jsl (.slk h k 0 n cap) _ _ rfl (by rw [← he, ← e]; exact hA.jok)
    · rw [if_neg e]; exact hA.jok
  · rw [hnx] at hj
    have := hA.nxOk j hj
    have h9 : (s.trim h t k n es).lk (.O j) = (s.trim h t k n es).own j := rfl
    rw [← h9, hlk]
    by_cases e : (Hd.O j) = h
    · subst e
      have h0 : s.lk (.O j) = none := this
      rw [h0] at hl; cases hl
    · rw [if_neg e]; exact this

/-! ### slices.overlaps, of two rows -/
theorem BlkRep.shape {G : Gh} {m : HM} {mt : Bool} {k : Nat} {es : List (List DV)} {b sz : Nat} {w : World} (h : BlkRep G m (.row mt k es) b sz w) : ∃ T, w.shape? b = some (T, sz) ∧ ∀ o, w.frozen? ⟨b, o, none⟩ = false := by
  have : ∃ (vs : Array Value) (T : TypeId), w.heap[b]? = some (.cells vs T (0, 0)) ∧ vs.size = sz := by
    cases mt
    · obtain ⟨vs, T, q1, q2, _⟩ := h; exact ⟨vs, T, q1, q2⟩
    · obtain ⟨vs, T, q1, q2, _⟩ := h; exact ⟨vs, T, q1, q2⟩
  obtain ⟨vs, T, q1, q2⟩ := this
  exact ⟨T, by simp [World.shape?, q1, q2], fun o => by simp [World.frozen?, q1]⟩

theorem ovl_ok {P : Program} {f : FuncId} {fn : Func} {tS tR e : TypeId} {i : TypeInfo} (hf : P.funcs[f]? = some fn) (hname : (fn.name == "runtime.NumGoroutine") = false) (hb : fn.body.isNone = true) (hn : Extern.findNext fn = none) (he : Extern.find fn = some (Extern.SlicesOverlaps.overlaps #[tS, tS] #[tR]))
    (hS : P.underlying tS = some (.slice e)) (hi : P.info? e = some i) (mt mt' : Bool) (k o l o' l' c' : Nat) (es es' : List (List DV)) (hl0 : 0 < l) (hpos : 0 < es'.length * k) :
    ACall P f [.sl (.B 0) k o l, .slk (.B 1) k o' l' c'] [some (.row mt k es), some (.row mt' k es')] (.D (.B false)) [some (.row mt k es), some (.row mt' k es')] [] := fun w G m vs hSim hO hA => by
  unfold AV.RepL at hA
  obtain ⟨v1, r1, hv, h1, hA⟩ := hA
  unfold AV.RepL at hA
  obtain ⟨v2, r2, rfl, h2, hA⟩ := hA
  unfold AV.RepL at hA
  subst hA
  obtain rfl : vs = #[v1, v2] := by rw [← Array.toArray_toList (xs := vs), hv]
  unfold AV.Rep at h1 h2
  obtain ⟨_, loc1, hl1, hs1⟩ := h1
  obtain ⟨_, loc2, hl2, hs2⟩ := h2
  have nd1 : loc1 ≠ .dead := fun e => by subst e; have := hSim.dead _ hl1; cases this
  have nd2 : loc2 ≠ .dead := fun e => by subst e; have := hSim.dead _ hl2; cases this
  obtain ⟨b2, sz2, rfl, hv2, _, _⟩ := hs2 nd2
  obtain ⟨bl2, g1, g2⟩ := hSim.blk _ _ _ hl2
  cases g1
  obtain ⟨T2, s2, f2⟩ := g2.shape
  have hsz2 : sz2 ≠ 0 := by
    cases mt'
    · obtain ⟨_, _, _, q2, q3, _⟩ := g2; omega
    · obtain ⟨_, _, _, q2, q3, _⟩ := g2; omega
  have post : APost w G m (lkOf [some (.row mt k es), some (.row mt' k es')] []) (.D (.B false)) (.bool false) w :=
    ⟨G, m, hSim, by unfold AV.Rep DV.Rep; rfl, Fr.refl _ _ _ _, fun _ => .inl rfl, (fun i b sz h => by rw [hO] at h; cases h), fun i _ => hO i⟩
  refine .inr ⟨.bool false, w, ?_, post⟩
  rw [run_callFunc_extern hf hname hb hn he]
  have hz : ∀ w, (Go.sizeOf e).run P w = .ok i.size w := run_size hi
  rcases hs1 nd1 with ⟨a, _, _⟩ | ⟨b1, sz1, cap1, rfl, rfl, _, _⟩
  · omega
  · obtain ⟨bl1, g3, g4⟩ := hSim.blk _ _ _ hl1
    cases g3
    obtain ⟨T1, s1, f1⟩ := g4.shape
    have hne : b1 ≠ b2 := fun e => by subst e; have := hSim.inj _ _ b1 sz1 sz2 hl1 hl2; cases this
    rw [hv2, Lib.run_overlaps_apart w tS tR e hS i.size hz _ _ _ _ _ _ hne T1 T2 sz1 sz2 s1 s2 hsz2 (f1 _) (f1 _)]
    rfl

end Go.Eng
