import Derived.Test.YtjhhgpencphgoaaDoorE26
import Derived.ProofKit
import Derived.Deep.Slices
set_option linter.unusedSimpArgs false
set_option linter.unusedVariables false
namespace Go.Eng
open Go.RowKit Go.ChangeShapes Go.WideShapes Go.ChangeAt

def gOf (w : World) : Gh := fun b o => w.cell? ⟨b, o, none⟩
def CRep (G : Gh) (ds : List DV) (cs : List Value) : Prop := ds.length = cs.length ∧ DV.cells G (fun j => cs[j]?) 0 ds

theorem CRep.nil {G : Gh} : CRep G [] [] := ⟨rfl, by simp [DV.cells]⟩
theorem CRep.app {G : Gh} {d1 d2 : List DV} {cs : List Value} (n : Nat) (h1 : CRep G d1 (cs.take n)) (h2 : CRep G d2 (cs.drop n)) : CRep G (d1 ++ d2) cs := by
 obtain ⟨l1, c1⟩ := h1
 obtain ⟨l2, c2⟩ := h2
 rw [List.length_take] at l1
 rw [List.length_drop] at l2
 refine ⟨by rw [List.length_append]; omega, DV.cells_append (DV.cells_congr (fun i hi => ?_) c1) (DV.cells_congr (o := 0) (fun i hi => ?_) c2)⟩
 ·simp only [Nat.zero_add]
  rw [List.getElem?_take_of_lt (by omega)]
 ·simp only [Nat.zero_add]
  rw [List.getElem?_drop]
  rcases Nat.lt_or_ge n cs.length with h | h
  ·rw [show d1.length = n by omega]
  ·exfalso; omega
theorem CRep.one {G : Gh} {d : DV} {v : Value} (h : DV.Rep G d v) : CRep G [d] [v] := ⟨rfl, by simp [DV.cells]; exact h⟩

structure Cv (P : Program) (t : TypeId) {α : Type} (row : α → List DV) (k : Nat) (ok : α → Prop) : Prop where
 len : ∀ x, (row x).length = k
 cells : P.cellsOf t = k
 get : ∀ {H : Type} (enc : TypeId × Value → H) (w : World) (spare : Nat → Bool) (held : Bool) (fuel : Nat) (cs : List Value) (r : DataW H × List MemPlace), DataW.trod enc P w 0 spare held fuel t cs = some r → ∃ x, ok x ∧ CRep (gOf w) (row x) cs

theorem Cv.int {P : Program} {t : TypeId} {k : IntKind} (ht : P.underlying t = some (.int k)) (hc : P.cellsOf t = 1) : Cv P t (rI k) 1 fun n => k.min ≤ n ∧ n ≤ k.max :=
 ⟨fun _ => rfl, hc, fun enc w spare held fuel cs r h => by
  obtain ⟨n, rfl, _, hw⟩ := DataW.trod_int ht h
  simp only [Lit.wf, Bool.and_eq_true, decide_eq_true_eq] at hw
  exact ⟨n, hw, CRep.one (by unfold DV.Rep; rfl)⟩⟩
theorem Cv.bool {P : Program} {t : TypeId} (ht : P.underlying t = some .bool) (hc : P.cellsOf t = 1) : Cv P t rB 1 fun _ => True :=
 ⟨fun _ => rfl, hc, fun enc w spare held fuel cs r h => by
  obtain ⟨b, rfl, _⟩ := DataW.trod_bool ht h
  exact ⟨b, trivial, CRep.one (by unfold DV.Rep; rfl)⟩⟩
theorem Cv.string {P : Program} {t : TypeId} (ht : P.underlying t = some .string) (hc : P.cellsOf t = 1) : Cv P t rS 1 fun s => s.length ≤ 9223372036854775807 :=
 ⟨fun _ => rfl, hc, fun enc w spare held fuel cs r h => by
  obtain ⟨s, rfl, _, hs⟩ := DataW.trod_string ht h
  exact ⟨s.data.toList, by simpa [maxLen] using hs, CRep.one (by unfold DV.Rep; rfl)⟩⟩

theorem list_of {α : Type} {Q : Nat → α → Prop} : ∀ (n : Nat), (∀ i, i < n → ∃ x, Q i x) → ∃ xs : List α, xs.length = n ∧ ∀ i x, xs[i]? = some x → Q i x
 | 0, _ => ⟨[], rfl, fun i x h => by simp at h⟩
 | n + 1, h => by
  obtain ⟨xs, h1, h2⟩ := list_of n (fun i hi => h i (by omega))
  obtain ⟨x, hx⟩ := h n (by omega)
  refine ⟨xs ++ [x], by simp [h1], fun i y hy => ?_⟩
  rcases Nat.lt_or_ge i xs.length with hi | hi
  ·rw [List.getElem?_append_left hi] at hy; exact h2 i y hy
  ·rw [List.getElem?_append_right hi] at hy
   have : i - xs.length = 0 := by
    rcases Nat.eq_zero_or_pos (i - xs.length) with e | e
    ·exact e
    ·rw [List.getElem?_eq_none (by simp; omega)] at hy; cases hy
   rw [this] at hy
   simp at hy
   subst hy
   rw [show i = n by omega]; exact hx

theorem rows_of {α : Type} {G : Gh} {row : α → List DV} {k : Nat} {f : Nat → Option Value} (hk : ∀ x, (row x).length = k) : ∀ (xs : List α) (o : Nat), (∀ i x, xs[i]? = some x → DV.cells G f (o + i * k) (row x)) → DV.rows G f k o (xs.map row)
 | [], _, _ => by simp [DV.rows]
 | x :: xs, o, h => by
  simp only [List.map_cons]
  unfold DV.rows
  refine ⟨hk x, by simpa using h 0 x rfl, rows_of hk xs (o + k) (fun i y hy => ?_)⟩
  have := h (i + 1) y (by simpa using hy)
  rwa [Nat.add_mul, Nat.one_mul, Nat.add_comm (i * k) k, ← Nat.add_assoc] at this

theorem Cv.slice {P : Program} {t e : TypeId} {α : Type} {row : α → List DV} {k : Nat} {ok : α → Prop} (hE : Cv P e row k ok) (hk : 0 < k) (ht : P.underlying t = some (.slice e)) (hc : P.cellsOf t = 1) :
  Cv P t (rL row) 1 fun xs => xs.length ≤ 9223372036854775807 ∧ ∀ x ∈ xs, ok x :=
 ⟨fun _ => rfl, hc, fun enc w spare held fuel cs r h => by
  rcases Go.Deep.open_slice ht h with ⟨rfl, _⟩ | ⟨a, len, cap, m, n, D, Pl, rfl, _, hl, hm, hmm, _, hi⟩
  ·refine ⟨[], ⟨by simp, by simp⟩, CRep.one ?_⟩
   unfold DV.Rep
   exact ⟨none, 0, rfl, Nat.le_refl _, fun _ => rfl, fun h => absurd rfl h⟩
  ·have hlm : len ≤ m := by rw [hmm]; split <;> omega
   obtain ⟨xs, h1, h2⟩ := list_of (Q := fun i x => ok x ∧ ∃ cs', w.cells? 0 (a.add (i * P.cellsOf e)) (P.cellsOf e) = some cs' ∧ CRep (gOf w) (row x) cs') len (fun i hil => by
    obtain ⟨cs', hc', htr⟩ := hi i (by omega)
    obtain ⟨x, hx, hr⟩ := hE.get enc w spare held n cs' _ htr
    exact ⟨x, hx, cs', hc', hr⟩)
   refine ⟨xs, ⟨by rw [h1]; simp [maxLen] at hm; omega, fun x hx => ?_⟩, CRep.one ?_⟩
   ·obtain ⟨i, hi⟩ := List.getElem?_of_mem hx
    exact (h2 i x hi).1
   ·unfold DV.Rep
    refine ⟨some a, cap, by rw [List.length_map, h1], by rw [List.length_map, h1]; exact hl, (fun e => by cases e), fun hne => ?_⟩
    have hx0 : ∃ x, xs[0]? = some x := by
     cases xs with
     | nil => simp at hne
     | cons x _ => exact ⟨x, rfl⟩
    obtain ⟨x0, hx0⟩ := hx0
    obtain ⟨_, cs0, hc0, hl0, _⟩ := h2 0 x0 hx0
    obtain ⟨_, hcl0, hat0⟩ := World.cells?_some hc0
    rw [hE.cells] at hcl0 hat0
    have hspot : a = ⟨a.block, a.off, none⟩ := by
     have h3 := hat0 0 hk
     have h4 : (cs0[0]?).isSome = true := by rw [List.getElem?_eq_getElem (by omega)]; rfl
     rw [← h3] at h4
     obtain ⟨b, o, sp⟩ := a
     cases sp with
     | none => rfl
     | some _ => exfalso; simp [World.cell?, Addr.add] at h4; split at h4 <;> cases h4
    refine ⟨a.block, a.off, k, by rw [← hspot], rows_of hE.len xs a.off (fun i x hx => ?_)⟩
    obtain ⟨_, cs', hc', hl', hcr⟩ := h2 i x hx
    obtain ⟨_, hcl, hat⟩ := World.cells?_some hc'
    rw [hE.cells] at hcl hat
    refine DV.cells_congr (o := 0) (fun j hj => ?_) hcr
    have hj' : j < k := by rw [hE.len] at hj; exact hj
    have := hat j hj'
    rw [hspot, Addr.add_lit, Addr.add_lit] at this
    rw [Nat.zero_add, ← this]
    rfl⟩

theorem Cv.struct {P : Program} {t : TypeId} {fs : Array Field} {α : Type} {row : α → List DV} {k : Nat} {ok : α → Prop} (ht : P.underlying t = some (.struct fs)) (hc : P.cellsOf t = k) (hlen : ∀ x, (row x).length = k)
  (h : ∀ (G : Gh) (cs : List Value), cs.length = k → (∀ (i : Nat) (f : Field), fs[i]? = some f → ∀ {α : Type} {row : α → List DV} {k' : Nat} {ok : α → Prop}, Cv P f.type row k' ok → ∃ x, ok x ∧ CRep G (row x) ((cs.drop f.offset).take k')) → ∃ x, ok x ∧ CRep G (row x) cs) : Cv P t row k ok :=
 ⟨hlen, hc, fun enc w spare held fuel cs r hr => by
  obtain ⟨xs, n, _, _, hcl, hxl, hf⟩ := DataW.trod_struct ht hr
  refine h (gOf w) cs (by rw [hcl, hc]) (fun i f hi α' row' k' ok' hcv => ?_)
  have h1 := hf i f hi
  have hlt := (Array.getElem?_eq_some_iff.1 hi).1
  rw [List.getElem?_eq_getElem (by omega)] at h1
  obtain ⟨x, hx, hxr⟩ := hcv.get enc w spare held n _ _ h1
  rw [hcv.cells] at hxr
  exact ⟨x, hx, hxr⟩⟩
theorem CRep.cons {G : Gh} {ds rest : List DV} {cs : List Value} {o k : Nat} (h1 : CRep G ds ((cs.drop o).take k)) (h2 : CRep G rest (cs.drop (o + k))) : CRep G (ds ++ rest) (cs.drop o) :=
 CRep.app k h1 (by rwa [List.drop_drop])
theorem CRep.fin {G : Gh} {cs : List Value} {o : Nat} (h : cs.length = o) : CRep G [] (cs.drop o) := by rw [List.drop_eq_nil_of_le (by omega)]; exact CRep.nil

theorem crep_repL {G : Gh} {m : HM} {ds : List DV} {cs : List Value} (h : CRep G ds cs) : AV.RepL G m (ds.map .D) cs :=
 AV.RepL_data h.2 (fun j hj => by rw [Nat.zero_add]) h.1.symm
theorem crep_one {G : Gh} {m : HM} {d : DV} {v : Value} (h : CRep G [d] v.cells.toList) (hv : v.oneCell' = true) : AV.Rep G m (.D d) v := by
 have := crep_repL (m := m) h
 rw [oneCell_cells hv] at this
 simp only [List.map_cons, List.map_nil] at this
 unfold AV.RepL at this
 obtain ⟨u, us, e, h2, _⟩ := this
 cases e
 exact h2
theorem crep_agg {G : Gh} {m : HM} {ds : List DV} {cs : Array Value} (h : CRep G ds cs.toList) : AV.Rep G m (.agg (ds.map .D)) (.agg cs) := by
 unfold AV.Rep
 exact ⟨cs, rfl, crep_repL h⟩

theorem sim_gOf (w : World) (hg : GlOk (gOf w)) : Sim (gOf w) (fun _ => none) (lkOf [] []) w := ⟨(fun _ _ _ h => by cases h), (fun _ h => by cases h), (fun _ _ _ _ _ h => by cases h), (fun _ _ _ h => h), (fun _ h => by cases h), hg⟩
theorem CallDoes.calls {P : Program} {f : FuncId} {vs : Array Value} {w : World} {R : Value → World → Prop} (hfn : FnOk P f) (h : CallDoes P f vs w R) : Calls P f vs w fun e w' => ∃ v, e = .returned v ∧ R v w' := by
 rcases h with ⟨_, h⟩ | ⟨v, w', h1, _⟩
 ·exact h
 ·exfalso
  obtain ⟨fd, q1, q2, q3⟩ := hfn
  have hnone : fd.body.isNone = false := by rw [Option.isNone_eq_false_iff]; exact q2
  simp only [callFunc, Sem.run_bind, run_program, Result.andThen_ok, q1, q3, hnone, Bool.false_eq_true, if_false] at h1
  simp at h1

theorem law_calls {P : Program} {f : FuncId} {args : List AV} {w : World} {vs : Array Value} (hfn : FnOk P f) (hg : GlOk (gOf w)) (hc : ACall P f args [] (.D (.B true)) [] []) (hr : AV.RepL (gOf w) (fun _ => none) args vs.toList) :
  Calls P f vs w fun e w' => e = .returned (.bool true) ∧ Below w.heap.size w w' :=
 (CallDoes.calls hfn (hc w (gOf w) _ vs (sim_gOf w hg) (fun _ => rfl) hr)).mono fun e w' ⟨v, he, G', m', _, hv, hF, _⟩ => by
  have := rep_B hv
  subst this
  exact ⟨he, hF.os, hF.tape, hF.output, hF.size, fun b hb => hF.heap b hb (fun ⟨_, _, h⟩ => by cases h)⟩

theorem trodAll_stays {H : Type} {enc : TypeId × Value → H} {P : Program} (hl : laidOutB P = true) {W W' : World} (hb : Below W.heap.size W W') (sp : Nat → Bool) : ∀ {ts : List TypeId} {vs : List Value} {ds : List (DataW H)} {ps : List MemPlace},
  (∀ t ∈ ts, P.readableRec t = true ∧ t < P.types.size) → DataW.TrodAll enc P W 0 (fun _ => true) true ts vs ds ps → (∀ p ∈ ps, p.block < W.heap.size) → (∀ p ∈ ps, sp p.block = true) → DataW.TrodAll enc P W' 0 sp true ts vs ds ps
 | [], [], [], _, _, h, _, _ => h
 | t :: ts, v :: vs, d :: ds, ps, ht, h, hlt, hsp => by
  obtain ⟨p, q, h1, h2, rfl⟩ := h
  exact ⟨p, q, WideElems.Trod_stays hl (ht t (by simp)).1 (ht t (by simp)).2 h1 (fun x hx => hb.same (hlt x (by simp [hx]))) (fun x hx => hsp x (by simp [hx])),
   trodAll_stays hl hb sp (fun t' h' => ht t' (by simp [h'])) h2 (fun x hx => hlt x (by simp [hx])) (fun x hx => hsp x (by simp [hx])), rfl⟩
 | [], [], _ :: _, _, _, h, _, _ => h.elim
 | [], _ :: _, ds, _, _, h, _, _ => by cases ds <;> exact h.elim
 | _ :: _, [], ds, _, _, h, _, _ => by cases ds <;> exact h.elim
 | _ :: _, _ :: _, [], _, _, h, _, _ => h.elim
theorem law_post {P : Program} {f : Func} {s : ChangeSpec} {H : Type} {enc : TypeId × Value → H} {W W' : World} {args : Array Value} {ds : List (DataW H)} {before : List MemPlace} {tb : TypeId} (hl : laidOutB P = true)
  (hW : DataW.Whole enc P f.params.toList s.vars false W args.toList ds [] before) (hvars : s.vars = []) (hs : s.fn H (ds ++ []) = { results := [.lit (.bool true)], args := ds }) (hr : f.resultTypes = #[tb]) (htb : P.underlying tb = some .bool)
  (hp : ∀ t ∈ f.params.toList, P.readableRec t = true ∧ t < P.types.size) (hb : Below W.heap.size W W') : s.post enc P f false true false false W args (.bool true) W' := by
 have hlt : ∀ p ∈ before, p.block < W.heap.size := fun p hp => hW.lt p hp
 have hW0 := hW
 obtain ⟨p, q, hA, hV, hpq, hz, hn⟩ := hW0
 have hV0 := hV
 rw [hvars] at hV0
 have hq : q = [] := by simpa [DataW.TrodVars] using hV0
 subst hq
 rw [List.append_nil] at hpq
 subst hpq
 have hstay : ∀ sp : Nat → Bool, (∀ x ∈ before, sp x.block = true) → DataW.TrodAll enc P W' 0 sp true f.params.toList args.toList ds before := fun sp hsp => trodAll_stays hl hb sp hp hA hlt hsp
 have hres : ∀ (b : Nat) (sp : Nat → Bool) (hd : Bool), DataW.TrodAll enc P W' b sp hd f.resultTypes.toList ((Value.bool true).resultList f.resultTypes.size) [.lit (.bool true)] [] := fun b sp hd => by
  rw [hr]
  exact trodAll_mk1 ⟨1, by simp [DataW.trod, Value.cells, htb]⟩
 have hvt : ∀ sp : Nat → Bool, DataW.TrodVars enc P W' sp s.vars (s.fn H (ds ++ [])).vars [] := fun sp => by
  rw [hvars, hs]; exact rfl
 refine ⟨ds, [], before, [], before, [], hW, by rw [hs]; exact hres _ _ _, by rw [hs]; exact hstay _ (fun p hp => by simpa using hlt p hp), hvt _, World.keptBut_mono (fun p hp => ⟨hp, .inr (.inl hp)⟩) (hb.frame (· ∈ before)), fun h => by cases h⟩
end Go.Eng
