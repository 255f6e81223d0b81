import Derived.Test.YtjhhgpencphgoaaDoorE31
import Derived.Test.YtjhhgpencphgoaaDoorGlb
import Derived.Test.YtjhhgpencphgoaaDoorE27
import Derived.OpenShut
import Derived.Lib.LaidTab
set_option linter.unusedSimpArgs false
set_option linter.unusedVariables false
namespace Go.Eng
open Go.RowKit Go.ChangeShapes Go.WideShapes Go.ChangeAt

theorem DV.cells_of {G : Gh} {f : Nat → Option Value} : ∀ {ds : List DV} {o : Nat}, (∀ i d, ds[i]? = some d → ∃ v, f (o + i) = some v ∧ DV.Rep G d v) → DV.cells G f o ds
 | [], o, _ => by unfold DV.cells; trivial
 | d :: ds, o, h => by
  unfold DV.cells
  obtain ⟨v, h1, h2⟩ := h 0 d rfl
  exact ⟨⟨v, h1, h2⟩, DV.cells_of fun i e hi => by
   obtain ⟨u, h3, h4⟩ := h (i + 1) e (by simpa using hi)
   exact ⟨u, by rw [← h3]; congr 1; omega, h4⟩⟩
theorem Cv.array {P : Program} {t e : TypeId} {n : Nat} {k : IntKind} (he : P.underlying e = some (.int k)) (hce : P.cellsOf e = 1) (ht : P.underlying t = some (.array n e)) (hc : P.cellsOf t = n) :
  Cv P t (fun x : Arr n => rA k x) n fun x => ∀ y ∈ x.l, k.min ≤ y ∧ y ≤ k.max :=
 ⟨fun x => rA_len x, hc, fun enc w spare held fuel cs r h => by
  obtain ⟨xs, m, _, _, hcl, hxl, hf⟩ := DataW.trod_array ht h
  rw [hc] at hcl
  simp only [hce, Nat.mul_one] at hf
  obtain ⟨zs, hl, hz⟩ := list_of (Q := fun i z => (k.min ≤ z ∧ z ≤ k.max) ∧ cs[i]? = some (.int k z)) n fun i hi => by
   have h1 := hf i hi
   rw [List.getElem?_eq_getElem (by omega)] at h1
   obtain ⟨z, hz, _, hw⟩ := DataW.trod_int he h1
   simp only [Lit.wf, Bool.and_eq_true, decide_eq_true_eq] at hw
   refine ⟨z, hw, ?_⟩
   have h2 := congrArg (·[0]?) hz
   simpa [List.getElem?_take, List.getElem?_drop] using h2
  refine ⟨⟨zs, hl⟩, fun y hy => ?_, ?_⟩
  ·obtain ⟨i, hi⟩ := List.getElem?_of_mem hy
   exact (hz i y hi).1
  ·refine ⟨by rw [rA_len]; omega, DV.cells_of fun i d hd => ?_⟩
   unfold rA at hd
   rw [List.getElem?_map, Option.map_eq_some_iff] at hd
   obtain ⟨z, hz1, rfl⟩ := hd
   exact ⟨_, by rw [Nat.zero_add]; exact (hz i z hz1).2, by unfold DV.Rep; rfl⟩⟩
theorem glOk_tab {P : Program} {W : World} {name : String} {g : Nat} {k : IntKind} {zs : List Int} (hT : Lib.TabIs P W name k zs) (hg : P.globalNamed name = some g) : DV.cells (gOf W) (gOf W g) 0 (zs.map (DV.I k)) := by
 refine DV.cells_of fun i d hd => ?_
 rw [List.getElem?_map, Option.map_eq_some_iff] at hd
 obtain ⟨z, hz, rfl⟩ := hd
 have hi : i < zs.length := (List.getElem?_eq_some_iff.1 hz).1
 refine ⟨.int k z, ?_, by unfold DV.Rep; rfl⟩
 have h1 := hT.cell hg i hi
 rw [List.getD, hz] at h1
 rw [Nat.zero_add]
 exact h1
end Go.Eng
