/- For every input that the row takes, LinkDeliversInOrder answers true and leaves its arguments as they were. No condition but the row's own. -/
import Derived.Test.YtakffbnhhfkipaaP7
import Derived.Test.YtakffbnhhfkipaaE27
import Derived.Test.YtakffbnhhfkipaaRows
set_option linter.unusedSimpArgs false
set_option linter.unusedVariables false
namespace Go.Proofs.Try
open Go.Eng Go.RowKit Go.ChangeShapes Go.WideShapes Go.ChangeAt
theorem okWide_slice {P : Program} {w : World} {r : Reach} {base : Nat} {t e : TypeId} {v : Value} (ht : P.underlying t = some (.slice e)) (h : Value.okWide P w r base t v) : ∃ b l c, v = .slice b l c := by
  simp only [Value.okWide, ht, Cell.okWide] at h
  cases v <;> simp_all [Cell.ok]
def WAct.ok (x : WAct) : Prop := (IntKind.min .u8 ≤ x.Kind ∧ x.Kind ≤ IntKind.max .u8) ∧ (IntKind.min .u8 ≤ x.N ∧ x.N ≤ IntKind.max .u8)
theorem WAct.cv : Cv prog 65 WAct.row 2 WAct.ok :=
  Cv.struct underlying65 (by kernel_rfl) (fun _ => rfl) fun G cs hl h => by
    obtain ⟨a0, h0, r0⟩ := h 0 _ rfl (Cv.int underlying5 (by kernel_rfl))
    obtain ⟨a1, h1, r1⟩ := h 1 _ rfl (Cv.int underlying5 (by kernel_rfl))
    exact ⟨⟨a0, a1⟩, ⟨h0, h1⟩, CRep.cons (o := 0) r0 (CRep.cons r1 (CRep.fin hl))⟩
end Go.Proofs.Try
namespace Go.Proofs.Ytakffbnhhfkipaa
open Go.Eng Go.RowKit Go.ChangeShapes Go.WideShapes Go.ChangeAt
theorem Try.own : ownKnob Try.prog.godebug = none := by kernel_rfl
theorem Try.laidOut : laidOutB Try.prog = true := by kernel_rfl
set_option maxRecDepth 100000 in
theorem delivers_lifted (hc : ∀ (x0 : (List Go.Proofs.Try.WAct)), (x0.length ≤ 9223372036854775807 ∧ ∀ y ∈ x0, Go.Proofs.Try.WAct.ok y) →  ACall Try.prog 6 [.D (.L (x0.map Go.Proofs.Try.WAct.row))] [] (.D (.B true)) [] [])
    (os : Os) (started : os.Started) (H : Type) (enc : TypeId × Value → H) :
    ReturnsInHanded {} Try.checked os 6 .any (Rows.linkDeliversInOrderSpec.pre6 enc Try.prog Try.f6 Rows.linkDeliversInOrderRow.domain false) (Rows.linkDeliversInOrderSpec.post enc Try.prog Try.f6 false true false false) := by
  refine returnsInHanded_of_change (C := Try.checked) Try.own started (by kernel_rfl) Try.func6
    (ChangeSpec.witness6 (enc := enc) (C := Try.checked) false ⟨#[], #[.slice none 0 0], []⟩ 8 (by kernel_rfl) (by kernel_rfl) (by kernel_rfl) (by kernel_rfl)) ?_
  intro W base args ds gs before hval0 hW hcnd _
  have hval : ∀ (j : Nat) t v, Try.f6.params[j]? = some t → args[j]? = some v → Value.okWide Try.prog W .any base t v := hval0
  have hW' := hW
  obtain ⟨p, q, hA0, hV, rfl, hfz, hnd⟩ := hW
  have hA : DataW.TrodAll enc Try.prog W 0 (fun _ => true) true Try.f6.params.toList args.toList ds p := hA0
  rw [Try.params6] at hA hval
  obtain ⟨v0, vs1, d0, ds1, p0, p1, e0, rfl, _, t0, hA1⟩ := trodAll_cons hA
  obtain ⟨rfl, rfl, _⟩ := trodAll_nil hA1
  obtain ⟨rfl, rfl⟩ := trodVars_none hV
  have hargs : args = #[v0] := by rw [← Array.toArray_toList (xs := args), e0]
  subst hargs
  obtain ⟨w0, l0, k0_, rfl⟩ := Go.Proofs.Try.okWide_slice Try.underlying59 (hval 0 59 v0 rfl rfl)
  obtain ⟨f0, t0⟩ := t0
  obtain ⟨x0, k0, r0⟩ := (Cv.slice (Go.Proofs.Try.WAct.cv) (by decide) Try.underlying59 (by kernel_rfl)).get enc W _ _ f0 _ _ t0
  have hrep : AV.RepL (gOf W) (fun _ => none) [.D (.L (x0.map Go.Proofs.Try.WAct.row))] [.slice w0 l0 k0_] := by
    unfold AV.RepL
    refine ⟨_, _, rfl, crep_one r0 rfl, ?_⟩
    unfold AV.RepL; rfl
  refine (law_calls ⟨Try.f6, Try.func6, by kernel_rfl, by kernel_rfl⟩ (vs := #[.slice w0 l0 k0_]) (hc x0 k0) hrep).mono fun e W' ⟨he, hb⟩ => ?_
  exact ⟨_, he, law_post (tb := 4) Try.laidOut hW' rfl rfl (by rfl) Try.underlying4 (by rw [Try.params6]; decide +kernel) hb⟩
theorem delivers_holds (hc : ∀ (x0 : (List Go.Proofs.Try.WAct)), (x0.length ≤ 9223372036854775807 ∧ ∀ y ∈ x0, Go.Proofs.Try.WAct.ok y) →  ACall Try.prog 6 [.D (.L (x0.map Go.Proofs.Try.WAct.row))] [] (.D (.B true)) [] []) : Rows.LinkDeliversInOrderSaid :=
  OpenClaim.holds_of_wide 6 Try.f6 rfl rfl rfl rfl rfl rfl rfl ⟨rfl, rfl, rfl, rfl, rfl⟩ rfl rfl rfl rfl rfl (by kernel_rfl) Try.func6 (by kernel_rfl)
    (of_decide_eq_true (by kernel_rfl)) (by unfold Func.isWrapper; first | (rw [if_pos (by decide +kernel)]; kernel_rfl) | (rw [if_neg (by decide +kernel)]; exact ⟨rfl, rfl⟩))
    (fun os started H enc _ => delivers_lifted hc os started H enc)
theorem delivers_said : Rows.LinkDeliversInOrderSaid := delivers_holds fun x0 k0 => Go.Proofs.Try.c6 2000 x0 true (Go.Proofs.Try.delivers_k x0 k0)
end Go.Proofs.Ytakffbnhhfkipaa
