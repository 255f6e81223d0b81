/- For every input that the row takes, LinkReceivesAsSpecified answers true and leaves its arguments as they were. No condition but the row's own. -/
import Derived.Test.YtakffbnhhfkipaaP5
import Derived.Test.YtakffbnhhfkipaaE27
import Derived.Test.YtakffbnhhfkipaaRows
set_option linter.unusedSimpArgs false
set_option linter.unusedVariables false
namespace Go.Proofs.Try
open Go.Eng Go.RowKit Go.ChangeShapes Go.WideShapes Go.ChangeAt
def Frame.ok (x : Frame) : Prop := (True) ∧ (IntKind.min .i64 ≤ x.Seq ∧ x.Seq ≤ IntKind.max .i64) ∧ (x.Body.length ≤ 9223372036854775807)
theorem Frame.cv : Cv prog 49 Frame.row 3 Frame.ok :=
  Cv.struct underlying49 (by kernel_rfl) (fun _ => rfl) fun G cs hl h => by
    obtain ⟨a0, h0, r0⟩ := h 0 _ rfl (Cv.bool underlying4 (by kernel_rfl))
    obtain ⟨a1, h1, r1⟩ := h 1 _ rfl (Cv.int underlying3 (by kernel_rfl))
    obtain ⟨a2, h2, r2⟩ := h 2 _ rfl (Cv.string underlying9 (by kernel_rfl))
    exact ⟨⟨a0, a1, a2⟩, ⟨h0, h1, h2⟩, CRep.cons (o := 0) r0 (CRep.cons r1 (CRep.cons r2 (CRep.fin hl)))⟩
def Inbox.ok (x : Inbox) : Prop := (IntKind.min .i64 ≤ x.Next ∧ x.Next ≤ IntKind.max .i64) ∧ (x.Ahead.length ≤ 9223372036854775807 ∧ ∀ y ∈ x.Ahead, Frame.ok y)
theorem Inbox.cv : Cv prog 47 Inbox.row 2 Inbox.ok :=
  Cv.struct underlying47 (by kernel_rfl) (fun _ => rfl) fun G cs hl h => by
    obtain ⟨a0, h0, r0⟩ := h 0 _ rfl (Cv.int underlying3 (by kernel_rfl))
    obtain ⟨a1, h1, r1⟩ := h 1 _ rfl (Cv.slice Frame.cv (by decide) underlying31 (by kernel_rfl))
    exact ⟨⟨a0, a1⟩, ⟨h0, h1⟩, CRep.cons (o := 0) r0 (CRep.cons r1 (CRep.fin hl))⟩
end Go.Proofs.Try
namespace Go.Proofs.Ytakffbnhhfkipaa
open Go.Eng Go.RowKit Go.ChangeShapes Go.WideShapes Go.ChangeAt
theorem Try.own : ownKnob Try.prog.godebug = none := by kernel_rfl
theorem Try.laidOut : laidOutB Try.prog = true := by kernel_rfl
set_option maxRecDepth 100000 in
theorem receives_lifted (hc : ∀ (x0 : Go.Proofs.Try.Inbox) (x1 : Go.Proofs.Try.Frame), (Go.Proofs.Try.Inbox.ok x0) → (Go.Proofs.Try.Frame.ok x1) →  ACall Try.prog 5 [.agg (x0.row.map .D), .agg (x1.row.map .D)] [] (.D (.B true)) [] [])
    (os : Os) (started : os.Started) (H : Type) (enc : TypeId × Value → H) :
    ReturnsInHanded {} Try.checked os 5 .any (Rows.linkReceivesAsSpecifiedSpec.pre6 enc Try.prog Try.f5 Rows.linkReceivesAsSpecifiedRow.domain false) (Rows.linkReceivesAsSpecifiedSpec.post enc Try.prog Try.f5 false true false false) := by
  refine returnsInHanded_of_change (C := Try.checked) Try.own started (by kernel_rfl) Try.func5
    (ChangeSpec.witness6 (enc := enc) (C := Try.checked) false ⟨#[], #[.agg #[.int .i64 0, .slice none 0 0], .agg #[.bool false, .int .i64 0, .string ⟨#[]⟩]], []⟩ 8 (by kernel_rfl) (by kernel_rfl) (by kernel_rfl) (by kernel_rfl)) ?_
  intro W base args ds gs before hval0 hW hcnd _
  have hval : ∀ (j : Nat) t v, Try.f5.params[j]? = some t → args[j]? = some v → Value.okWide Try.prog W .any base t v := hval0
  have hW' := hW
  obtain ⟨p, q, hA0, hV, rfl, hfz, hnd⟩ := hW
  have hA : DataW.TrodAll enc Try.prog W 0 (fun _ => true) true Try.f5.params.toList args.toList ds p := hA0
  rw [Try.params5] at hA hval
  obtain ⟨v0, vs1, d0, ds1, p0, p1, e0, rfl, _, t0, hA1⟩ := trodAll_cons hA
  obtain ⟨v1, vs2, d1, ds2, _, _, rfl, rfl, _, t1, hA2⟩ := trodAll_cons hA1
  obtain ⟨rfl, rfl, _⟩ := trodAll_nil hA2
  obtain ⟨rfl, rfl⟩ := trodVars_none hV
  have hargs : args = #[v0, v1] := by rw [← Array.toArray_toList (xs := args), e0]
  subst hargs
  obtain ⟨w0, rfl, _⟩ := okWide_struct Try.underlying47 (hval 0 47 v0 rfl rfl)
  obtain ⟨w1, rfl, _⟩ := okWide_struct Try.underlying49 (hval 1 49 v1 rfl rfl)
  obtain ⟨f0, t0⟩ := t0
  obtain ⟨f1, t1⟩ := t1
  obtain ⟨x0, k0, r0⟩ := (Go.Proofs.Try.Inbox.cv).get enc W _ _ f0 _ _ t0
  obtain ⟨x1, k1, r1⟩ := (Go.Proofs.Try.Frame.cv).get enc W _ _ f1 _ _ t1
  have hrep : AV.RepL (gOf W) (fun _ => none) [.agg (x0.row.map .D), .agg (x1.row.map .D)] [.agg w0, .agg w1] := by
    unfold AV.RepL
    refine ⟨_, _, rfl, crep_agg r0, ?_⟩
    unfold AV.RepL
    refine ⟨_, _, rfl, crep_agg r1, ?_⟩
    unfold AV.RepL; rfl
  refine (law_calls ⟨Try.f5, Try.func5, by kernel_rfl, by kernel_rfl⟩ (vs := #[.agg w0, .agg w1]) (hc x0 x1 k0 k1) hrep).mono fun e W' ⟨he, hb⟩ => ?_
  exact ⟨_, he, law_post (tb := 4) Try.laidOut hW' rfl rfl (by rfl) Try.underlying4 (by rw [Try.params5]; decide +kernel) hb⟩
theorem receives_holds (hc : ∀ (x0 : Go.Proofs.Try.Inbox) (x1 : Go.Proofs.Try.Frame), (Go.Proofs.Try.Inbox.ok x0) → (Go.Proofs.Try.Frame.ok x1) →  ACall Try.prog 5 [.agg (x0.row.map .D), .agg (x1.row.map .D)] [] (.D (.B true)) [] []) : Rows.LinkReceivesAsSpecifiedSaid :=
  OpenClaim.holds_of_wide 5 Try.f5 rfl rfl rfl rfl rfl rfl rfl ⟨rfl, rfl, rfl, rfl, rfl⟩ rfl rfl rfl rfl rfl (by kernel_rfl) Try.func5 (by kernel_rfl)
    (of_decide_eq_true (by kernel_rfl)) (by unfold Func.isWrapper; first | (rw [if_pos (by decide +kernel)]; kernel_rfl) | (rw [if_neg (by decide +kernel)]; exact ⟨rfl, rfl⟩))
    (fun os started H enc _ => receives_lifted hc os started H enc)
theorem receives_said : Rows.LinkReceivesAsSpecifiedSaid := receives_holds fun x0 x1 _ _ => Go.Proofs.Try.c5 2000 x0 x1 true (Go.Proofs.Try.receives_true x0 x1)
end Go.Proofs.Ytakffbnhhfkipaa
