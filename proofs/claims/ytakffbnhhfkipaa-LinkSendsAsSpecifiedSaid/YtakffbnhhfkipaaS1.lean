/- For every outbox, string and number that the row takes, LinkSendsAsSpecified answers true and leaves its arguments as they were. No condition but the row's own. -/
import Derived.Test.YtakffbnhhfkipaaP3
import Derived.Test.YtakffbnhhfkipaaE27
import Derived.Test.YtakffbnhhfkipaaRows
set_option linter.unusedSimpArgs false
set_option linter.unusedVariables false
namespace Go.Proofs.Try
open Go.Eng Go.RowKit Go.ChangeShapes Go.WideShapes Go.ChangeAt

theorem cvI {k : IntKind} {t : Nat} (h : prog.underlying t = some (.int k)) (hc : prog.cellsOf t = 1) : Cv prog t (rI k) 1 fun n => k.min ≤ n ∧ n ≤ k.max := Cv.int h hc
def Outbox.ok (x : Outbox) : Prop := (IntKind.min .i64 ≤ x.Base ∧ x.Base ≤ IntKind.max .i64) ∧ (IntKind.min .i64 ≤ x.Acked ∧ x.Acked ≤ IntKind.max .i64) ∧ x.Summary.length ≤ 9223372036854775807 ∧ (x.Queue.length ≤ 9223372036854775807 ∧ ∀ y ∈ x.Queue, List.length y ≤ 9223372036854775807)
theorem Outbox.cv : Cv prog 24 Outbox.row 4 Outbox.ok :=
  Cv.struct underlying24 (by kernel_rfl) (fun _ => rfl) fun G cs hl h => by
    obtain ⟨a0, h0, r0⟩ := h 0 _ rfl (Cv.int underlying3 (by kernel_rfl))
    obtain ⟨a1, h1, r1⟩ := h 1 _ rfl (Cv.int underlying3 (by kernel_rfl))
    obtain ⟨a2, h2, r2⟩ := h 2 _ rfl (Cv.string underlying9 (by kernel_rfl))
    obtain ⟨a3, h3, r3⟩ := h 3 _ rfl (Cv.slice (Cv.string underlying9 (by kernel_rfl)) (by decide) underlying22 (by kernel_rfl))
    exact ⟨⟨a0, a1, a2, a3⟩, ⟨h0, h1, h2, h3⟩, CRep.cons (o := 0) r0 (CRep.cons r1 (CRep.cons r2 (CRep.cons r3 (CRep.fin hl))))⟩
end Go.Proofs.Try
namespace Go.Proofs.Ytakffbnhhfkipaa
open Go.Eng Go.RowKit Go.ChangeShapes Go.WideShapes Go.ChangeAt
open Go.Proofs.Try (Outbox)
theorem Try.own : ownKnob Try.prog.godebug = none := by kernel_rfl
theorem Try.laidOut : laidOutB Try.prog = true := by kernel_rfl
set_option maxRecDepth 100000 in
theorem sends_lifted (hc : ∀ (o : Outbox) (s : Str) (n : Int), o.ok → s.length ≤ 9223372036854775807 → (IntKind.min .i64 ≤ n ∧ n ≤ IntKind.max .i64) → ACall Try.prog 3 [.agg (o.row.map .D), .D (.S s), .D (.I .i64 n)] [] (.D (.B true)) [] [])
    (os : Os) (started : os.Started) (H : Type) (enc : TypeId × Value → H) :
    ReturnsInHanded {} Try.checked os 3 .any (Rows.linkSendsAsSpecifiedSpec.pre6 enc Try.prog Try.f3 Rows.linkSendsAsSpecifiedRow.domain false) (Rows.linkSendsAsSpecifiedSpec.post enc Try.prog Try.f3 false true false false) := by
  refine returnsInHanded_of_change (C := Try.checked) Try.own started (by kernel_rfl) Try.func3
    (ChangeSpec.witness6 (enc := enc) (C := Try.checked) false ⟨#[], #[.agg #[.int .i64 0, .int .i64 0, .string ⟨#[]⟩, .slice none 0 0], .string ⟨#[]⟩, .int .i64 0], []⟩ 8 (by kernel_rfl) (by kernel_rfl) (by kernel_rfl) (by kernel_rfl)) ?_
  intro W base args ds gs before hval0 hW hcnd _
  have hval : ∀ (j : Nat) t v, Try.f3.params[j]? = some t → args[j]? = some v → Value.okWide Try.prog W .any base t v := hval0
  have hW' := hW
  obtain ⟨p, q, hA0, hV, rfl, hfz, hnd⟩ := hW
  have hA : DataW.TrodAll enc Try.prog W 0 (fun _ => true) true Try.f3.params.toList args.toList ds p := hA0
  rw [Try.params3] at hA hval
  obtain ⟨v0, vs1, d0, ds1, p0, p1, e0, rfl, _, t0, hA1⟩ := trodAll_cons hA
  obtain ⟨v1, vs2, d1, ds2, _, _, rfl, rfl, _, t1, hA2⟩ := trodAll_cons hA1
  obtain ⟨v2, vs3, d2, ds3, _, _, rfl, rfl, _, t2, hA3⟩ := trodAll_cons hA2
  obtain ⟨rfl, rfl, _⟩ := trodAll_nil hA3
  obtain ⟨rfl, rfl⟩ := trodVars_none hV
  have hargs : args = #[v0, v1, v2] := by rw [← Array.toArray_toList (xs := args), e0]
  subst hargs
  obtain ⟨c0, rfl, _⟩ := okWide_struct Try.underlying24 (hval 0 24 v0 rfl rfl)
  obtain ⟨s1, rfl⟩ := okWide_string Try.underlying9 (hval 1 9 v1 rfl rfl)
  obtain ⟨n2, rfl⟩ := okWide_int Try.underlying3 (hval 2 3 v2 rfl rfl)
  obtain ⟨f0, t0⟩ := t0
  obtain ⟨f1, t1⟩ := t1
  obtain ⟨f2, t2⟩ := t2
  obtain ⟨x0, k0, r0⟩ := (Go.Proofs.Try.Outbox.cv).get enc W _ _ f0 _ _ t0
  obtain ⟨x1, k1, r1⟩ := (Cv.string Try.underlying9 (by kernel_rfl)).get enc W _ _ f1 _ _ t1
  obtain ⟨x2, k2, r2⟩ := (Cv.int Try.underlying3 (by kernel_rfl)).get enc W _ _ f2 _ _ t2
  have hrep : AV.RepL (gOf W) (fun _ => none) [.agg (x0.row.map .D), .D (.S x1), .D (.I .i64 x2)] [.agg c0, .string s1, .int .i64 n2] := by
    unfold AV.RepL
    refine ⟨_, _, rfl, crep_agg r0, ?_⟩
    unfold AV.RepL
    refine ⟨_, _, rfl, crep_one r1 rfl, ?_⟩
    unfold AV.RepL
    refine ⟨_, _, rfl, crep_one r2 rfl, ?_⟩
    unfold AV.RepL; rfl
  refine (law_calls ⟨Try.f3, Try.func3, by kernel_rfl, by kernel_rfl⟩ (vs := #[.agg c0, .string s1, .int .i64 n2]) (hc x0 x1 x2 k0 k1 k2) hrep).mono fun e W' ⟨he, hb⟩ => ?_
  exact ⟨_, he, law_post (tb := 4) Try.laidOut hW' rfl rfl (by rfl) Try.underlying4 (by rw [Try.params3]; decide +kernel) hb⟩
theorem sends_holds (hc : ∀ (o : Outbox) (s : Str) (n : Int), o.ok → s.length ≤ 9223372036854775807 → (IntKind.min .i64 ≤ n ∧ n ≤ IntKind.max .i64) → ACall Try.prog 3 [.agg (o.row.map .D), .D (.S s), .D (.I .i64 n)] [] (.D (.B true)) [] []) : Rows.LinkSendsAsSpecifiedSaid :=
  OpenClaim.holds_of_wide 3 Try.f3 rfl rfl rfl rfl rfl rfl rfl ⟨rfl, rfl, rfl, rfl, rfl⟩ rfl rfl rfl rfl rfl (by kernel_rfl) Try.func3 (by kernel_rfl)
    (of_decide_eq_true (by kernel_rfl)) (by unfold Func.isWrapper; first | (rw [if_pos (by decide +kernel)]; kernel_rfl) | (rw [if_neg (by decide +kernel)]; exact ⟨rfl, rfl⟩))
    (fun os started H enc _ => sends_lifted hc os started H enc)
theorem sends_said : Rows.LinkSendsAsSpecifiedSaid := sends_holds fun o s n _ _ _ => Go.Proofs.Try.c3 2000 o s n true (Go.Proofs.Try.sends_true o s n)
end Go.Proofs.Ytakffbnhhfkipaa
