/- For every input that the row takes, DiskStops answers true and leaves its arguments as they were. No condition but the row's own. -/
import Derived.Test.YtogggngebjcpmaaDS
import Derived.Test.YtogggngebjcpmaaRows
set_option linter.all false
set_option linter.unusedSimpArgs false
set_option linter.unusedVariables false
namespace Go.Proofs.Ytogggngebjcpmaa
open Go.Eng Go.RowKit Go.ChangeShapes Go.WideShapes Go.ChangeAt
abbrev stops_Ts : List Ty := [.sl (.w (.p (.i .i64) (.p (.i .i64) (.i .i64)))), .i .u8, .sl (.i .i64)]
theorem Try.own : ownKnob Try.prog.godebug = none := by kernel_rfl
theorem Try.laidOut : laidOutB Try.prog = true := by kernel_rfl
theorem glOk {W : World} : GlOk (gOf W) := fun g ds h => by cases h
set_option maxRecDepth 100000 in
theorem stops_lifted (hc : ∀ x : tup stops_Ts, okTup stops_Ts x → ACall Try.prog 5 (erTup stops_Ts x) [] (.D (.B true)) [] [])
    (os : Os) (started : os.Started) (H : Type) (enc : TypeId × Value → H) :
    ReturnsInHanded {} Try.checked os 5 .any (Rows.diskStopsSpec.pre6 enc Try.prog Try.f5 Rows.diskStopsRow.domain false) (Rows.diskStopsSpec.post enc Try.prog Try.f5 false true false false) := by
  refine returnsInHanded_of_change (C := Try.checked) Try.own started (by kernel_rfl) Try.func5
    (ChangeSpec.witness6 (enc := enc) (C := Try.checked) false ⟨#[], #[.slice none 0 0, .int .u8 0, .slice none 0 0], []⟩ 8 (by kernel_rfl) (by kernel_rfl) (by kernel_rfl) (by kernel_rfl)) ?_
  intro W base args ds gs before hval0 hW hcnd _
  have hval : ∀ (j : Nat) t v, Try.f5.params[j]? = some t → args[j]? = some v → Value.okWide Try.prog W .any base t v := hval0
  have hW' := hW
  obtain ⟨p, q, hA0, hV, rfl, hfz, hnd⟩ := hW
  have hA : DataW.TrodAll enc Try.prog W 0 (fun _ => true) true Try.f5.params.toList args.toList ds p := hA0
  rw [Try.params5] at hA hval
  obtain ⟨rfl, rfl⟩ := trodVars_none hV
  obtain ⟨x, hx, hrep⟩ := args_get (m := fun _ => none) (Ts := stops_Ts) (ts := [22, 5, 41]) (base := base) (by kernel_rfl) hA (fun j t v h1 h2 => hval j t v (by simpa using h1) (by simpa using h2))
  obtain ⟨_, vs1, d0, ds1, _, _, _, rfl, _, _, hA1⟩ := trodAll_cons hA
  obtain ⟨_, vs2, d1, ds2, _, _, rfl, rfl, _, _, hA2⟩ := trodAll_cons hA1
  obtain ⟨_, vs3, d2, ds3, _, _, rfl, rfl, _, _, hA3⟩ := trodAll_cons hA2
  obtain ⟨rfl, rfl, _⟩ := trodAll_nil hA3
  refine (law_calls ⟨Try.f5, Try.func5, by kernel_rfl, by kernel_rfl⟩ glOk (vs := args) (hc x hx) hrep).mono fun e W' ⟨he, hb⟩ => ?_
  exact ⟨_, he, law_post (tb := 4) Try.laidOut hW' rfl rfl (by rfl) Try.underlying4 (by rw [Try.params5]; decide +kernel) hb⟩
theorem stops_holds (hc : ∀ x : tup stops_Ts, okTup stops_Ts x → ACall Try.prog 5 (erTup stops_Ts x) [] (.D (.B true)) [] []) : Rows.DiskStopsSaid :=
  OpenClaim.holds_of_wide 5 Try.f5 rfl rfl rfl rfl rfl rfl rfl ⟨rfl, rfl, rfl, rfl, rfl⟩ rfl rfl rfl rfl rfl (by kernel_rfl) Try.func5 (by kernel_rfl)
    (of_decide_eq_true (by kernel_rfl)) (by unfold Func.isWrapper; first | (rw [if_pos (by decide +kernel)]; kernel_rfl) | (rw [if_neg (by decide +kernel)]; exact ⟨rfl, rfl⟩))
    (fun os started H enc _ => stops_lifted hc os started H enc)
theorem stops_acall : ∀ x : tup stops_Ts, okTup stops_Ts x → ACall Try.prog 5 (erTup stops_Ts x) [] (.D (.B true)) [] [] := by
  rintro ⟨x0, x1, x2, ⟨⟩⟩ hx
  exact Go.Proofs.Try.s_law09_DiskStops 100 (x0, x1, x2, ()) true (Go.Proofs.Try.stops_true hx.2.1.1 hx.2.1.2) [] rfl
theorem stops_said : Rows.DiskStopsSaid := stops_holds stops_acall
end Go.Proofs.Ytogggngebjcpmaa
