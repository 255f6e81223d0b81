/- The call put off of leaf that recovers (caught): what it does where its caller returns, and where it panics. -/
import Derived.Test.YtjhhgpencphgoaaDoorProg
import Derived.Test.YtjhhgpencphgoaaDoorGlb
import Derived.Test.YtjhhgpencphgoaaDoorE33
set_option linter.unusedSimpArgs false
set_option linter.unusedVariables false
set_option maxRecDepth 8000
namespace Go.Proofs.Tryd
open Go.Eng Go.RowKit
def f102c : RCode := .block 0 (.seq (.reg false [o_ 7 (.isn false (t_ 5))]) (.cond (t_ 7) (.reg false [o_ 2 (.mv (t_ 5))]) (.seq (.reg false [o_ 8 (.tas 221 (t_ 5)), o_ 9 (.ext (t_ 8) 1), o_ 10 (.ext (t_ 8) 0)]) (.cond (t_ 9) (.seq (.reg false [o_ 3 (.new []), n_ (.store 0 (t_ 3) (t_ 10))]) (.reg false [o_ 11 (.mv (t_ 0)), o_ 12 (.nilc (t_ 11)), n_ (.store 1 (t_ 12) (.const (.int .i64 11)))])) (.seq (.reg false [o_ 4 (.mv (t_ 5))]) (.regP [o_ 6 (.mv (t_ 4)), n_ (.pan (t_ 6))]))))))
theorem c_rec_ret102 {x : Int} : DRec Tryd.prog 102 [.ptr (.B 0) 0] [some (.box [.D (.I .i64 x)])] .returning .returning [some (.box [.D (.I .i64 x)])] := by
  refine DRec.of_body [] (fn := Tryd.f102) (rc := f102c) (rs := []) (r := .tup []) Tryd.func102 rfl rfl rfl rfl rfl rfl rfl (by rw [Tryd.ntmps102]; decide) (by kernel_rfl) (by kernel_rfl) (by kernel_rfl) (by rw [Tryd.ntmps102]; simp) recTo_ret ?_
  unfold f102c recS
  rw [entry_eq _ _]
  simp (maxSteps := 999999) (disch := first | assumption | (simp; done) | omega | (simp; omega)) only [push_cast, seval]
  refine AEndW.of [] (.inl rfl) (by decide) rfl ?_ ?_ ?_
  · simp (maxSteps := 999999) (disch := first | assumption | (simp; done) | omega | (simp; omega)) only [push_cast, seval] <;> rfl
  · simp (maxSteps := 999999) (disch := first | assumption | (simp; done) | omega | (simp; omega)) only [push_cast, seval] <;> rfl
  · simp (maxSteps := 999999) (disch := first | assumption | (simp; done) | omega | (simp; omega)) only [push_cast, seval] <;> rfl
theorem c_rec_pan102 {x : Int} : DRec Tryd.prog 102 [.ptr (.B 0) 0] [some (.box [.D (.I .i64 x)])] (.panicking [{ v := .iface 221 (.agg #[]), recovered := false }]) (.panicking [{ v := .iface 221 (.agg #[]), recovered := true }]) [some (.box [.D (.I .i64 11)])] := by
  refine DRec.of_body [] (fn := Tryd.f102) (rc := f102c) (rs := []) (r := .tup []) Tryd.func102 rfl rfl rfl rfl rfl rfl rfl (by rw [Tryd.ntmps102]; decide) (by kernel_rfl) (by kernel_rfl) (by kernel_rfl) (by rw [Tryd.ntmps102]; simp) recTo_pan ?_
  unfold f102c recS
  rw [entry_eq _ _]
  simp (maxSteps := 999999) (disch := first | assumption | (simp; done) | omega | (simp; omega)) only [push_cast, seval]
  refine tas_of rfl ?_
  simp (maxSteps := 999999) (disch := first | assumption | (simp; done) | omega | (simp; omega)) only [push_cast, seval]
  refine AEndW.of [] (.inl rfl) (by decide) rfl ?_ ?_ ?_
  · simp (maxSteps := 999999) (disch := first | assumption | (simp; done) | omega | (simp; omega)) only [push_cast, seval] <;> rfl
  · simp (maxSteps := 999999) (disch := first | assumption | (simp; done) | omega | (simp; omega)) only [push_cast, seval] <;> rfl
  · simp (maxSteps := 999999) (disch := first | assumption | (simp; done) | omega | (simp; omega)) only [push_cast, seval] <;> rfl
end Go.Proofs.Tryd
