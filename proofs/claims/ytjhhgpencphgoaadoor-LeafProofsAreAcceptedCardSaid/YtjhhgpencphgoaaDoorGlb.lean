/- What the operands that name variables are. -/
import Derived.Test.YtjhhgpencphgoaaDoorE30
set_option linter.unusedSimpArgs false
set_option linter.unusedVariables false
namespace Go.Eng
def gA2 : Arr 12 := ⟨gl2, rfl⟩
def gA3 : Arr 64 := ⟨gl3, rfl⟩
theorem ev_g2 {s : AState} : s.ev (.global 2) = .rop (gA2.l.map (DV.I .i64)) := (rfl)
theorem ev_g3 {s : AState} : s.ev (.global 3) = .rop (gA3.l.map (DV.I .u32)) := (rfl)
attribute [push_cast] ev_g2 ev_g3
end Go.Eng
