/- What the operands that name variables are. -/
import Derived.Test.YtjhhgpencphgoaaDoorE30
set_option linter.unusedSimpArgs false
set_option linter.unusedVariables false
namespace Go.Eng
def gA0 : Arr 32 := ⟨gl0, rfl⟩
def gA1 : Arr 64 := ⟨gl1, rfl⟩
def gA3 : Arr 64 := ⟨gl3, rfl⟩
def gA4 : Arr 64 := ⟨gl4, rfl⟩
theorem ev_g0 {s : AState} : s.ev (.global 0) = .rop (gA0.l.map (DV.I .u8)) := (rfl)
theorem ev_g1 {s : AState} : s.ev (.global 1) = .rop (gA1.l.map (DV.I .u8)) := (rfl)
theorem ev_g3 {s : AState} : s.ev (.global 3) = .rop (gA3.l.map (DV.I .u32)) := (rfl)
theorem ev_g4 {s : AState} : s.ev (.global 4) = .rop (gA4.l.map (DV.I .u32)) := (rfl)
theorem gl_same : gA3 = gA4 := by decide +kernel
attribute [push_cast] ev_g0 ev_g1 ev_g3 ev_g4
end Go.Eng
