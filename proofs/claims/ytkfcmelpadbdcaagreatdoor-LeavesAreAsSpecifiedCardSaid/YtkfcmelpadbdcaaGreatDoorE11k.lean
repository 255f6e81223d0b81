/- Texts of this claim. -/
import Derived.Test.YtkfcmelpadbdcaaGreatDoorE11c
set_option linter.all false
set_option linter.unusedSimpArgs false
set_option linter.unusedVariables false
namespace Go.Eng
open Go.RowKit

section
variable {P:Program} {w:World} {kt:TypeId} {kd:KD}
end
end Go.Eng

