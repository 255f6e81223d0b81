/- Texts of this claim. -/
import Derived.Test.YtkfcmelpadbdcaaGreatDoorE11k
import Derived.Laws.IdiomRangeMap
set_option linter.all false
set_option linter.unusedSimpArgs false
set_option linter.unusedVariables false
namespace Go.Eng
open Go.RowKit

section
variable {P:Program} {o:Oper} {lk:Look} {n:Nat} {ev:Operand->AV} {K:AV->List Blk->List Hd->Prop}
end
end Go.Eng

