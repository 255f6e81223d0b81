/- Texts of this claim. -/
import Derived.Test.YtloponjgedpffaaGreatE20b
import Derived.DefersIn
set_option linter.all false
set_option linter.unusedSimpArgs false
set_option linter.unusedVariables false
namespace Go.Eng
open Go.RowKit

end Go.Eng

