/- Texts of this claim. -/
import Derived.Test.YtloponjgedpffaaGreatE20d
import Derived.RecoverIn
set_option linter.all false
set_option linter.unusedSimpArgs false
set_option linter.unusedVariables false
namespace Go.Eng
open Go.RowKit

end Go.Eng

