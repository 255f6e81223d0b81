/- No package-level variable is asked to stay as it is. -/
import Derived.Test.YtloponjgedpffaaGreatE1
set_option linter.all false
set_option linter.unusedSimpArgs false
set_option linter.unusedVariables false
namespace Go.Eng
def glOf : Nat → Option (List DV) := fun _ => none
end Go.Eng
