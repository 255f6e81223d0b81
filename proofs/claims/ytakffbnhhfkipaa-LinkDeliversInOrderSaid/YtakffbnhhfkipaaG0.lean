/- The printed texts. -/
import Derived.Test.YtakffbnhhfkipaaGD3
set_option linter.unusedSimpArgs false
set_option linter.unusedVariables false
