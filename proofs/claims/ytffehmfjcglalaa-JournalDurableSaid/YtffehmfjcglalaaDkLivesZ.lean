/- The walk of refuterlaw06.lives. -/
import Derived.Test.YtffehmfjcglalaaDklZ
set_option linter.unusedSimpArgs false
set_option linter.unusedVariables false
