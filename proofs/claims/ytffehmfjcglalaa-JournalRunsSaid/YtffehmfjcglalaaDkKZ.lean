/- Contract of disk.Copy. -/
import Derived.Test.YtffehmfjcglalaaDkJZ
set_option linter.unusedSimpArgs false
set_option linter.unusedVariables false
