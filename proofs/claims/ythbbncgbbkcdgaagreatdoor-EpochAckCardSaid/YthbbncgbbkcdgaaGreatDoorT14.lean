/- Engine at this program: what the printed texts lean on. -/
import Derived.Test.YthbbncgbbkcdgaaGreatDoorT12
import Derived.Test.YthbbncgbbkcdgaaGreatDoorT13
set_option linter.unusedSimpArgs false
set_option linter.unusedVariables false
set_option linter.unnecessarySimpa false
