/- Engine at this program: what every contract leans on. -/
import Derived.Test.YthbbncgbbkcdgaaGreatDoorT11
import Derived.Test.YthbbncgbbkcdgaaGreatDoorChecked
import Derived.KernelRfl
set_option linter.unusedSimpArgs false
set_option linter.unusedVariables false
set_option linter.unnecessarySimpa false
namespace Go.Proofs.As0
open Go Go.Eng
theorem mixed : Tryz.prog.follows .mixedOrders = true := by kernel_rfl
theorem glob4 : Tryz.prog.globals.size = 4 := by kernel_rfl
end Go.Proofs.As0
