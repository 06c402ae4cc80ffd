/- A closed fact of the row: the functions in place. -/
import Derived.Test.YtjlikmhhaecgnaaGreatDoorRows
import Derived.JoinedOf
import Derived.KernelRfl
namespace Go.Proofs.YtjlikmhhaecgnaaGreatDoor
set_option linter.unusedVariables false
open Go
theorem j_inPlace : (Rows.shellNumbersRow.inPlace == Tryz.prog.inPlace 3) = true := by kernel_rfl
end Go.Proofs.YtjlikmhhaecgnaaGreatDoor
