/- A closed fact of the row: the named variables. -/
import Derived.Test.YtjlikmhhaecgnaaGreatDoorRows
import Derived.JoinedOf
import Derived.KernelRfl
namespace Go.Proofs.YtjlikmhhaecgnaaGreatDoor
set_option linter.unusedVariables false
open Go
theorem j_named : (Rows.shellNumbersRow.named == Tryz.prog.varsNamed 3) = true := by kernel_rfl
end Go.Proofs.YtjlikmhhaecgnaaGreatDoor
