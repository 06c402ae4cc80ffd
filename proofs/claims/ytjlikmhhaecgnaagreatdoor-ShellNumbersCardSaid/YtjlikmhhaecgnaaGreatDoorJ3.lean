/- A closed fact of the row: it recurses. -/
import Derived.Test.YtjlikmhhaecgnaaGreatDoorRows
import Derived.JoinedOf
import Derived.KernelRfl
namespace Go.Proofs.YtjlikmhhaecgnaaGreatDoor
set_option linter.unusedVariables false
open Go
theorem j_rec : (Rows.shellNumbersRow.recurses == Tryz.prog.recurses 3) = true := by kernel_rfl
end Go.Proofs.YtjlikmhhaecgnaaGreatDoor
