/- A closed fact of the row: it reaches what is not followed. -/
import Derived.Test.YtjlikmhhaecgnaaGreatDoorRows
import Derived.JoinedOf
import Derived.KernelRfl
namespace Go.Proofs.YtjlikmhhaecgnaaGreatDoor
set_option linter.unusedVariables false
open Go
theorem j_unf : (Rows.shellNumbersRow.unfollowed == Tryz.prog.unfollowed 3) = true := by kernel_rfl
end Go.Proofs.YtjlikmhhaecgnaaGreatDoor
