/- A closed fact of the card: no goroutine is started. -/
import Derived.Test.YtjlikmhhaecgnaaGreatDoorCards
import Derived.JoinedOf
import Derived.KernelRfl
namespace Go.Proofs.YtjlikmhhaecgnaaGreatDoor
set_option linter.unusedVariables false
open Go
theorem j_goes : false = Rows.shellNumbersRow.goesBy Tryz.prog := by kernel_rfl
end Go.Proofs.YtjlikmhhaecgnaaGreatDoor
