/- A part of a closed run that the kernel does on abstract worlds. -/
import Derived.Test.YtjlikmhhaecgnaaGreatDoorK2
namespace Go.Ax
set_option linter.unusedVariables false
open Go.Proofs
theorem runB : saysR (callB Tryz.prog o1 1000 100 6 ([.int .i64 1, .slice none 0 0].map V.f) .e 0) nilRep = true := by kernel_rfl
theorem oB_ok : OrcOK Tryz.prog oB := flatO_ok o1_ok runB
end Go.Ax
