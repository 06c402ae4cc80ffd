/- A part of a closed run that the kernel does on abstract worlds. -/
import Derived.Test.YtjlikmhhaecgnaaGreatDoorK2
namespace Go.Ax
set_option linter.unusedVariables false
open Go.Proofs
theorem runA : saysR (callB Tryz.prog o1 1000 100 6 ([.int .i64 3, .slice none 0 0].map V.f) .e 0) nilRep = true := by kernel_rfl
theorem oA_ok : OrcOK Tryz.prog oA := flatO_ok o1_ok runA
end Go.Ax
