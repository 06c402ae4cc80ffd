/- A part of a closed run that the kernel does on abstract worlds. -/
import Derived.Test.YtjlikmhhaecgnaaGreatDoorK3
namespace Go.Ax
set_option linter.unusedVariables false
open Go.Proofs
noncomputable def o2 : OrcF := orO oA o1
theorem o2_ok : OrcOK Tryz.prog o2 := orO_ok oA_ok o1_ok
theorem runC : saysR (callB Tryz.prog o2 1000 100 8 ([].map V.f) .e 0) (.bool true) = true := by kernel_rfl
noncomputable def oC : OrcF := flatO 8 [] (.bool true)
theorem oC_ok : OrcOK Tryz.prog oC := flatO_ok o2_ok runC
end Go.Ax
