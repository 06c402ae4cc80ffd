/- A part of a closed run that the kernel does on abstract worlds. -/
import Derived.Test.YtjlikmhhaecgnaaGreatDoorK4
import Derived.Test.YtjlikmhhaecgnaaGreatDoorK5
namespace Go.Ax
set_option linter.unusedVariables false
open Go.Proofs
noncomputable def o3 : OrcF := orO oB oC
theorem o3_ok : OrcOK Tryz.prog o3 := orO_ok oB_ok oC_ok
theorem runD : saysR (callB Tryz.prog o3 1000 100 3 ([].map V.f) .e 0) (.bool true) = true := by kernel_rfl
end Go.Ax
