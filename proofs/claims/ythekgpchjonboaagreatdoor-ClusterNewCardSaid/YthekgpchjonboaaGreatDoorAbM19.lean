/- wakes of layer 16, run by the kernel. -/
import Derived.Test.YthekgpchjonboaaGreatDoorAbM4
import Derived.Test.YthekgpchjonboaaGreatDoorProg
import Derived.KernelRfl
namespace Go.Proofs
set_option linter.unusedVariables false
theorem zeros_ok : Ab.zerosOk Tryz.prog = true := by kernel_rfl
theorem mixed_ok : Tryz.prog.follows .mixedOrders = true := by kernel_rfl
theorem wakes19_runs : Ab.kruns Tryz.prog 7 3000 = true := by kernel_rfl
theorem wakes19 (w : World) : Calls Tryz.prog 7 #[] w fun e w' => e = .returned (.bool true) ∧ Grew w w' := Ab.kruns_calls zeros_ok mixed_ok wakes19_runs w
end Go.Proofs
