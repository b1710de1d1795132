/- wakes of layer 16, run by the kernel. -/
import Derived.Test.YtlhldjfonidmgaaGreatDoorAbM4
import Derived.Test.YtlhldjfonidmgaaGreatDoorProg
import Derived.KernelRfl
namespace Go.Proofs
set_option linter.unusedVariables false
theorem zeros_ok : Ab.zerosOk Tryz.prog = true := by kernel_rfl
theorem mixed_ok : Tryz.prog.follows .mixedOrders = true := by kernel_rfl
theorem wakes16_runs : Ab.kruns Tryz.prog 9 3000 = true := by kernel_rfl
theorem wakes16 (w : World) : Calls Tryz.prog 9 #[] w fun e w' => e = .returned (.bool true) ∧ Grew w w' := Ab.kruns_calls zeros_ok mixed_ok wakes16_runs w
end Go.Proofs
