/- wakes of layer 17, run by the kernel. -/
import Derived.Test.YtlhldjfonidmgaaGreatDoorAb38
import Derived.Test.YtlhldjfonidmgaaGreatDoorProg
import Derived.KernelRfl
namespace Go.Proofs
set_option linter.unusedVariables false
theorem zeros_ok7 : Ab.zerosOk Tryz.prog = true := by kernel_rfl
theorem mixed_ok7 : Tryz.prog.follows .mixedOrders = true := by kernel_rfl
theorem wakes17_runs : Ab.kruns Tryz.prog 18 3000 = true := by kernel_rfl
theorem wakes17 (w : World) : Calls Tryz.prog 18 #[] w fun e w' => e = .returned (.bool true) ∧ Grew w w' := Ab.kruns_calls zeros_ok7 mixed_ok7 wakes17_runs w
end Go.Proofs
