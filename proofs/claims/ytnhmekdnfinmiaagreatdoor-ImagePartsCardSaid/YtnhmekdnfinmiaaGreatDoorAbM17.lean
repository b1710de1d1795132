/- Texts of this proof, merged (printed by wip/pmerge.py out of AbM17). -/
import Derived.Test.YtnhmekdnfinmiaaGreatDoorAbM4
import Derived.Test.YtnhmekdnfinmiaaGreatDoorProg
import Derived.KernelRfl
/- wakes of layer 17, run by the kernel. -/
namespace Go.Proofs
set_option linter.unusedVariables false
theorem zeros_ok : Ab.zerosOk Tryz.prog = true := by kernel_rfl
theorem mixed_ok : Tryz.prog.follows .mixedOrders = true := by kernel_rfl
theorem wakes17_runs : Ab.kruns Tryz.prog 11 3000 = true := by kernel_rfl
theorem wakes17 (w : World) : Calls Tryz.prog 11 #[] w fun e w' => e = .returned (.bool true) ∧ Grew w w' := Ab.kruns_calls zeros_ok mixed_ok wakes17_runs w
end Go.Proofs
