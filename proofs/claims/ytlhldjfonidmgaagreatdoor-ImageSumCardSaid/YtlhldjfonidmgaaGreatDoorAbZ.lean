/- The executor for a program whose zero values are plain: what a run says. -/
import Derived.Test.YtlhldjfonidmgaaGreatDoorAb29
import Derived.Test.YtlhldjfonidmgaaGreatDoorAb30
import Derived.KernelRfl
namespace Go.Ab
set_option linter.unusedSimpArgs false
set_option linter.unusedVariables false
def zerosOk (P : Program) : Bool := P.types.toList.all fun i => match i.zero with
  | some z => isFlat 4 z
  | none => true
theorem zeros_of {P : Program} (h : zerosOk P = true) : ZerosFlat P := fun t i z ht hi hz => by
  have := List.all_eq_true.1 h i (Array.mem_toList_iff.2 (Array.mem_of_getElem? (i := t) (by simp only [Tables.info?, if_pos ht] at hi; exact hi)))
  rw [hz] at this
  exact this
/-- Does the executor end with 'true'? -/
def isTrue : Option (Value × AH) → Bool
  | some (.bool b, _) => b
  | _ => false
def runs (P : Program) (f n : Nat) : Bool := isTrue (afr P 0 noOrc n (Frame.enter P f #[] .normal) h00)
theorem runs_calls {P : Program} (hz : zerosOk P = true) (hm : P.follows .mixedOrders = true) {f n : Nat} (h : runs P f n = true) (w : World) : Calls P f #[] w fun e w' => e = .returned (.bool true) ∧ Grew w w' := by
  unfold runs isTrue at h
  split at h
  · rename_i b h' e
    subst h
    exact root (zeros_of hz) hm (fun f xs h v h' e => by cases e) e rfl w
  · cases h
end Go.Ab
