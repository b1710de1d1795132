/- From a run of the executor to a contract. -/
import Derived.Test.YtlhldjfonidmgaaGreatDoorAb28
import Derived.Test.YtlhldjfonidmgaaGreatDoorBase
namespace Go.Ab
set_option linter.unusedSimpArgs false
set_option linter.unusedVariables false
set_option linter.unusedSectionVars false
theorem Old.grew {w0 w : World} (o : Old w0 w) : Grew w0 w := Grew.of_parts o.os o.tape o.output o.size o.blk
section
variable {P : Program} {orc : FuncId → Array Value → AH → Option (Option (Value × AH))}
def h00 : AH := ⟨.leaf, 0, 0⟩
theorem HR.empty (P : Program) (w : World) : HR P ⟨w, fun _ => False⟩ (fun _ => none) h00 w :=
  ⟨fun i x e => (by cases e), fun i b op e => (by cases e), fun i o fl e => (by cases e), fun i j b p q x y e => (by cases e), ⟨rfl, rfl, rfl, Nat.le_refl _, fun k _ => rfl⟩, fun i b op _ e => (by cases e), by decide, fun {i x} e => (by cases e), fun i h => h.elim⟩
/-- A run from nothing is a contract in every world. -/
theorem root (hz : ZerosFlat P) (hmix : P.follows .mixedOrders = true) (ho : OrcOk P 0 orc) {f n : Nat} {v : Value} {h' : AH} (e : afr P 0 orc n (Frame.enter P f #[] .normal) h00 = some (v, h')) (hf : isFlat 4 v = true) (w : World) :
    Calls P f #[] w fun e w' => e = .returned v ∧ Grew w w' := by
  intro cs
  obtain ⟨E', v', w', le, rv, H, en⟩ := afr_ok hz hmix ho n _ _ _ _ e ⟨w, fun _ => False⟩ (fun _ => none) w (Frame.enter P f #[] .normal) cs (FR.enter (VRs.empty _) .normal) (.inl rfl) (fun g hg => absurd hg (Nat.not_lt_zero g)) (HR.empty P w)
  have hv := flat_eq 4 hf rv
  subst hv
  obtain ⟨fr2, h1, h2, h3, h4, h5, h6⟩ := en
  exact ⟨.returned _, w', fr2, ⟨rfl, H.old.grew⟩, h1, h2, h3, h4, h5, h6⟩
end
end Go.Ab
