/- Opening an argument that is a string. -/
import Derived.Test.YtaaibekhoondcaaDoorProg
import Derived.Test.YtaaibekhoondcaaDoorOpen
import Derived.ChangeMaps5
namespace Go.Proofs.YtaaibekhoondcaaDoor
open Go.RowKit Go.ChangeShapes Go.WideShapes
section
variable {H : Type} {enc : TypeId × Value → H} {W : World} {base : Nat} {sp : Nat → Bool} {held : Bool} {v : Value} {d : DataW H} {p : List MemPlace}
set_option maxRecDepth 100000 in
theorem open_str (hv : Value.okWide Tryd.prog W .any base 9 v) (h : DataW.Trod enc Tryd.prog W 0 sp held 9 v d p) : ∃ s : ByteArray, v = .string s ∧ s.size ≤ 9223372036854775807 := by
  obtain ⟨s, h1, _, _, hs⟩ := Go.ChangeMaps.open_string Tryd.underlying9 hv h
  exact ⟨s, h1, by unfold maxLen at hs; exact hs⟩
end
end Go.Proofs.YtaaibekhoondcaaDoor
