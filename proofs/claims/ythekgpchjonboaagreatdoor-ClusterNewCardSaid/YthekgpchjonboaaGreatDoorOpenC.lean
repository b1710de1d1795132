/- Opening an argument: a configuration. -/
import Derived.Test.YthekgpchjonboaaGreatDoorCluA
import Derived.Test.YthekgpchjonboaaGreatDoorOpen
namespace Go.Proofs.YthekgpchjonboaaGreatDoor
open Go.RowKit Go.ChangeShapes Go.WideShapes
structure CfgD where
  a : Int
  b : Int
  c : Int
  d : Int
theorem cfg_of_row {cs : List Value} (h : FitsRow [.int .i64, .int .i64, .int .i64, .int .i64] cs) : ∃ c : CfgD, cs = [.int .i64 c.a, .int .i64 c.b, .int .i64 c.c, .int .i64 c.d] := by
  obtain ⟨_, _, rfl, ⟨n0, rfl, w0⟩, h0⟩ := fitsRow_cons h
  obtain ⟨_, _, rfl, ⟨n1, rfl, w1⟩, h1⟩ := fitsRow_cons h0
  obtain ⟨_, _, rfl, ⟨n2, rfl, w2⟩, h2⟩ := fitsRow_cons h1
  obtain ⟨_, _, rfl, ⟨n3, rfl, w3⟩, h3⟩ := fitsRow_cons h2
  obtain rfl := fitsRow_nil h3
  exact ⟨⟨n0, n1, n2, n3⟩, rfl⟩
section
variable {H : Type} {enc : TypeId × Value → H} {W : World} {base : Nat} {sp : Nat → Bool} {held : Bool} {v : Value} {d : DataW H} {p : List MemPlace}
set_option maxRecDepth 100000 in
theorem open_cfg (hv : Value.okWide Tryz.prog W .any base 23 v) (h : DataW.Trod enc Tryz.prog W 0 sp held 23 v d p) : ∃ c : CfgD, v = .agg #[.int .i64 c.a, .int .i64 c.b, .int .i64 c.c, .int .i64 c.d] ∧ True := by
  obtain ⟨cs, rfl, _⟩ := okWide_struct Tryz.underlying23 hv
  obtain ⟨fuel, hf⟩ := h
  have h2 := (trod_flat 3 23 [.int .i64, .int .i64, .int .i64, .int .i64] fuel _ _ (by kernel_rfl) hf).2
  obtain ⟨c, hc⟩ := cfg_of_row h2
  refine ⟨c, ?_, trivial⟩
  have : cs.toList = (#[.int .i64 c.a, .int .i64 c.b, .int .i64 c.c, .int .i64 c.d] : Array Value).toList := hc
  rw [Array.toList_inj.1 this]
end
end Go.Proofs.YthekgpchjonboaaGreatDoor
