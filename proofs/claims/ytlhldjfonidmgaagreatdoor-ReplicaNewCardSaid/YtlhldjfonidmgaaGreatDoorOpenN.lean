/- Opening arguments: a configuration, an int; the law's walk of them. -/
import Derived.Test.YtlhldjfonidmgaaGreatDoorRepH
import Derived.Test.YtlhldjfonidmgaaGreatDoorOpen
namespace Go.Proofs.YtlhldjfonidmgaaGreatDoor
open Go.RowKit Go.ChangeShapes Go.WideShapes
structure CfgD where
  a : Int
  b : Int
  c : Int
  d : Int
theorem cfg_of_row {cs : List Value} (h : FitsRow [.int .i64, .int .i64, .int .i64, .int .i64] cs) : ∃ c : CfgD, cs = [.int .i64 c.a, .int .i64 c.b, .int .i64 c.c, .int .i64 c.d] := by
  obtain ⟨_, _, rfl, ⟨n0, rfl, w0⟩, h0⟩ := fitsRow_cons h
  obtain ⟨_, _, rfl, ⟨n1, rfl, w1⟩, h1⟩ := fitsRow_cons h0
  obtain ⟨_, _, rfl, ⟨n2, rfl, w2⟩, h2⟩ := fitsRow_cons h1
  obtain ⟨_, _, rfl, ⟨n3, rfl, w3⟩, h3⟩ := fitsRow_cons h2
  obtain rfl := fitsRow_nil h3
  exact ⟨⟨n0, n1, n2, n3⟩, rfl⟩
section
variable {H : Type} {enc : TypeId × Value → H} {W : World} {base : Nat} {sp : Nat → Bool} {held : Bool} {v : Value} {d : DataW H} {p : List MemPlace}
set_option maxRecDepth 100000 in
theorem open_cfg (hv : Value.okWide Tryz.prog W .any base 23 v) (h : DataW.Trod enc Tryz.prog W 0 sp held 23 v d p) : ∃ c : CfgD, v = .agg #[.int .i64 c.a, .int .i64 c.b, .int .i64 c.c, .int .i64 c.d] ∧ True := by
  obtain ⟨cs, rfl, _⟩ := okWide_struct Tryz.underlying23 hv
  obtain ⟨fuel, hf⟩ := h
  have h2 := (trod_flat 3 23 [.int .i64, .int .i64, .int .i64, .int .i64] fuel _ _ (by kernel_rfl) hf).2
  obtain ⟨c, hc⟩ := cfg_of_row h2
  refine ⟨c, ?_, trivial⟩
  have : cs.toList = (#[.int .i64 c.a, .int .i64 c.b, .int .i64 c.c, .int .i64 c.d] : Array Value).toList := hc
  rw [Array.toList_inj.1 this]
set_option maxRecDepth 100000 in
theorem open_i64 (hv : Value.okWide Tryz.prog W .any base 3 v) (h : DataW.Trod enc Tryz.prog W 0 sp held 3 v d p) : ∃ n : Int, v = .int .i64 n ∧ (-9223372036854775808 ≤ n ∧ n ≤ 9223372036854775807) := by
  obtain ⟨n, h1, _, _, wn⟩ := open_int Tryz.underlying3 hv h
  exact ⟨n, h1, bounds_i64 wn⟩
end
theorem replicaNew_walk {S0 : Nat → Addr} {w : World} (hS : Sents S0 w) (c0 c1 c2 c3 s : Int) :
    Calls Tryz.prog 3 #[.agg #[.int .i64 c0, .int .i64 c1, .int .i64 c2, .int .i64 c3], .int .i64 s] w fun e w' => e = .returned (.bool true) ∧ Grew w w' := by
  by_cases h : 1 ≤ c0 ∧ c0 ≤ 8 ∧ 0 ≤ c1 ∧ c1 ≤ 65536 ∧ 1 ≤ c2 ∧ c2 ≤ 256 ∧ 0 ≤ c3 ∧ c3 ≤ 256 ∧ 0 ≤ s ∧ s < c0
  · obtain ⟨h0, h1, h2, h3, h4, h5, h6, h7, h8, h9⟩ := h
    exact replicaNew_good c0 c1 c2 c3 s h0 h1 h2 h3 h4 h5 h6 h7 h8 h9
  · exact replicaNew_bad hS c0 c1 c2 c3 s h
end Go.Proofs.YtlhldjfonidmgaaGreatDoor
