/- Opening an argument that is a clock, or an int. -/
import Derived.Test.YtaaibekhoondcaaDoorProg
import Derived.Test.YtaaibekhoondcaaDoorOpen
import Derived.Test.YtaaibekhoondcaaDoorClkList
namespace Go.Proofs.YtaaibekhoondcaaDoor
open Go.RowKit Go.ChangeShapes Go.WideShapes

theorem fits_of_row {cs : List Value} (h : FitsRow [.int .i64, .int .i64, .int .i64, .int .i64, .int .i64, .int .i64, .int .i64, .int .i64] cs) : ∃ c : C8, cs = c.cells.toList ∧ c.Fits := by
  obtain ⟨_, _, rfl, ⟨n0, rfl, w0⟩, h0⟩ := fitsRow_cons h
  obtain ⟨_, _, rfl, ⟨n1, rfl, w1⟩, h1⟩ := fitsRow_cons h0
  obtain ⟨_, _, rfl, ⟨n2, rfl, w2⟩, h2⟩ := fitsRow_cons h1
  obtain ⟨_, _, rfl, ⟨n3, rfl, w3⟩, h3⟩ := fitsRow_cons h2
  obtain ⟨_, _, rfl, ⟨n4, rfl, w4⟩, h4⟩ := fitsRow_cons h3
  obtain ⟨_, _, rfl, ⟨n5, rfl, w5⟩, h5⟩ := fitsRow_cons h4
  obtain ⟨_, _, rfl, ⟨n6, rfl, w6⟩, h6⟩ := fitsRow_cons h5
  obtain ⟨_, _, rfl, ⟨n7, rfl, w7⟩, h7⟩ := fitsRow_cons h6
  obtain rfl := fitsRow_nil h7
  refine ⟨⟨n0, n1, n2, n3, n4, n5, n6, n7⟩, rfl, fun i hi => ?_⟩
  match i, hi with
  | 0, _ => exact bounds_i64 w0
  | 1, _ => exact bounds_i64 w1
  | 2, _ => exact bounds_i64 w2
  | 3, _ => exact bounds_i64 w3
  | 4, _ => exact bounds_i64 w4
  | 5, _ => exact bounds_i64 w5
  | 6, _ => exact bounds_i64 w6
  | 7, _ => exact bounds_i64 w7

section
variable {H : Type} {enc : TypeId × Value → H} {W : World} {base : Nat} {sp : Nat → Bool} {held : Bool} {v : Value} {d : DataW H} {p : List MemPlace}
set_option maxRecDepth 100000 in
theorem open_clk (hv : Value.okWide Tryd.prog W .any base 24 v) (h : DataW.Trod enc Tryd.prog W 0 sp held 24 v d p) : ∃ c : C8, v = .agg c.cells ∧ c.Fits := by
  obtain ⟨cs, rfl⟩ := okWide_arr Tryd.underlying24 hv
  obtain ⟨fuel, hf⟩ := h
  have h2 := (trod_flat 3 24 [.int .i64, .int .i64, .int .i64, .int .i64, .int .i64, .int .i64, .int .i64, .int .i64] fuel _ _ (by kernel_rfl) hf).2
  obtain ⟨c, hc, hfit⟩ := fits_of_row h2
  refine ⟨c, ?_, hfit⟩
  have : cs.toList = c.cells.toList := hc
  rw [Array.toList_inj.1 this]
set_option maxRecDepth 100000 in
theorem open_i64 (hv : Value.okWide Tryd.prog W .any base 3 v) (h : DataW.Trod enc Tryd.prog W 0 sp held 3 v d p) : ∃ n : Int, v = .int .i64 n ∧ (-9223372036854775808 ≤ n ∧ n ≤ 9223372036854775807) := by
  obtain ⟨n, h1, _, _, wn⟩ := open_int Tryd.underlying3 hv h
  exact ⟨n, h1, bounds_i64 wn⟩
set_option maxRecDepth 100000 in
theorem open_clks (hv : Value.okWide Tryd.prog W .any base 42 v) (h : DataW.Trod enc Tryd.prog W 0 sp held 42 v d p) :
    ∃ S : SliceIn C8, v = .slice S.a S.xs.length S.cap ∧ (S.xs.length ≤ S.cap ∧ S.cap ≤ 9223372036854775807 ∧ ClksAt W S.a S.xs ∧ ∀ c ∈ S.xs, c.Fits) := by
  obtain ⟨a0, len0, cap0, hv0⟩ := okWide_slice Tryd.underlying42 hv
  obtain ⟨fuel, hf⟩ := h
  obtain ⟨a, len, cap, hcs, hl, hm, hrow, _⟩ := flatSlice_open (d := 3) (ks := [.int .i64, .int .i64, .int .i64, .int .i64, .int .i64, .int .i64, .int .i64, .int .i64]) Tryd.underlying42 (by kernel_rfl) (by decide) (by kernel_rfl) hf
  rw [hv0] at hcs ⊢
  simp only [Value.cells, List.cons.injEq, Value.slice.injEq, and_true] at hcs
  obtain ⟨rfl, rfl, rfl⟩ := hcs
  simp only [List.length_cons, List.length_nil] at hrow
  by_cases h0 : 0 < len0
  · obtain ⟨b, off, rfl, hb, hr⟩ := hrow h0
    obtain ⟨xs, hxl, hx⟩ := list_choose (α := C8) C8.zero (n := len0) (p := fun i c => W.cellsAt ⟨b, off + i * 8, none⟩ 8 = some c.cells.toList ∧ c.Fits) (fun i hi => by
      obtain ⟨row, h1, h2⟩ := hr i hi
      obtain ⟨c, hc, hfit⟩ := fits_of_row h2
      exact ⟨c, by rw [← hc]; exact h1, hfit⟩)
    refine ⟨⟨some ⟨b, off, none⟩, xs, cap0⟩, by simp [hxl], by simp only; omega, by unfold maxLen at hm; exact hm, fun _ => ⟨b, off, rfl, hb, fun i hi => (hx i (by simp only at hi; omega)).1⟩, fun c hc => ?_⟩
    obtain ⟨i, hi, rfl⟩ := List.mem_iff_getElem.1 hc
    have := (hx i (by simp only at hi; omega)).2
    simpa [List.getD, hi] using this
  · obtain rfl : len0 = 0 := by omega
    exact ⟨⟨a0, [], cap0⟩, rfl, Nat.zero_le _, by unfold maxLen at hm; exact hm, fun h => absurd h (by simp), fun c hc => by simp at hc⟩
end
end Go.Proofs.YtaaibekhoondcaaDoor
