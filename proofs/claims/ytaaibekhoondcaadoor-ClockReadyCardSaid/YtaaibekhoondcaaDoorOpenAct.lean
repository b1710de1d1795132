/- Opening an argument that is a slice of acts. -/
import Derived.Test.YtaaibekhoondcaaDoorOpenClk
import Derived.Test.YtaaibekhoondcaaDoorClkReady
namespace Go.Proofs.YtaaibekhoondcaaDoor
open Go.RowKit Go.ChangeShapes Go.WideShapes

theorem act_of_row {cs : List Value} (h : FitsRow [.int .i64, .int .i64, .int .i32, .int .i64, .int .i64, .int .i64, .int .i64, .int .i64, .int .i64, .int .i64, .int .i64, .int .i64, .int .i64] cs) : ∃ x : ActD, cs = x.cells.toList := by
  obtain ⟨_, _, rfl, ⟨n0, rfl, w0⟩, h0⟩ := fitsRow_cons h
  obtain ⟨_, _, rfl, ⟨n1, rfl, w1⟩, h1⟩ := fitsRow_cons h0
  obtain ⟨_, _, rfl, ⟨n2, rfl, w2⟩, h2⟩ := fitsRow_cons h1
  obtain ⟨_, _, rfl, ⟨n3, rfl, w3⟩, h3⟩ := fitsRow_cons h2
  obtain ⟨_, _, rfl, ⟨n4, rfl, w4⟩, h4⟩ := fitsRow_cons h3
  obtain ⟨c, rfl, _⟩ := fits_of_row h4
  exact ⟨⟨n0, n1, n2, n3, n4, c⟩, rfl⟩

section
variable {H : Type} {enc : TypeId × Value → H} {W : World} {base : Nat} {sp : Nat → Bool} {held : Bool} {v : Value} {d : DataW H} {p : List MemPlace}
set_option maxRecDepth 100000 in
theorem open_acts (hv : Value.okWide Tryd.prog W .any base 25 v) (h : DataW.Trod enc Tryd.prog W 0 sp held 25 v d p) :
    ∃ S : SliceIn ActD, v = .slice S.a S.xs.length S.cap ∧ (S.xs.length ≤ S.cap ∧ S.cap ≤ 9223372036854775807 ∧ ActsAt W S.a S.xs) := by
  obtain ⟨a0, len0, cap0, hv0⟩ := okWide_slice Tryd.underlying25 hv
  obtain ⟨fuel, hf⟩ := h
  obtain ⟨a, len, cap, hcs, hl, hm, hrow⟩ := flatSlice_open (d := 4) (ks := [.int .i64, .int .i64, .int .i32, .int .i64, .int .i64, .int .i64, .int .i64, .int .i64, .int .i64, .int .i64, .int .i64, .int .i64, .int .i64]) Tryd.underlying25 (by kernel_rfl) (by decide) (by kernel_rfl) hf
  rw [hv0] at hcs ⊢
  simp only [Value.cells, List.cons.injEq, Value.slice.injEq, and_true] at hcs
  obtain ⟨rfl, rfl, rfl⟩ := hcs
  simp only [List.length_cons, List.length_nil] at hrow
  by_cases h0 : 0 < len0
  · obtain ⟨b, off, rfl, hb, hr⟩ := hrow h0
    obtain ⟨xs, hxl, hx⟩ := list_choose (α := ActD) ⟨0, 0, 0, 0, 0, C8.zero⟩ (n := len0) (p := fun i c => W.cellsAt ⟨b, off + i * 13, none⟩ 13 = some c.cells.toList) (fun i hi => by
      obtain ⟨row, h1, h2⟩ := hr i hi
      obtain ⟨c, hc⟩ := act_of_row h2
      exact ⟨c, by rw [← hc]; exact h1⟩)
    refine ⟨⟨some ⟨b, off, none⟩, xs, cap0⟩, by simp [hxl], by simp only; omega, by unfold maxLen at hm; exact hm, fun _ => ⟨b, off, rfl, hb, fun i hi => ?_⟩⟩
    have := hx i (by simp only at hi; omega)
    simp only at hi
    simpa [List.getD, hi] using this
  · obtain rfl : len0 = 0 := by omega
    exact ⟨⟨a0, [], cap0⟩, rfl, Nat.zero_le _, by unfold maxLen at hm; exact hm, fun h => absurd h (by simp)⟩
end
end Go.Proofs.YtaaibekhoondcaaDoor
