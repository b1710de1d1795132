/- Opening arguments: bytes, an int, steps. -/
import Derived.Test.YtkdjejokhbdokaaDoorProg
import Derived.Test.YtkdjejokhbdokaaDoorOpen
import Derived.Test.YtkdjejokhbdokaaDoorScrRead
namespace Go.Proofs.YtkdjejokhbdokaaDoor
open Go.RowKit Go.ChangeShapes Go.WideShapes

theorem byte_of_row {cs : List Value} (h : FitsRow [.int .u8] cs) : ∃ b : UInt8, cs = [.int .u8 b.toNat] ∧ True := by
  obtain ⟨_, _, rfl, ⟨n0, rfl, w0⟩, h0⟩ := fitsRow_cons h
  obtain rfl := fitsRow_nil h0
  have hb := bounds_u8 w0
  refine ⟨UInt8.ofNat n0.toNat, ?_, trivial⟩
  rw [UInt8.toNat_ofNat_of_lt' (by show n0.toNat < 256; omega), Int.toNat_of_nonneg hb.1]
theorem bv_flat (l : List UInt8) : bv l = l.flatMap fun b => [.int .u8 b.toNat] := by
  induction l with
  | nil => rfl
  | cons b l ih => rw [List.flatMap_cons, ← ih]; rfl
theorem step_of_row {cs : List Value} (h : FitsRow [.int .i64, .int .i64, .int .i64, .int .i64, .string] cs) : ∃ s : StepD, cs = (Scr.cells s).toList ∧ s.text.size ≤ maxLen := by
  obtain ⟨_, _, rfl, ⟨n0, rfl, w0⟩, h0⟩ := fitsRow_cons h
  obtain ⟨_, _, rfl, ⟨n1, rfl, w1⟩, h1⟩ := fitsRow_cons h0
  obtain ⟨_, _, rfl, ⟨n2, rfl, w2⟩, h2⟩ := fitsRow_cons h1
  obtain ⟨_, _, rfl, ⟨n3, rfl, w3⟩, h3⟩ := fitsRow_cons h2
  obtain ⟨_, _, rfl, ⟨s, rfl, ws⟩, h4⟩ := fitsRow_cons h3
  obtain rfl := fitsRow_nil h4
  exact ⟨⟨n0, n1, n2, n3, s⟩, rfl, ws⟩

section
variable {H : Type} {enc : TypeId × Value → H} {W : World} {base : Nat} {sp : Nat → Bool} {held : Bool} {v : Value} {d : DataW H} {p : List MemPlace}
set_option maxRecDepth 100000 in
theorem open_i64 (hv : Value.okWide Tryd.prog W .any base 3 v) (h : DataW.Trod enc Tryd.prog W 0 sp held 3 v d p) : ∃ n : Int, v = .int .i64 n ∧ (-9223372036854775808 ≤ n ∧ n ≤ 9223372036854775807) := by
  obtain ⟨n, h1, _, _, wn⟩ := open_int Tryd.underlying3 hv h
  exact ⟨n, h1, bounds_i64 wn⟩
set_option maxRecDepth 100000 in
theorem open_bytes (hv : Value.okWide Tryd.prog W .any base 22 v) (h : DataW.Trod enc Tryd.prog W 0 sp held 22 v d p) :
    ∃ S : SliceIn UInt8, v = .slice S.a S.xs.length S.cap ∧ (S.xs.length ≤ S.cap ∧ S.cap ≤ 9223372036854775807 ∧ CellsIn W S.a (bv S.xs) ∧ (S.a = none → S.cap = 0)) := by
  obtain ⟨a0, len0, cap0, hv0⟩ := okWide_slice Tryd.underlying22 hv
  obtain ⟨fuel, hf⟩ := h
  obtain ⟨a, len, cap, hcs, hl, hm, hrow, hn⟩ := flatSlice_open (d := 3) (ks := [.int .u8]) Tryd.underlying22 (by kernel_rfl) (by decide) (by kernel_rfl) hf
  rw [hv0] at hcs ⊢
  simp only [Value.cells, List.cons.injEq, Value.slice.injEq, and_true] at hcs
  obtain ⟨rfl, rfl, rfl⟩ := hcs
  obtain ⟨xs, hxl, hin, _⟩ := flat_choose (0 : UInt8) (fun b => [.int .u8 b.toNat]) (fun _ => rfl) (fun _ => True) (fun row h => byte_of_row h) hrow
  rw [← bv_flat] at hin
  exact ⟨⟨a0, xs, cap0⟩, by simp [hxl], by simp only; omega, by unfold maxLen at hm; exact hm, hin, hn⟩
set_option maxRecDepth 100000 in
theorem open_steps (hv : Value.okWide Tryd.prog W .any base 24 v) (h : DataW.Trod enc Tryd.prog W 0 sp held 24 v d p) :
    ∃ S : SliceIn StepD, v = .slice S.a S.xs.length S.cap ∧ (S.xs.length ≤ S.cap ∧ S.cap ≤ 9223372036854775807 ∧ CellsIn W S.a (stepCells S.xs) ∧ (S.a = none → S.cap = 0) ∧ ∀ s ∈ S.xs, s.text.size ≤ maxLen) := by
  obtain ⟨a0, len0, cap0, hv0⟩ := okWide_slice Tryd.underlying24 hv
  obtain ⟨fuel, hf⟩ := h
  obtain ⟨a, len, cap, hcs, hl, hm, hrow, hn⟩ := flatSlice_open (d := 3) (ks := [.int .i64, .int .i64, .int .i64, .int .i64, .string]) Tryd.underlying24 (by kernel_rfl) (by decide) (by kernel_rfl) hf
  rw [hv0] at hcs ⊢
  simp only [Value.cells, List.cons.injEq, Value.slice.injEq, and_true] at hcs
  obtain ⟨rfl, rfl, rfl⟩ := hcs
  obtain ⟨xs, hxl, hin, hall⟩ := flat_choose (⟨0, 0, 0, 0, ByteArray.empty⟩ : StepD) (fun s => (Scr.cells s).toList) (fun _ => rfl) (fun s => s.text.size ≤ maxLen) (fun row h => step_of_row h) hrow
  exact ⟨⟨a0, xs, cap0⟩, by simp [hxl], by simp only; omega, by unfold maxLen at hm; exact hm, hin, hn, hall⟩
end
end Go.Proofs.YtkdjejokhbdokaaDoor
