/- Opening arguments: bytes. -/
import Derived.Test.YtlhldjfonidmgaaGreatDoorProg
import Derived.Test.YtlhldjfonidmgaaGreatDoorOpen
namespace Go.Proofs.YtlhldjfonidmgaaGreatDoor
open Go.RowKit Go.ChangeShapes Go.WideShapes

theorem byte_of_row {cs : List Value} (h : FitsRow [.int .u8] cs) : ∃ b : UInt8, cs = [.int .u8 b.toNat] ∧ True := by
  obtain ⟨_, _, rfl, ⟨n0, rfl, w0⟩, h0⟩ := fitsRow_cons h
  obtain rfl := fitsRow_nil h0
  have hb := bounds_u8 w0
  refine ⟨UInt8.ofNat n0.toNat, ?_, trivial⟩
  rw [UInt8.toNat_ofNat_of_lt' (by show n0.toNat < 256; omega), Int.toNat_of_nonneg hb.1]
theorem bv_flat (l : List UInt8) : bv l = l.flatMap fun b => [.int .u8 b.toNat] := by
  induction l with
  | nil => rfl
  | cons b l ih => rw [List.flatMap_cons, ← ih]; rfl
section
variable {H : Type} {enc : TypeId × Value → H} {W : World} {base : Nat} {sp : Nat → Bool} {held : Bool} {v : Value} {d : DataW H} {p : List MemPlace}
set_option maxRecDepth 100000 in
theorem open_bytes (hv : Value.okWide Tryz.prog W .any base 49 v) (h : DataW.Trod enc Tryz.prog W 0 sp held 49 v d p) :
    ∃ S : SliceIn UInt8, v = .slice S.a S.xs.length S.cap ∧ (S.xs.length ≤ S.cap ∧ S.cap ≤ 9223372036854775807 ∧ CellsIn W S.a (bv S.xs) ∧ (S.a = none → S.cap = 0)) := by
  obtain ⟨a0, len0, cap0, hv0⟩ := okWide_slice Tryz.underlying49 hv
  obtain ⟨fuel, hf⟩ := h
  obtain ⟨a, len, cap, hcs, hl, hm, hrow, hn⟩ := flatSlice_open (d := 3) (ks := [.int .u8]) Tryz.underlying49 (by kernel_rfl) (by decide) (by kernel_rfl) hf
  rw [hv0] at hcs ⊢
  simp only [Value.cells, List.cons.injEq, Value.slice.injEq, and_true] at hcs
  obtain ⟨rfl, rfl, rfl⟩ := hcs
  obtain ⟨xs, hxl, hin, _⟩ := flat_choose (0 : UInt8) (fun b => [.int .u8 b.toNat]) (fun _ => rfl) (fun _ => True) (fun row h => byte_of_row h) hrow
  rw [← bv_flat] at hin
  exact ⟨⟨a0, xs, cap0⟩, by simp [hxl], by simp only; omega, by unfold maxLen at hm; exact hm, hin, hn⟩
end
end Go.Proofs.YtlhldjfonidmgaaGreatDoor
