/- Opening arguments: a slice of acts, a slice of elements. -/
import Derived.Test.YtofijhejpgjopaaGreatDoorProg
import Derived.Test.YtofijhejpgjopaaGreatDoorOpen
import Derived.Test.YtofijhejpgjopaaGreatDoorActL
namespace Go.Proofs.YtofijhejpgjopaaGreatDoor
open Go.RowKit Go.ChangeShapes Go.WideShapes
set_option linter.unusedSimpArgs false
set_option linter.unusedVariables false

theorem act_of_row' {cs : List Value} (h : FitsRow [.int .i64, .int .i64, .int .i32, .int .i64, .int .i64, .int .i64, .int .i64, .int .i64, .int .i64, .int .i64, .int .i64, .int .i64, .int .i64] cs) : ∃ x : ActD, cs = actRow x ∧ True := by
  obtain ⟨_, _, rfl, ⟨n0, rfl, w0⟩, h0⟩ := fitsRow_cons h
  obtain ⟨_, _, rfl, ⟨n1, rfl, w1⟩, h1⟩ := fitsRow_cons h0
  obtain ⟨_, _, rfl, ⟨n2, rfl, w2⟩, h2⟩ := fitsRow_cons h1
  obtain ⟨_, _, rfl, ⟨n3, rfl, w3⟩, h3⟩ := fitsRow_cons h2
  obtain ⟨_, _, rfl, ⟨n4, rfl, w4⟩, h4⟩ := fitsRow_cons h3
  obtain ⟨_, _, rfl, ⟨m0, rfl, _⟩, g0⟩ := fitsRow_cons h4
  obtain ⟨_, _, rfl, ⟨m1, rfl, _⟩, g1⟩ := fitsRow_cons g0
  obtain ⟨_, _, rfl, ⟨m2, rfl, _⟩, g2⟩ := fitsRow_cons g1
  obtain ⟨_, _, rfl, ⟨m3, rfl, _⟩, g3⟩ := fitsRow_cons g2
  obtain ⟨_, _, rfl, ⟨m4, rfl, _⟩, g4⟩ := fitsRow_cons g3
  obtain ⟨_, _, rfl, ⟨m5, rfl, _⟩, g5⟩ := fitsRow_cons g4
  obtain ⟨_, _, rfl, ⟨m6, rfl, _⟩, g6⟩ := fitsRow_cons g5
  obtain ⟨_, _, rfl, ⟨m7, rfl, _⟩, g7⟩ := fitsRow_cons g6
  obtain rfl := fitsRow_nil g7
  exact ⟨⟨n0, n1, n2, n3, n4, ⟨m0, m1, m2, m3, m4, m5, m6, m7⟩⟩, rfl, trivial⟩
theorem bounds_i32' {n : Int} (h : (Lit.int .i32 n).wf = true) : -2147483648 ≤ n ∧ n ≤ 2147483647 := by
  simpa [Lit.wf, IntKind.min, IntKind.max, IntKind.signed, IntKind.bits] using h
theorem bounds_i64' {n : Int} (h : (Lit.int .i64 n).wf = true) : -9223372036854775808 ≤ n ∧ n ≤ 9223372036854775807 := by
  simpa [Lit.wf, IntKind.min, IntKind.max, IntKind.signed, IntKind.bits] using h
theorem el_of_row {cs : List Value} (h : FitsRow [.int .i64, .int .i64, .int .i64, .int .i32, .int .i64] cs) : ∃ x : ElD, cs = elRow x ∧ x.Fits := by
  obtain ⟨_, _, rfl, ⟨n0, rfl, w0⟩, h0⟩ := fitsRow_cons h
  obtain ⟨_, _, rfl, ⟨n1, rfl, w1⟩, h1⟩ := fitsRow_cons h0
  obtain ⟨_, _, rfl, ⟨n2, rfl, w2⟩, h2⟩ := fitsRow_cons h1
  obtain ⟨_, _, rfl, ⟨n3, rfl, w3⟩, h3⟩ := fitsRow_cons h2
  obtain ⟨_, _, rfl, ⟨n4, rfl, w4⟩, h4⟩ := fitsRow_cons h3
  obtain rfl := fitsRow_nil h4
  exact ⟨⟨n0, n1, n2, n3, n4⟩, rfl, bounds_i64' w0, bounds_i64' w1, bounds_i64' w2, bounds_i32' w3, bounds_i64' w4⟩

section
variable {H : Type} {enc : TypeId × Value → H} {W : World} {base : Nat} {sp : Nat → Bool} {held : Bool} {v : Value} {d : DataW H} {p : List MemPlace}
set_option maxRecDepth 100000 in
theorem open_actl (hv : Value.okWide Tryz.prog W .any base 22 v) (h : DataW.Trod enc Tryz.prog W 0 sp held 22 v d p) :
    ∃ S : SliceIn ActD, v = .slice S.a S.xs.length S.cap ∧ (S.xs.length ≤ S.cap ∧ S.cap ≤ 9223372036854775807 ∧ CellsIn W S.a (S.xs.flatMap actRow) ∧ (S.a = none → S.xs.length = 0 ∧ S.cap = 0)) := by
  obtain ⟨a0, len0, cap0, hv0⟩ := okWide_slice Tryz.underlying22 hv
  obtain ⟨fuel, hf⟩ := h
  obtain ⟨a, len, cap, hcs, hl, hm, hrow, hn⟩ := flatSlice_open (d := 4) (ks := [.int .i64, .int .i64, .int .i32, .int .i64, .int .i64, .int .i64, .int .i64, .int .i64, .int .i64, .int .i64, .int .i64, .int .i64, .int .i64]) Tryz.underlying22 (by kernel_rfl) (by decide) (by kernel_rfl) hf
  rw [hv0] at hcs ⊢
  simp only [Value.cells, List.cons.injEq, Value.slice.injEq, and_true] at hcs
  obtain ⟨rfl, rfl, rfl⟩ := hcs
  obtain ⟨xs, hxl, hin, hall⟩ := flat_choose ((⟨0, 0, 0, 0, 0, ⟨0, 0, 0, 0, 0, 0, 0, 0⟩⟩ : ActD)) actRow (fun x => by cases x; rfl) (fun _ => True) (fun row h => act_of_row' h) hrow
  exact ⟨⟨a0, xs, cap0⟩, by simp [hxl], by simp only; omega, by unfold maxLen at hm; exact hm, hin, fun e => by have := hn e; simp only at *; omega⟩
set_option maxRecDepth 100000 in
theorem open_els (hv : Value.okWide Tryz.prog W .any base 27 v) (h : DataW.Trod enc Tryz.prog W 0 sp held 27 v d p) :
    ∃ S : SliceIn ElD, v = .slice S.a S.xs.length S.cap ∧ (S.xs.length ≤ S.cap ∧ S.cap ≤ 9223372036854775807 ∧ CellsIn W S.a (S.xs.flatMap elRow) ∧ (S.a = none → S.xs.length = 0 ∧ S.cap = 0) ∧ ∀ e ∈ S.xs, e.Fits) := by
  obtain ⟨a0, len0, cap0, hv0⟩ := okWide_slice Tryz.underlying27 hv
  obtain ⟨fuel, hf⟩ := h
  obtain ⟨a, len, cap, hcs, hl, hm, hrow, hn⟩ := flatSlice_open (d := 4) (ks := [.int .i64, .int .i64, .int .i64, .int .i32, .int .i64]) Tryz.underlying27 (by kernel_rfl) (by decide) (by kernel_rfl) hf
  rw [hv0] at hcs ⊢
  simp only [Value.cells, List.cons.injEq, Value.slice.injEq, and_true] at hcs
  obtain ⟨rfl, rfl, rfl⟩ := hcs
  obtain ⟨xs, hxl, hin, hall⟩ := flat_choose ((⟨0, 0, 0, 0, 0⟩ : ElD)) elRow (fun x => by cases x; rfl) ElD.Fits (fun row h => el_of_row h) hrow
  exact ⟨⟨a0, xs, cap0⟩, by simp [hxl], by simp only; omega, by unfold maxLen at hm; exact hm, hin, fun e => by have := hn e; simp only at *; omega, hall⟩
end
end Go.Proofs.YtofijhejpgjopaaGreatDoor
