/- Opening arguments: a slice of links. The laid type's handle: what errors.errorType holds. -/
import Derived.Test.YtaaibekhoondcaaDoorProg
import Derived.Test.YtaaibekhoondcaaDoorOpen
import Derived.Test.YtaaibekhoondcaaDoorFaultWraps
import Derived.LaidSub
import Derived.LaidHandle
namespace Go.Proofs.YtaaibekhoondcaaDoor
open Go.RowKit Go.ChangeShapes Go.WideShapes

theorem errGlobal : Tryd.prog.globalNamed "errors.errorType" = some 14 := by kernel_rfl
theorem errRtype : (Tryd.prog.cutTypes.find? (·.1 == "internal/reflectlite.rtype")).map (·.2) = some 134 := by kernel_rfl
theorem errOneRow : ((List.range Tryd.prog.types.size).filter fun t => Tryd.prog.rowNamed t [101, 114, 114, 111, 114]) = [33] := by kernel_rfl
theorem errHandle : typeHandle Tryd.prog 33 = .pointer (some ⟨19, 33, none⟩) := by kernel_rfl
/-- What the condition on the laid variable gives. -/
theorem errType_of_laid {W : World} {laid : List (String × DataW Unit)} {d : DataW Unit} (h : laidMetH Tryd.prog laid W) (hm : ("errors.errorType", d) ∈ laid) (hn : d.handleName? = some [101, 114, 114, 111, 114]) (hf : d.funcsIn? = none) : ErrType W := by
  have h2 := (laidMetH_iff.1 h).2 _ (List.mem_filter.2 ⟨hm, by simp only [hn]; rfl⟩)
  simp only [hf] at h2
  obtain ⟨name, u, ty, e1, e2, e3, e4, e5⟩ := h2
  have en : name = [101, 114, 114, 111, 114] := Option.some.inj (e1.symm.trans hn)
  subst en
  obtain rfl := Option.some.inj (errRtype.symm.trans e2)
  have hm : ty ∈ (List.range Tryd.prog.types.size).filter fun t => Tryd.prog.rowNamed t [101, 114, 114, 111, 114] := List.mem_filter.2 ⟨List.mem_range.2 e3, e4⟩
  rw [errOneRow] at hm
  obtain rfl := List.mem_singleton.1 hm
  rw [errHandle] at e5
  unfold ErrType
  simpa using World.var?_cell errGlobal e5 0

theorem link_of_row {cs : List Value} (h : FitsRow [.string, .string, .int .i64] cs) : ∃ s : Link, cs = linkRow s ∧ In64 s.2.2 := by
  obtain ⟨_, _, rfl, ⟨s0, rfl, w0⟩, h0⟩ := fitsRow_cons h
  obtain ⟨_, _, rfl, ⟨s1, rfl, w1⟩, h1⟩ := fitsRow_cons h0
  obtain ⟨_, _, rfl, ⟨n2, rfl, w2⟩, h2⟩ := fitsRow_cons h1
  obtain rfl := fitsRow_nil h2
  exact ⟨⟨s0, s1, n2⟩, rfl, bounds_i64 w2⟩
section
variable {H : Type} {enc : TypeId × Value → H} {W : World} {base : Nat} {sp : Nat → Bool} {held : Bool} {v : Value} {d : DataW H} {p : List MemPlace}
set_option maxRecDepth 100000 in
theorem open_links (hv : Value.okWide Tryd.prog W .any base 50 v) (h : DataW.Trod enc Tryd.prog W 0 sp held 50 v d p) :
    ∃ S : SliceIn Link, v = .slice S.a S.xs.length S.cap ∧ (S.xs.length ≤ S.cap ∧ S.cap ≤ 9223372036854775807 ∧ ∀ j (h : j < S.xs.length), ∃ b off, S.a = some ⟨b, off, none⟩ ∧ W.cellsAt ⟨b, off + j * 3, none⟩ 3 = some (linkRow (S.xs[j]'h)) ∧ In64 (S.xs[j]'h).2.2) := by
  obtain ⟨a0, len0, cap0, hv0⟩ := okWide_slice Tryd.underlying50 hv
  obtain ⟨fuel, hf⟩ := h
  obtain ⟨a, len, cap, hcs, hl, hm, hrow, hn⟩ := flatSlice_open (d := 3) (ks := [.string, .string, .int .i64]) Tryd.underlying50 (by kernel_rfl) (by decide) (by kernel_rfl) hf
  rw [hv0] at hcs ⊢
  simp only [Value.cells, List.cons.injEq, Value.slice.injEq, and_true] at hcs
  obtain ⟨rfl, rfl, rfl⟩ := hcs
  obtain ⟨xs, hxl, hin, hall⟩ := flat_choose ((⟨ByteArray.empty, ByteArray.empty, 0⟩ : Link)) linkRow (fun _ => rfl) (fun s => In64 s.2.2) (fun row h => link_of_row h) hrow
  refine ⟨⟨a0, xs, cap0⟩, by simp [hxl], by simp only; omega, by unfold maxLen at hm; exact hm, fun j hj => ?_⟩
  obtain ⟨b, off, ha, _, hr⟩ := CellsIn.rowAt linkRow 3 len_link (by omega) hin (by simp only at hj; omega)
  exact ⟨b, off, ha, hr j hj, hall _ (List.getElem_mem hj)⟩
end
end Go.Proofs.YtaaibekhoondcaaDoor
