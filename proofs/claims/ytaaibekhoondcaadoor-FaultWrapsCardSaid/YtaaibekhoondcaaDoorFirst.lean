/- Walk: First, at a refusal. -/
import Derived.Test.YtaaibekhoondcaaDoorAs
import Derived.Test.YtaaibekhoondcaaDoorMade
namespace Go.Proofs.YtaaibekhoondcaaDoor
open Go.RowKit
set_option linter.unusedSimpArgs false
set_option linter.unusedVariables false

/-- What errors.errorType holds. -/
def ErrType (w : World) : Prop := w.cell? ⟨14, 0, none⟩ = some (.iface 134 (.agg #[.pointer (some ⟨19, 33, none⟩)]))
theorem ErrType.grew {w w' : World} (h : ErrType w) (g : Grew w w') : ErrType w' := by
  obtain ⟨x, rfl⟩ := g
  unfold ErrType at *
  rw [World.cell?_plus _ _ _ (by rw [h]; rfl), h]
theorem as_let (e : Addr) {B : Nat} (W : World) (hg : ErrType W) (hb : W.heap[B]? = some (.cells #[.pointer none] 104 (0, 0))) :
    Calls Tryd.prog 69 #[.iface 104 (.pointer (some e)), .iface 109 (.pointer (some ⟨B, 0, none⟩))] W fun x w' => x = .returned (.bool true) ∧ w'.heap[B]? = some (.cells #[.pointer (some e)] 104 (0, 0)) ∧ (∀ q, q < W.heap.size → q ≠ B → w'.heap[q]? = W.heap[q]?) ∧ (∀ w0 : World, w0.heap.size ≤ B → Grew w0 W → Grew w0 w') := by
  obtain ⟨h1, h2⟩ := World.own_cell hb 0 _ rfl
  refine (as_hit e ⟨B, 0, none⟩ _ W hg h1 h2).mono ?_
  rintro x w' ⟨rfl, rfl⟩
  have hB := (Array.getElem?_eq_some_iff.1 hb).1
  refine ⟨rfl, ?_, fun q hq hqB => ?_, fun w0 h0 g => ?_⟩
  · exact World.own_setCell (i := 0) (keep_a (keep_a (keep_a (keep_a hb)))) _
  · rw [World.block_setCell _ _ _ _ hqB, heap_alloc_past _ _ _ (by simp only [size_alloc']; omega), heap_alloc_past _ _ _ (by simp only [size_alloc']; omega), heap_alloc_past _ _ _ (by simp only [size_alloc']; omega), heap_alloc_past _ _ _ hq]
  · exact ((((g.alloc _).alloc _).alloc _).alloc _).setCell (p := ⟨B, 0, none⟩) h0 _
theorem chain3 {Q : World → Prop} {W2 : World} {B : Nat} {o0 o1 o2 c0 c1 c2 : Value} {t : TypeId} (h : W2.heap[B]? = some (.cells #[o0, o1, o2] t (0, 0)))
    (k : ∀ W9 : World, W9.heap[B]? = some (.cells #[c0, c1, c2] t (0, 0)) → Ex B W2 W9 → (∀ W0 : World, W0.heap.size ≤ B → Grew W0 W2 → Grew W0 W9) → Q W9) :
    Q (((W2.setCell ⟨B, 0, none⟩ c0).setCell ⟨B, 1, none⟩ c1).setCell ⟨B, 2, none⟩ c2) := by
  have k1 := World.own_setCell (i := 0) h c0
  have k2 := World.own_setCell (i := 1) k1 c1
  have k3 := World.own_setCell (i := 2) k2 c2
  refine k _ k3 ⟨by simp [World.setCell_size], fun q hq => by rw [World.block_setCell _ _ _ _ hq, World.block_setCell _ _ _ _ hq, World.block_setCell _ _ _ _ hq]⟩ (fun W0 h0 g => ((g.setCell (p := ⟨B, 0, none⟩) h0 c0).setCell (p := ⟨B, 1, none⟩) h0 c1).setCell (p := ⟨B, 2, none⟩) h0 c2)

set_option maxRecDepth 100000 in
set_option maxHeartbeats 4000000 in
theorem first_fault {l c : ByteArray} {i : Int} {v : Value} {b : Nat} (w : World) (hh : ErrType w) (hb : w.heap[b]? = some (.cells #[.string l, .string c, .int .i64 i, v] 106 (0, 0))) :
    Calls Tryd.prog 50 #[faultV ⟨b, 0, none⟩] w fun x w' => x = .returned (.tuple #[.agg #[.string l, .string c, .int .i64 i], .bool true]) ∧ Grew w w' := by
  have hbl := (Array.getElem?_eq_some_iff.1 hb).1
  have HH := Lib.hid hh
  have HB := Lib.hid hb
  clear hh hb
  go_enter Tryd.func50, Tryd.ntmps50
  go_wp2_with (first
    | (go_at_call 69; refine (as_let (B := w.heap.size + 1) ⟨b, 0, none⟩ _ (HH.out.grew (by repeat (first | with_reducible exact Grew.refl _ | with_reducible apply Grew.alloc | with_reducible apply Grew.plus | with_reducible apply Grew.drewN))) (heap_alloc_at _ _ _ (by simp [size_alloc']))).mono ?_; rintro x w2 ⟨rfl, hb2, hk2, hg2⟩; have hz2 : w2.heap[w.heap.size]? = some (.cells #[.string ⟨#[]⟩, .string ⟨#[]⟩, .int .i64 0] 78 (0, 0)) := (by rw [hk2 _ (by simp only [size_alloc']; omega) (by omega)]; exact keep_a (heap_alloc_at _ _ _ rfl)); have hf2 := (hk2 b (by simp only [size_alloc']; omega) (by omega)).trans (keep_a (keep_a HB.out)); obtain ⟨t0, u0⟩ := World.own_cell hb2 0 _ rfl; obtain ⟨p0, r0⟩ := World.own_cell hz2 0 _ rfl; obtain ⟨p1, r1⟩ := World.own_cell hz2 1 _ rfl; obtain ⟨p2, r2⟩ := World.own_cell hz2 2 _ rfl; have HZ2 := Lib.hid hz2; have HF2 := Lib.hid hf2; have HG2 := Lib.hid (hg2 w (by omega) (((Grew.refl w).alloc _).alloc _)); clear hb2 hk2 hg2 hz2 hf2)
    | (go_at_call 70; refine (link_any w2 _ (by repeat (first | with_reducible exact Grew.refl _ | with_reducible apply Grew.alloc | with_reducible apply Grew.plus | with_reducible apply Grew.drewN)) HF2.out).mono ?_; rintro x w3 ⟨rfl, gx, rfl⟩))
  refine chain3 (Q := bodyPost _ _ _ _ _) (Grew.heap ((Grew.refl _).plus _) HZ2.out) (fun w9 e6 hx gw => ?_)
  obtain ⟨y0, _⟩ := World.own_cell e6 0 _ rfl
  obtain ⟨y1, _⟩ := World.own_cell e6 1 _ rfl
  obtain ⟨y2, _⟩ := World.own_cell e6 2 _ rfl
  exact bodyPost_ret (v := .tuple #[.agg #[.string l, .string c, .int .i64 i], .bool true]) (by simp [results, Tryd.results50, go_sem, y0, y1, y2]) rfl ⟨rfl, gw w (Nat.le_refl _) (HG2.out.plus _)⟩
end Go.Proofs.YtaaibekhoondcaaDoor
