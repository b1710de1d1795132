/- Walks: one refusal of a layer's, the document's and the program's. -/
import Derived.Test.YthekgpchjonboaaGreatDoorErrR
namespace Go.Proofs.YthekgpchjonboaaGreatDoor
open Go.RowKit
set_option linter.unusedSimpArgs false
set_option linter.unusedVariables false

set_option maxRecDepth 100000 in
set_option maxHeartbeats 4000000 in
/-- Say: a refusal of one link. -/
theorem say_any (l c : ByteArray) (i : Int) (k : Nat) (h0 : 1 ≤ k) (w : World) :
    Calls Tryz.prog 47 #[.string l, .string c, .int .i64 i, .int .i64 k] w fun e w' => ∃ ar cp b, e = .returned (noV k ar 1 cp b 1 1) ∧ CellsIn w' ar (linkCells [(l, c, max i (-1))]) ∧ 1 ≤ cp ∧ cp ≤ 9223372036854775807 ∧ CellsIn w' b (nats [k]) ∧ (∀ q, ar = some q → w.heap.size ≤ q.block) ∧ (∀ q, b = some q → w.heap.size ≤ q.block) ∧ Grew w w' := by
  have hW := fun (B : Addr) W => wrap_some l c i (k : Int) (by omega) [] none (some B) 0 1 1 W (CellsIn.nil _ _) (fun _ => ⟨rfl, rfl⟩) (by decide)
  simp only [List.length_nil, Nat.add_zero] at hW
  have HW := Lib.hid hW
  clear hW
  have h1 : ∀ (W : World) (o : Obj), (W.alloc o).heap.size = W.heap.size + 1 := fun W o => by simp [go_sem]
  have HR : Hid (∀ W, Grew ((w.alloc (.cells #[.int .i64 0, .slice none 0 0, .slice none 0 0] 33)).alloc (.cells #[.int .i64 k] 3)) W → W.heap[w.heap.size]? = some (.cells #[.int .i64 0, .slice none 0 0, .slice none 0 0] 33 (0, 0)) ∧ W.heap[w.heap.size + 1]? = some (.cells #[.int .i64 k] 3 (0, 0))) := fun W hW =>
    ⟨Grew.heap hW (by rw [heap_alloc_past _ _ _ (by rw [h1]; omega), heap_alloc_new]), Grew.heap hW (heap_alloc_at _ _ _ (by rw [h1]))⟩
  go_enter Tryz.func47, Tryz.ntmps47
  go_wp2_with (go_at_call 17; refine (HW.out _ _).mono ?_; rintro e w4 ⟨ar, cp, rfl, ho4, hg4⟩; obtain ⟨hbR, hbK⟩ := HR.out _ hg4; have HBR := Lib.hid hbR; have HBK := Lib.hid hbK; have q0 := World.own_cell hbR 0 _ rfl; have q1 := World.own_cell hbR 1 _ rfl; have q2 := World.own_cell hbR 2 _ rfl; obtain ⟨q00, q01⟩ := q0; obtain ⟨q10, q11⟩ := q1; obtain ⟨q20, q21⟩ := q2; have HG4 := Lib.hid hg4; have HO4 := Lib.hid ho4; clear hg4 ho4 hbR hbK)
  obtain ⟨ar', cp', e', hn1, hm1, hin, hfr, hno⟩ := HO4.out.rd
  cases e'
  have k1 := World.own_setCell (i := 0) HBR.out (.int .i64 k)
  have k2 := World.own_setCell (i := 1) k1 (.slice ar 1 cp)
  have k3 := World.own_setCell (i := 2) k2 (.slice (some ⟨w.heap.size + 1, 0, none⟩) 1 1)
  have f0 := (World.own_cell k3 0 (.int .i64 k) rfl).1
  have f1 := (World.own_cell k3 1 (.slice ar 1 cp) rfl).1
  have f2 := (World.own_cell k3 2 (.slice (some ⟨w.heap.size + 1, 0, none⟩) 1 1) rfl).1
  have g5 : Grew w _ := ((((((Grew.refl w).alloc _).alloc _).trans HG4.out).setCell (p := ⟨w.heap.size, 0, none⟩) (by simp) (.int .i64 k)).setCell (p := ⟨w.heap.size, 1, none⟩) (by simp) (.slice ar 1 cp)).setCell (p := ⟨w.heap.size, 2, none⟩) (by simp) (.slice (some ⟨w.heap.size + 1, 0, none⟩) 1 1)
  have hbl : ∀ q, q ≠ w.heap.size → (((w4.setCell ⟨w.heap.size, 0, none⟩ (.int .i64 k)).setCell ⟨w.heap.size, 1, none⟩ (.slice ar 1 cp)).setCell ⟨w.heap.size, 2, none⟩ (.slice (some ⟨w.heap.size + 1, 0, none⟩) 1 1)).heap[q]? = w4.heap[q]? := fun q hq => by
    rw [World.block_setCell _ _ _ _ hq, World.block_setCell _ _ _ _ hq, World.block_setCell _ _ _ _ hq]
  have c5 := hin.keepB (w' := ((w4.setCell ⟨w.heap.size, 0, none⟩ (.int .i64 k)).setCell ⟨w.heap.size, 1, none⟩ (.slice ar 1 cp)).setCell ⟨w.heap.size, 2, none⟩ (.slice (some ⟨w.heap.size + 1, 0, none⟩) 1 1)) (fun b hb _ => hbl _ (fun e => by have := (hfr b hb).1; rw [h1, h1] at this; omega))
  have d5 := World.own_cell (w := ((w4.setCell ⟨w.heap.size, 0, none⟩ (.int .i64 k)).setCell ⟨w.heap.size, 1, none⟩ (.slice ar 1 cp)).setCell ⟨w.heap.size, 2, none⟩ (.slice (some ⟨w.heap.size + 1, 0, none⟩) 1 1)) (q := w.heap.size + 1) (c := #[.int .i64 k]) (t := 3) (by rw [hbl (w.heap.size + 1) (by omega)]; exact HBK.out) 0 (.int .i64 k) rfl
  clear k1 k2 k3 hbl
  generalize ((w4.setCell ⟨w.heap.size, 0, none⟩ (.int .i64 k)).setCell ⟨w.heap.size, 1, none⟩ (.slice ar 1 cp)).setCell ⟨w.heap.size, 2, none⟩ (.slice (some ⟨w.heap.size + 1, 0, none⟩) 1 1) = w5 at *
  exact bodyPost_ret (v := noV k ar 1 cp (some ⟨w.heap.size + 1, 0, none⟩) 1 1) (by simp [results, Tryz.results47, go_sem, f0, f1, f2]) rfl ⟨ar, cp, _, rfl, c5, hn1, hm1, CellsIn.of_cells (fun i hi => by
    obtain rfl : i = 0 := by simp [nats] at hi; omega
    exact d5.1), fun q hq => by have := (hfr q hq).1; rw [h1, h1] at this; omega, fun q hq => by cases hq; exact Nat.le_succ _, g5⟩
end Go.Proofs.YthekgpchjonboaaGreatDoor
