/- Walks: a model without elements, ranged over; a log without acts. -/
import Derived.Test.YthekgpchjonboaaGreatDoorNew
import Derived.RegionTactic
import Derived.ChangeAlike
import Derived.BigRegion
namespace Go.Proofs.YthekgpchjonboaaGreatDoor
open Go.RowKit
set_option linter.unusedSimpArgs false
set_option linter.unusedVariables false

section
variable {w : World} {T M Bi : Nat}
theorem h1a (W : World) (o : Obj) : (W.alloc o).heap.size = W.heap.size + 1 := by simp [go_sem]

set_option maxRecDepth 100000 in
theorem model_all1 (y : Nat) (b : Nat) (h : EModel w M T Bi) (hb : w.cell? ⟨b, 0, none⟩ = some (ptr M)) : Calls Tryz.prog 177 #[.func (.yield y) #[] #[], ptr b] w fun e w' => e = .returned (.tuple #[]) ∧ Grew w w' := by
  obtain ⟨hM, c0, c1⟩ := h.cells
  have hbl := World.block_lt_of_cell? w _ hb
  simp only at hbl
  refine calls_of_wp_mark Tryz.func177 rfl ?_
  simp only [Tryz.ntmps177, List.size_toArray, List.length_cons, List.length_nil, Nat.reduceAdd, Nat.reduceSub, Array.replicate_succ, Array.replicate_zero, List.push_toArray, List.append_toArray, List.nil_append, List.cons_append]
  go_wp2_with (go_at_call 93; refine (tree_all (T := T) (.int .i64 0) _).mono ?_; rintro e w' ⟨rfl, rfl⟩)
  refine wp_range0 (w.heap.size + 1) rfl rfl Tryz.func129 rfl (by kernel_rfl) (fun W hW => tree_all1 _ _ (h.t.grew (((Grew.refl w).alloc _).alloc _ |>.trans hW)) ?_) (fun w1 hg1 hd1 => ?_)
  · rw [hW.cell (by simp [h1a])]
    exact World.own_cell1 (heap_alloc_at _ _ _ (by simp [h1a]))
  · go_wp2
    exact ⟨_, _, rfl, run_takeDeferred hd1, _, results_none rfl _ _ _, rfl, (((((Grew.refl w).alloc _).alloc _).trans hg1).putObj (by simp [h1a]; omega) _)⟩
set_option maxRecDepth 100000 in
theorem model_elements (h : EModel w M T Bi) : Calls Tryz.prog 63 #[ptr M] w fun e w' => e = .returned nilS ∧ Grew w w' := by
  obtain ⟨hM, c0, c1⟩ := h.cells
  refine calls_of_wp_mark Tryz.func63 rfl ?_
  simp only [Tryz.ntmps63, List.size_toArray, List.length_cons, List.length_nil, Nat.reduceAdd, Nat.reduceSub, Array.replicate_succ, Array.replicate_zero, List.push_toArray, List.append_toArray, List.nil_append, List.cons_append]
  go_wp2_with (go_at_call 93; refine (tree_all (T := T) (.int .i64 0) _).mono ?_; rintro e w' ⟨rfl, rfl⟩)
  refine wp_range0 (w.heap.size + 1) rfl rfl Tryz.func129 rfl (by kernel_rfl) (fun W hW => tree_all1 _ _ (h.t.grew (((Grew.refl w).alloc _).alloc _ |>.trans hW)) ?_) (fun w1 hg1 hd1 => ?_)
  · rw [hW.cell (by simp [h1a])]
    exact World.own_cell1 (heap_alloc_at _ _ _ (by simp [h1a]))
  · have hc : w1.cell? ⟨w.heap.size, 0, none⟩ = some nilS := by
      rw [hg1.cell (by simp [h1a]; omega), World.cell?_alloc_lt _ _ _ (by simp [h1a])]
      exact World.own_cell1 (heap_alloc_at _ _ _ rfl)
    go_wp2
    exact ⟨_, _, rfl, run_takeDeferred hd1, _, results_tmp rfl _ _ _, rfl, (((((Grew.refl w).alloc _).alloc _).trans hg1).putObj (by simp [h1a]; omega) _)⟩

/-- A log without acts. -/
structure ELog (w : World) (L M T Bi Bb : Nat) (ep : Int) : Prop where
  l : w.heap[L]? = some (.cells #[.int .i64 ep, .map (some Bb), ptr M, nilS, nilS, .int .i64 0, .int .i64 0, .int .i64 0, .int .i64 0, .int .i64 0, .int .i64 0, .int .i64 0, .int .i64 0] tLog (0, 0))
  b : w.heap[Bb]? = some (.map #[] 0)
  m : EModel w M T Bi
theorem ELog.grew {w w' : World} {L M T Bi Bb : Nat} {ep : Int} (h : ELog w L M T Bi Bb ep) (hg : Grew w w') : ELog w' L M T Bi Bb ep := ⟨Grew.heap hg h.l, Grew.heap hg h.b, h.m.grew hg⟩

theorem EModel.set {w' : World} {L : Nat} {c : Array Value} {fr : Nat × Nat} (h : EModel w M T Bi) (hl : w.heap[L]? = some (.cells c tLog fr)) (hk : ∀ k, k < w.heap.size → k ≠ L → w'.heap[k]? = w.heap[k]?) : EModel w' M T Bi := by
  have h1 : M ≠ L := fun e => by subst e; have := h.m; rw [hl] at this; simp [tModel, tLog] at this
  have h2 : T ≠ L := fun e => by subst e; have : w.heap[T]? = _ := h.t; rw [hl] at this; simp [tTree, tLog] at this
  have h3 : Bi ≠ L := fun e => by subst e; have := h.i; rw [hl] at this; simp at this
  refine ⟨?_, ?_, ?_⟩
  · rw [hk M (Array.getElem?_eq_some_iff.1 h.m).1 h1]; exact h.m
  · rw [hk Bi (Array.getElem?_eq_some_iff.1 h.i).1 h3]; exact h.i
  · unfold ETree; rw [hk T (Array.getElem?_eq_some_iff.1 h.t).1 h2]; exact h.t
theorem log_cleared {w1 w2 : World} {L : Nat} {ep : Int} {vb vm v3 v4 k0 k1 k2 k3 k4 k5 k6 k7 : Value} (e1 : w1.heap[L]? = some (.cells #[.int .i64 ep, vb, vm, v3, v4, k0, k1, k2, k3, k4, k5, k6, k7] tLog (0, 0)))
    (h : ((((((((((w1.setCell ⟨L, 3, none⟩ (.slice none 0 0)).setCell ⟨L, 4, none⟩ (.slice none 0 0)).setCell ⟨L, 5, none⟩ (.int .i64 0)).setCell ⟨L, 6, none⟩ (.int .i64 0)).setCell ⟨L, 7, none⟩ (.int .i64 0)).setCell ⟨L, 8, none⟩ (.int .i64 0)).setCell ⟨L, 9, none⟩ (.int .i64 0)).setCell ⟨L, 10, none⟩ (.int .i64 0)).setCell ⟨L, 11, none⟩ (.int .i64 0)).setCell ⟨L, 12, none⟩ (.int .i64 0)).drew = w2) :
    w2.heap[L]? = some (.cells #[.int .i64 ep, vb, vm, nilS, nilS, .int .i64 0, .int .i64 0, .int .i64 0, .int .i64 0, .int .i64 0, .int .i64 0, .int .i64 0, .int .i64 0] tLog (0, 0)) ∧ w1.grownBy w2 (some L) := by
  subst h
  have s1 := World.own_set2 e1 3 (.slice none 0 0) #[.int .i64 ep, vb, vm, nilS, v4, k0, k1, k2, k3, k4, k5, k6, k7] rfl
  have s2 := World.own_set2 s1 4 (.slice none 0 0) #[.int .i64 ep, vb, vm, nilS, nilS, k0, k1, k2, k3, k4, k5, k6, k7] rfl
  have s3 := World.own_set2 s2 5 (.int .i64 0) #[.int .i64 ep, vb, vm, nilS, nilS, .int .i64 0, k1, k2, k3, k4, k5, k6, k7] rfl
  have s4 := World.own_set2 s3 6 (.int .i64 0) #[.int .i64 ep, vb, vm, nilS, nilS, .int .i64 0, .int .i64 0, k2, k3, k4, k5, k6, k7] rfl
  have s5 := World.own_set2 s4 7 (.int .i64 0) #[.int .i64 ep, vb, vm, nilS, nilS, .int .i64 0, .int .i64 0, .int .i64 0, k3, k4, k5, k6, k7] rfl
  have s6 := World.own_set2 s5 8 (.int .i64 0) #[.int .i64 ep, vb, vm, nilS, nilS, .int .i64 0, .int .i64 0, .int .i64 0, .int .i64 0, k4, k5, k6, k7] rfl
  have s7 := World.own_set2 s6 9 (.int .i64 0) #[.int .i64 ep, vb, vm, nilS, nilS, .int .i64 0, .int .i64 0, .int .i64 0, .int .i64 0, .int .i64 0, k5, k6, k7] rfl
  have s8 := World.own_set2 s7 10 (.int .i64 0) #[.int .i64 ep, vb, vm, nilS, nilS, .int .i64 0, .int .i64 0, .int .i64 0, .int .i64 0, .int .i64 0, .int .i64 0, k6, k7] rfl
  have s9 := World.own_set2 s8 11 (.int .i64 0) #[.int .i64 ep, vb, vm, nilS, nilS, .int .i64 0, .int .i64 0, .int .i64 0, .int .i64 0, .int .i64 0, .int .i64 0, .int .i64 0, k7] rfl
  have s10 := World.own_set2 s9 12 (.int .i64 0) #[.int .i64 ep, vb, vm, nilS, nilS, .int .i64 0, .int .i64 0, .int .i64 0, .int .i64 0, .int .i64 0, .int .i64 0, .int .i64 0, .int .i64 0] rfl
  refine ⟨by rw [heap_drew0]; exact s10, grownBy_drew (grownBy_set (grownBy_set (grownBy_set (grownBy_set (grownBy_set (grownBy_set (grownBy_set (grownBy_set (grownBy_set (grownBy_set (grownBy_refl w1 (some L)) _ _) _ _) _ _) _ _) _ _) _ _) _ _) _ _) _ _) _ _)⟩
set_option maxRecDepth 100000 in
set_option maxHeartbeats 1000000 in
theorem log_begin (L : Nat) (ep : Int) (vb v3 v4 : Value) (k0 k1 k2 k3 k4 k5 k6 k7 : Value) (hl : w.heap[L]? = some (.cells #[.int .i64 ep, vb, ptr M, v3, v4, k0, k1, k2, k3, k4, k5, k6, k7] tLog (0, 0))) (h : EModel w M T Bi) :
    Calls Tryz.prog 99 #[ptr L] w fun e w' => e = .returned (.tuple #[]) ∧ ∃ Bb, ELog w' L M T Bi Bb ep ∧ w.grownBy w' (some L) := by
  have hL := (Array.getElem?_eq_some_iff.1 hl).1
  have l2 : w.cell? ⟨L, 2, none⟩ = some (ptr M) := (World.own_cell hl 2 _ rfl).1
  have l1 : w.cell? ⟨L, 1, none⟩ = some vb := (World.own_cell hl 1 _ rfl).1
  have f1 : w.frozen? ⟨L, 1, none⟩ = false := (World.own_cell hl 1 _ rfl).2
  have hmm := @run_makeMap Tryz.prog
  refine calls_of_wp_mark Tryz.func99 rfl ?_
  simp only [Tryz.ntmps99, List.size_toArray, List.length_cons, List.length_nil, Nat.reduceAdd, Nat.reduceSub, Array.replicate_succ, Array.replicate_zero, List.push_toArray, List.append_toArray, List.nil_append, List.cons_append]
  go_wp2_with (go_at_call 137; refine (model_all (M := M) (.int .i64 0) _).mono ?_; rintro e w' ⟨rfl, rfl⟩)
  have hl0 : (w.setCell ⟨L, 1, none⟩ (.map (some (w.heap.size + 1)))).heap[L]? = some (.cells #[.int .i64 ep, .map (some (w.heap.size + 1)), ptr M, v3, v4, k0, k1, k2, k3, k4, k5, k6, k7] tLog (0, 0)) := World.own_setCell hl _
  have hz0 : (w.setCell ⟨L, 1, none⟩ (.map (some (w.heap.size + 1)))).heap.size = w.heap.size := World.setCell_size ..
  have hk0 : ∀ k, k < w.heap.size → k ≠ L → (w.setCell ⟨L, 1, none⟩ (.map (some (w.heap.size + 1)))).heap[k]? = w.heap[k]? := fun k _ hk => World.block_setCell _ _ _ _ hk
  have hg0 : w.grownBy (w.setCell ⟨L, 1, none⟩ (.map (some (w.heap.size + 1)))) (some L) := ⟨rfl, rfl, rfl, by rw [hz0]; exact Nat.le_refl _, fun k hk hne => hk0 k hk (fun e => hne (by rw [e]))⟩
  generalize w.setCell ⟨L, 1, none⟩ (.map (some (w.heap.size + 1))) = w0 at *
  have hm0 : EModel w0 M T Bi := h.set hl hk0
  refine wp_range0 (w.heap.size + 1 + 1) rfl rfl Tryz.func177 rfl (by kernel_rfl) (fun W hW => model_all1 _ _ (hm0.grew ((((Grew.refl w0).alloc _).alloc _).alloc _ |>.trans hW)) ?_) (fun w1 hg1 hd1 => ?_)
  · rw [hW.cell (by simp [h1a, hz0])]
    exact World.own_cell1 (heap_alloc_at _ _ _ (by simp [h1a, hz0]))
  have b1 : w1.cell? ⟨w.heap.size, 0, none⟩ = some (ptr L) := by
    rw [hg1.cell (by simp [h1a, hz0]; omega), World.cell?_alloc_lt _ _ _ (by simp [h1a, hz0]; omega), World.cell?_alloc_lt _ _ _ (by simp [h1a, hz0])]
    exact World.own_cell1 (heap_alloc_at _ _ _ hz0.symm)
  have e1 : w1.heap[L]? = some (.cells #[.int .i64 ep, .map (some (w.heap.size + 1)), ptr M, v3, v4, k0, k1, k2, k3, k4, k5, k6, k7] tLog (0, 0)) := Grew.heap ((((Grew.refl w0).alloc _).alloc _).alloc _ |>.trans hg1) hl0
  have g1 : Grew w0 w1 := (((Grew.refl w0).alloc _).alloc _).alloc _ |>.trans hg1
  clear hl0 hk0 hmm l1 f1 l2
  have x3 : w1.cell? ⟨L, 3, none⟩ = some v3 := (World.own_cell e1 3 _ rfl).1
  have x4 : w1.cell? ⟨L, 4, none⟩ = some v4 := (World.own_cell e1 4 _ rfl).1
  have y3 : w1.frozen? ⟨L, 3, none⟩ = false := (World.own_cell e1 3 _ rfl).2
  have y4 : w1.frozen? ⟨L, 4, none⟩ = false := (World.own_cell e1 4 _ rfl).2
  have z5 : w1.cell? ⟨L, 5, none⟩ = some k0 ∧ w1.frozen? ⟨L, 5, none⟩ = false := World.own_cell e1 5 _ rfl
  have z6 : w1.cell? ⟨L, 6, none⟩ = some k1 ∧ w1.frozen? ⟨L, 6, none⟩ = false := World.own_cell e1 6 _ rfl
  have z7 : w1.cell? ⟨L, 7, none⟩ = some k2 ∧ w1.frozen? ⟨L, 7, none⟩ = false := World.own_cell e1 7 _ rfl
  have z8 : w1.cell? ⟨L, 8, none⟩ = some k3 ∧ w1.frozen? ⟨L, 8, none⟩ = false := World.own_cell e1 8 _ rfl
  have z9 : w1.cell? ⟨L, 9, none⟩ = some k4 ∧ w1.frozen? ⟨L, 9, none⟩ = false := World.own_cell e1 9 _ rfl
  have z10 : w1.cell? ⟨L, 10, none⟩ = some k5 ∧ w1.frozen? ⟨L, 10, none⟩ = false := World.own_cell e1 10 _ rfl
  have z11 : w1.cell? ⟨L, 11, none⟩ = some k6 ∧ w1.frozen? ⟨L, 11, none⟩ = false := World.own_cell e1 11 _ rfl
  have z12 : w1.cell? ⟨L, 12, none⟩ = some k7 ∧ w1.frozen? ⟨L, 12, none⟩ = false := World.own_cell e1 12 _ rfl
  obtain ⟨p5, q5⟩ := z5
  obtain ⟨p6, q6⟩ := z6
  obtain ⟨p7, q7⟩ := z7
  obtain ⟨p8, q8⟩ := z8
  obtain ⟨p9, q9⟩ := z9
  obtain ⟨p10, q10⟩ := z10
  obtain ⟨p11, q11⟩ := z11
  obtain ⟨p12, q12⟩ := z12
  have hne : L ≠ w.heap.size := Nat.ne_of_lt hL
  have hne' : w.heap.size ≠ L := Ne.symm hne
  go_wp2
  go_region
  generalize hw2 : ((((((((((w1.setCell ⟨L, 3, none⟩ (.slice none 0 0)).setCell ⟨L, 4, none⟩ (.slice none 0 0)).setCell ⟨L, 5, none⟩ (.int .i64 0)).setCell ⟨L, 6, none⟩ (.int .i64 0)).setCell ⟨L, 7, none⟩ (.int .i64 0)).setCell ⟨L, 8, none⟩ (.int .i64 0)).setCell ⟨L, 9, none⟩ (.int .i64 0)).setCell ⟨L, 10, none⟩ (.int .i64 0)).setCell ⟨L, 11, none⟩ (.int .i64 0)).setCell ⟨L, 12, none⟩ (.int .i64 0)).drew = w2
  obtain ⟨s11, t11⟩ := log_cleared e1 hw2
  have hb1 : w1.heap[w.heap.size + 1]? = some (.map #[] 0) := by
    rw [hg1.block _ (by simp [h1a, hz0]), heap_alloc_past _ _ _ (by simp [h1a, hz0])]
    exact heap_alloc_at _ _ _ (by simp [h1a, hz0])
  have hs1 : w.heap.size + 3 ≤ w1.heap.size := by have := hg1.size; simp [h1a, hz0] at this; omega
  have hd2 : w2.heap[(((w0.alloc (.cells #[ptr L] 145)).alloc (.map #[] 0)).alloc (.cells #[ptr M] 141)).heap.size]? = some (.deferred (some [])) := by
    rw [t11.block _ (Array.getElem?_eq_some_iff.1 hd1).1 (by simp [h1a, hz0]; omega)]; exact hd1
  have hb2 : w2.heap[w.heap.size + 1]? = some (.map #[] 0) := by
    rw [t11.block _ (by omega) (by simp; omega)]; exact hb1
  have hm2 : EModel w2 M T Bi := (hm0.grew g1).set e1 (fun k hk hne => t11.block k hk (by simpa using hne))
  have hD : (((w0.alloc (.cells #[ptr L] 145)).alloc (.map #[] 0)).alloc (.cells #[ptr M] 141)).heap.size = w.heap.size + 3 := by simp [h1a, hz0]
  refine ⟨_, _, rfl, run_takeDeferred hd2, _, results_none rfl _ _ _, rfl, w.heap.size + 1, ⟨?_, ?_, ?_, ?_, ?_⟩, ?_⟩
  · rw [World.putObj_block _ (by rw [hD]; omega)]; exact s11
  · rw [World.putObj_block _ (by rw [hD]; omega)]; exact hb2
  · rw [World.putObj_block _ (by rw [hD]; have := (Array.getElem?_eq_some_iff.1 h.m).1; omega)]; exact hm2.m
  · rw [World.putObj_block _ (by rw [hD]; have := (Array.getElem?_eq_some_iff.1 h.i).1; omega)]; exact hm2.i
  · unfold ETree; rw [World.putObj_block _ (by rw [hD]; have := (Array.getElem?_eq_some_iff.1 h.t).1; omega)]; exact hm2.t
  · exact grownBy_put (grownBy_trans (grownBy_grew hg0 g1) t11) (by rw [hD]; omega) _
end
end Go.Proofs.YthekgpchjonboaaGreatDoor
