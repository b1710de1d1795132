/- Walks: audit's parts at no elements and no acts; a new replica's view. -/
import Derived.Test.YtofijhejpgjopaaGreatDoorRepB
import Derived.Test.YtofijhejpgjopaaGreatDoorRdy
import Derived.WideLaws
namespace Go.Proofs.YtofijhejpgjopaaGreatDoor
open Go.RowKit
set_option linter.unusedSimpArgs false
set_option linter.unusedVariables false
section
variable {w : World} {R L M T Bi Bb I D S Bh : Nat} {c0 c1 c2 c3 s : Int}

set_option maxRecDepth 100000 in
theorem model_view (h : EModel w M T Bi) : Calls Tryz.prog 91 #[ptr M] w fun e w' => e = .returned (.string .empty) ∧ Grew w w' := by
  obtain ⟨hM, c0, c1⟩ := h.cells
  refine calls_of_wp_mark Tryz.func91 rfl ?_
  simp only [Tryz.ntmps91, List.size_toArray, List.length_cons, List.length_nil, Nat.reduceAdd, Nat.reduceSub, Array.replicate_succ, Array.replicate_zero, List.push_toArray, List.append_toArray, List.nil_append, List.cons_append]
  go_wp2_with (go_at_call 102; refine (tree_all (T := T) (.int .i64 0) _).mono ?_; rintro e w' ⟨rfl, rfl⟩)
  refine wp_range0 (w.heap.size + 1) rfl rfl Tryz.func117 rfl (by kernel_rfl) (fun W hW => tree_all1 _ _ (h.t.grew (((Grew.refl w).alloc _).alloc _ |>.trans hW)) ?_) (fun w1 hg1 hd1 => ?_)
  · rw [hW.cell (by simp [h1a])]
    exact World.own_cell1 (heap_alloc_at _ _ _ (by simp [h1a]))
  · have hc : w1.cell? ⟨w.heap.size, 1, none⟩ = some nilS := by
      rw [hg1.cell (by simp [h1a]; omega), World.cell?_alloc_lt _ _ _ (by simp [h1a])]
      exact (World.own_cell (heap_alloc_at _ _ _ rfl) 1 _ rfl).1
    have HG1 := Lib.hid hg1
    have HD1 := Lib.hid hd1
    clear hg1 hd1
    go_wp2_with (go_at_call 105; refine (builder_string0 _ hc).mono ?_; rintro e w' ⟨rfl, gx, rfl⟩)
    have hd2 := Grew.heap ((Grew.refl w1).plus gx) HD1.out
    exact ⟨_, _, rfl, run_takeDeferred (by simpa [h1a] using hd2), _, results_tmp rfl _ _ _, rfl, ((((((Grew.refl w).alloc _).alloc _).trans HG1.out).plus gx).putObj (by omega) _)⟩
theorem rep_view (h : ERep w R L M T Bi Bb I D S Bh c0 c1 c2 c3 s) : Calls Tryz.prog 66 #[ptr R] w fun e w' => e = .returned (.string .empty) ∧ Grew w w' := by
  have H := Lib.hid h
  clear h
  go_enter Tryz.func66, Tryz.ntmps66
  go_wp2_with (first | (go_at_call 85; refine H.out.mod.mono ?_; rintro e w' ⟨rfl, rfl⟩) | (go_at_call 91; refine (model_view H.out.l.m).mono ?_; rintro e w' ⟨rfl, gx, rfl⟩))
  go_ret
  exact ⟨rfl, by repeat (first | with_reducible exact HG.out | with_reducible exact Grew.refl _ | with_reducible assumption | with_reducible apply Grew.plus | with_reducible apply Grew.drewN | with_reducible apply Grew.drew | with_reducible apply Grew.alloc | with_reducible refine Grew.setCell ?_ (by simp [go_sem]; try omega) _)⟩
theorem seen_nil (w : World) : Calls Tryz.prog 59 #[nilS] w fun e w' => e = .returned (.tuple #[nilS, .bool false]) ∧ w = w' := by
  go_enter Tryz.func59, Tryz.ntmps59
  go_wp2
  refine wp_loop_rounds 1 ?_
  rw [rounds_succ]
  go_wp2
  go_ret2
  exact ⟨rfl, rfl⟩
theorem run_makeIds (n : Int) (W : World) : (Instr.makeMap 78 (some (.int .i64 n))).run Tryz.prog W = .ok (.map (some W.heap.size)) (W.alloc (.map #[] 0)) := by
  simp [Instr.makeMap, asInt, asIntOf, Sem.run_bind, run_underlying Tryz.underlying78]
set_option maxRecDepth 100000 in
theorem places_nil (w : World) : Calls Tryz.prog 44 #[nilS] w fun e w' => e = .returned (.tuple #[.map (some w.heap.size), .bool true]) ∧ Grew w w' := by
  have hmm := fun W => run_makeIds 0 W
  have hb : (w.alloc (.map #[] 0)).heap[w.heap.size]? = some (.map #[] 0) := heap_alloc_at _ _ _ rfl
  have hlen := run_len_map (P := Tryz.prog) (w := w.alloc (.map #[] 0)) 78 3 w.heap.size #[] 0 (by kernel_rfl) hb
  go_enter Tryz.func44, Tryz.ntmps44
  go_wp2
  refine wp_loop_rounds 1 ?_
  rw [rounds_succ]
  go_wp2
  go_ret2
  exact ⟨rfl, by repeat (first | with_reducible exact HG.out | with_reducible exact Grew.refl _ | with_reducible assumption | with_reducible apply Grew.plus | with_reducible apply Grew.drewN | with_reducible apply Grew.drew | with_reducible apply Grew.alloc | with_reducible refine Grew.setCell ?_ (by simp [go_sem]; try omega) _)⟩
theorem index_nil (f : Value) (w : World) : Calls Tryz.prog 88 #[nilS, f] w fun e w' => e = .returned (.int .i64 (-1)) ∧ w = w' := by
  go_enter Tryz.func88, Tryz.ntmps88
  go_wp2
  refine wp_loop_rounds 1 ?_
  rw [rounds_succ]
  go_wp2
  go_ret
  exact ⟨rfl, rfl⟩
theorem contains_nil (f : Value) (w : World) : Calls Tryz.prog 61 #[nilS, f] w fun e w' => e = .returned (.bool false) ∧ w = w' := by
  go_enter Tryz.func61, Tryz.ntmps61
  go_wp2_with (go_at_call 88; refine (index_nil _ _).mono ?_; rintro e w' ⟨rfl, rfl⟩)
  go_ret
  exact ⟨rfl, rfl⟩
theorem equal_nil (w : World) : Calls Tryz.prog 56 #[nilS, nilS] w fun e w' => e = .returned (.bool true) ∧ w = w' := by
  go_enter Tryz.func56, Tryz.ntmps56
  go_wp2
  refine wp_loop_rounds 1 ?_
  rw [rounds_succ]
  go_wp2
  go_ret
  exact ⟨rfl, rfl⟩
theorem join_nil (w : World) : Calls Tryz.prog 71 #[nilS] w fun e w' => e = .returned .nilIface ∧ w = w' := by
  go_enter Tryz.func71, Tryz.ntmps71
  go_wp2
  refine wp_loop_rounds 1 ?_
  rw [rounds_succ]
  go_wp2
  go_ret
  exact ⟨rfl, rfl⟩
theorem causal_nil (w : World) : Calls Tryz.prog 7 #[nilS] w fun e w' => e = .returned (.bool true) ∧ Grew w w' := by
  go_enter Tryz.func7, Tryz.ntmps7
  go_wp2
  refine wp_loop_rounds 1 ?_
  rw [rounds_succ]
  go_wp2
  go_ret
  exact ⟨rfl, by repeat (first | with_reducible exact HG.out | with_reducible exact Grew.refl _ | with_reducible assumption | with_reducible apply Grew.plus | with_reducible apply Grew.drewN | with_reducible apply Grew.drew | with_reducible apply Grew.alloc | with_reducible refine Grew.setCell ?_ (by simp [go_sem]; try omega) _)⟩
set_option maxRecDepth 100000 in
theorem own_nil (w : World) : Calls Tryz.prog 69 #[.agg zClock.cells, nilS] w fun e w' => e = .returned (.bool true) ∧ Grew w w' := by
  have heq0 : ∀ W, (Op.equalIn 10000 50 (.agg #[.int .i64 0, .int .i64 0, .int .i64 0, .int .i64 0, .int .i64 0, .int .i64 0, .int .i64 0, .int .i64 0]) (.agg #[.int .i64 0, .int .i64 0, .int .i64 0, .int .i64 0, .int .i64 0, .int .i64 0, .int .i64 0, .int .i64 0])).run Tryz.prog W = .ok true W := fun W => by
    show (Op.equalIn 10000 50 (.agg zClock.cells) (.agg zClock.cells)).run Tryz.prog W = _
    rw [equalIn_clk]; simp
  go_enter Tryz.func69, Tryz.ntmps69
  go_wp2
  refine wp_loop_rounds 1 ?_
  rw [rounds_succ]
  go_wp2
  go_ret
  exact ⟨rfl, by repeat (first | with_reducible exact HG.out | with_reducible exact Grew.refl _ | with_reducible assumption | with_reducible apply Grew.plus | with_reducible apply Grew.drewN | with_reducible apply Grew.drew | with_reducible apply Grew.alloc | with_reducible refine Grew.setCell ?_ (by simp [go_sem]; try omega) _)⟩
end
end Go.Proofs.YtofijhejpgjopaaGreatDoor
