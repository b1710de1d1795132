/- Walks: audit's parts at no elements and no acts; a new replica's view. -/
import Derived.Test.YthekgpchjonboaaGreatDoorRepB
import Derived.Test.YthekgpchjonboaaGreatDoorRdy
import Derived.WideLaws
namespace Go.Proofs.YthekgpchjonboaaGreatDoor
open Go.RowKit
set_option linter.unusedSimpArgs false
set_option linter.unusedVariables false
section
variable {w : World} {R L M T Bi Bb I D S Bh : Nat} {c0 c1 c2 c3 s : Int}

set_option maxRecDepth 100000 in
theorem model_view (h : EModel w M T Bi) : Calls Tryz.prog 56 #[ptr M] w fun e w' => e = .returned (.string .empty) ∧ Grew w w' := by
  obtain ⟨hM, c0, c1⟩ := h.cells
  refine calls_of_wp_mark Tryz.func56 rfl ?_
  simp only [Tryz.ntmps56, List.size_toArray, List.length_cons, List.length_nil, Nat.reduceAdd, Nat.reduceSub, Array.replicate_succ, Array.replicate_zero, List.push_toArray, List.append_toArray, List.nil_append, List.cons_append]
  go_wp2_with (go_at_call 93; refine (tree_all (T := T) (.int .i64 0) _).mono ?_; rintro e w' ⟨rfl, rfl⟩)
  refine wp_range0 (w.heap.size + 1) rfl rfl Tryz.func129 rfl (by kernel_rfl) (fun W hW => tree_all1 _ _ (h.t.grew (((Grew.refl w).alloc _).alloc _ |>.trans hW)) ?_) (fun w1 hg1 hd1 => ?_)
  · rw [hW.cell (by simp [h1a])]
    exact World.own_cell1 (heap_alloc_at _ _ _ (by simp [h1a]))
  · have hc : w1.cell? ⟨w.heap.size, 1, none⟩ = some nilS := by
      rw [hg1.cell (by simp [h1a]; omega), World.cell?_alloc_lt _ _ _ (by simp [h1a])]
      exact (World.own_cell (heap_alloc_at _ _ _ rfl) 1 _ rfl).1
    have HG1 := Lib.hid hg1
    have HD1 := Lib.hid hd1
    clear hg1 hd1
    go_wp2_with (go_at_call 96; refine (builder_string0 _ hc).mono ?_; rintro e w' ⟨rfl, gx, rfl⟩)
    have hd2 := Grew.heap ((Grew.refl w1).plus gx) HD1.out
    exact ⟨_, _, rfl, run_takeDeferred (by simpa [h1a] using hd2), _, results_tmp rfl _ _ _, rfl, ((((((Grew.refl w).alloc _).alloc _).trans HG1.out).plus gx).putObj (by omega) _)⟩
theorem rep_view (h : ERep w R L M T Bi Bb I D S Bh c0 c1 c2 c3 s) : Calls Tryz.prog 27 #[ptr R] w fun e w' => e = .returned (.string .empty) ∧ Grew w w' := by
  have H := Lib.hid h
  clear h
  go_enter Tryz.func27, Tryz.ntmps27
  go_wp2_with (first | (go_at_call 55; refine H.out.mod.mono ?_; rintro e w' ⟨rfl, rfl⟩) | (go_at_call 56; refine (model_view H.out.l.m).mono ?_; rintro e w' ⟨rfl, gx, rfl⟩))
  go_ret
  exact ⟨rfl, by repeat (first | with_reducible exact HG.out | with_reducible exact Grew.refl _ | with_reducible assumption | with_reducible apply Grew.plus | with_reducible apply Grew.drewN | with_reducible apply Grew.drew | with_reducible apply Grew.alloc | with_reducible refine Grew.setCell ?_ (by simp [go_sem]; try omega) _)⟩
theorem run_makeIds (n : Int) (W : World) : (Instr.makeMap 464 (some (.int .i64 n))).run Tryz.prog W = .ok (.map (some W.heap.size)) (W.alloc (.map #[] 0)) := by
  simp [Instr.makeMap, asInt, asIntOf, Sem.run_bind, run_underlying Tryz.underlying464]
theorem index_nil (f : Value) (w : World) : Calls Tryz.prog 345 #[nilS, f] w fun e w' => e = .returned (.int .i64 (-1)) ∧ w = w' := by
  go_enter Tryz.func345, Tryz.ntmps345
  go_wp2
  refine wp_loop_rounds 1 ?_
  rw [rounds_succ]
  go_wp2
  go_ret
  exact ⟨rfl, rfl⟩
theorem equal_nil (w : World) : Calls Tryz.prog 57 #[nilS, nilS] w fun e w' => e = .returned (.bool true) ∧ w = w' := by
  go_enter Tryz.func57, Tryz.ntmps57
  go_wp2
  refine wp_loop_rounds 1 ?_
  rw [rounds_succ]
  go_wp2
  go_ret
  exact ⟨rfl, rfl⟩
theorem join_nil (w : World) : Calls Tryz.prog 164 #[nilS] w fun e w' => e = .returned .nilIface ∧ w = w' := by
  go_enter Tryz.func164, Tryz.ntmps164
  go_wp2
  refine wp_loop_rounds 1 ?_
  rw [rounds_succ]
  go_wp2
  go_ret
  exact ⟨rfl, rfl⟩
end
end Go.Proofs.YthekgpchjonboaaGreatDoor
