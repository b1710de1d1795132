/- Walks: Covers, Merge, Meet and Compare of two clocks, the program's and the reference's. -/
import Derived.Test.YthekgpchjonboaaGreatDoorProg
import Derived.Test.YthekgpchjonboaaGreatDoorBase
import Derived.Test.YthekgpchjonboaaGreatDoorClkL
namespace Go.Proofs.YthekgpchjonboaaGreatDoor
open Go.RowKit
set_option linter.unusedSimpArgs false
set_option linter.unusedVariables false

set_option maxHeartbeats 2000000 in
theorem covers_any (a b : C8) (w : World) :
    Calls Tryz.prog 333 #[.agg a.cells, .agg b.cells] w fun e w' => e = .returned (.bool (a.covers b)) ∧ Grew w w' := by
  obtain ⟨a0, a1, a2, a3, a4, a5, a6, a7⟩ := a
  obtain ⟨b0, b1, b2, b3, b4, b5, b6, b7⟩ := b
  simp only [C8.cells]
  go_enter Tryz.func333, Tryz.ntmps333
  go_wp2_with fail
  refine wp_loop_rounds 9 ?_
  iterate 9 (all_goals (try (rw [rounds_succ]; go_wp2)))
  all_goals (go_ret; refine ⟨ret_bool ?_, ((Grew.refl _).alloc _).alloc _⟩; simp only [C8.covers]; first | (symm; rw [decide_eq_true_iff]; omega) | (symm; rw [decide_eq_false_iff_not]; omega))

set_option maxHeartbeats 2000000 in
theorem merge_any (a b : C8) (w : World) :
    Calls Tryz.prog 361 #[.agg a.cells, .agg b.cells] w fun e w' => e = .returned (.agg (a.merge b).cells) ∧ Grew w w' := by
  obtain ⟨a0, a1, a2, a3, a4, a5, a6, a7⟩ := a
  obtain ⟨b0, b1, b2, b3, b4, b5, b6, b7⟩ := b
  simp only [C8.cells]
  go_enter Tryz.func361, Tryz.ntmps361
  go_wp2_with fail
  refine wp_loop_rounds 9 ?_
  iterate 9 (all_goals (try (rw [rounds_succ]; go_wp2)))
  all_goals (exact bodyPost_ret (v := .agg (C8.merge ⟨a0, a1, a2, a3, a4, a5, a6, a7⟩ ⟨b0, b1, b2, b3, b4, b5, b6, b7⟩).cells) (by simp [results, Tryz.results361, go_sem, C8.cells, C8.merge]) rfl ⟨rfl, by repeat (first | with_reducible exact HG.out | with_reducible exact Grew.refl _ | with_reducible assumption | with_reducible apply Grew.plus | with_reducible apply Grew.drewN | with_reducible apply Grew.drew | with_reducible apply Grew.alloc | with_reducible refine Grew.setCell ?_ (by simp [go_sem]; try omega) _)⟩)

theorem equalIn_clk (a b : C8) (w : World) : (Op.equalIn 10000 86 (.agg a.cells) (.agg b.cells)).run Tryz.prog w = .ok (decide (a = b)) w := by
  have h := run_equalIn_ints (P := Tryz.prog) w 9998 86 3 8 .i64 a.toL b.toL Tryz.underlying86 Tryz.underlying3 (by kernel_rfl) rfl rfl
  rw [← C8.cells_toL, ← C8.cells_toL] at h
  rw [h]
  simp only [C8.toL_inj]
@[go_sem high] theorem run_eql_clk (a b : C8) (w : World) : (binOp .eql 86 (.agg a.cells) (.agg b.cells)).run Tryz.prog w = .ok (.bool (decide (a = b))) w := by
  rw [run_eql_struct, equalIn_clk]; rfl
@[go_sem high] theorem run_neq_clk (a b : C8) (w : World) : (binOp .neq 86 (.agg a.cells) (.agg b.cells)).run Tryz.prog w = .ok (.bool (!decide (a = b))) w := by
  rw [run_neq_struct, equalIn_clk]; rfl

set_option maxHeartbeats 1000000 in
theorem compare_any (a b : C8) (w : World) :
    Calls Tryz.prog 298 #[.agg a.cells, .agg b.cells] w fun e w' => e = .returned (.int .i64 (a.compare b)) ∧ Grew w w' := by
  go_enter Tryz.func298, Tryz.ntmps298
  go_wp2_with (go_at_call 333; refine (covers_any _ _ _).mono ?_; rintro e w' ⟨rfl, gx, rfl⟩)
  all_goals (go_ret; refine ⟨ret_int (by simp [C8.compare, *]), by repeat (first | with_reducible exact HG.out | with_reducible exact Grew.refl _ | with_reducible assumption | with_reducible apply Grew.plus | with_reducible apply Grew.drewN | with_reducible apply Grew.drew | with_reducible apply Grew.alloc | with_reducible refine Grew.setCell ?_ (by simp [go_sem]; try omega) _)⟩)

set_option maxHeartbeats 400000 in
theorem in_any (r : Int) (w : World) :
    Calls Tryz.prog 339 #[.int .i64 r] w fun e w' => e = .returned (.bool (C8.isIn r)) ∧ Grew w w' := by
  go_enter Tryz.func339, Tryz.ntmps339
  go_wp2
  all_goals (go_ret; refine ⟨ret_bool (by simp only [C8.isIn]; first | (simp [*]; done) | (simp; omega)), by repeat (first | with_reducible exact HG.out | with_reducible exact Grew.refl _ | with_reducible assumption | with_reducible apply Grew.plus | with_reducible apply Grew.drewN | with_reducible apply Grew.drew | with_reducible apply Grew.alloc | with_reducible refine Grew.setCell ?_ (by simp [go_sem]; try omega) _)⟩)

set_option maxHeartbeats 1000000 in
theorem has_any (a : C8) (r n : Int) (w : World) :
    Calls Tryz.prog 311 #[.agg a.cells, .int .i64 r, .int .i64 n] w fun e w' => e = .returned (.bool (a.has r n)) ∧ Grew w w' := by
  by_cases hr : 0 ≤ r ∧ r < 8
  · have hi : C8.isIn r = true := by simp [C8.isIn, hr]
    have hc := a.cells_get r.toNat (by omega)
    by_cases hn : 1 ≤ n
    · go_enter Tryz.func311, Tryz.ntmps311
      go_wp2_with (go_at_call 339; refine (in_any _ _).mono ?_; rintro e w' ⟨rfl, gx, rfl⟩)
      go_ret
      exact ⟨ret_bool (by simp only [C8.has, hi]; first | (simp [hn]; done) | (simp; omega)), by repeat (first | with_reducible exact HG.out | with_reducible exact Grew.refl _ | with_reducible assumption | with_reducible apply Grew.plus | with_reducible apply Grew.drewN | with_reducible apply Grew.drew | with_reducible apply Grew.alloc | with_reducible refine Grew.setCell ?_ (by simp [go_sem]; try omega) _)⟩
    · go_enter Tryz.func311, Tryz.ntmps311
      go_wp2_with (go_at_call 339; refine (in_any _ _).mono ?_; rintro e w' ⟨rfl, gx, rfl⟩)
      go_ret
      exact ⟨ret_bool (by simp only [C8.has, hi]; first | (simp [hn]; done) | (simp; omega)), by repeat (first | with_reducible exact HG.out | with_reducible exact Grew.refl _ | with_reducible assumption | with_reducible apply Grew.plus | with_reducible apply Grew.drewN | with_reducible apply Grew.drew | with_reducible apply Grew.alloc | with_reducible refine Grew.setCell ?_ (by simp [go_sem]; try omega) _)⟩
  · have hi : C8.isIn r = false := by simp [C8.isIn]; omega
    go_enter Tryz.func311, Tryz.ntmps311
    go_wp2_with (go_at_call 339; refine (in_any _ _).mono ?_; rintro e w' ⟨rfl, gx, rfl⟩)
    go_ret
    exact ⟨ret_bool (by simp [C8.has, hi]), by repeat (first | with_reducible exact HG.out | with_reducible exact Grew.refl _ | with_reducible assumption | with_reducible apply Grew.plus | with_reducible apply Grew.drewN | with_reducible apply Grew.drew | with_reducible apply Grew.alloc | with_reducible refine Grew.setCell ?_ (by simp [go_sem]; try omega) _)⟩

end Go.Proofs.YthekgpchjonboaaGreatDoor
