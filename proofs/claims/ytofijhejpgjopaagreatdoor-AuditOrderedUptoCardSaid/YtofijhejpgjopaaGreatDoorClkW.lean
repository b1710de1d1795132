/- Walks: Covers, Merge, Meet and Compare of two clocks, the program's and the reference's. -/
import Derived.Test.YtofijhejpgjopaaGreatDoorProg
import Derived.Test.YtofijhejpgjopaaGreatDoorBase
import Derived.Test.YtofijhejpgjopaaGreatDoorClkL
namespace Go.Proofs.YtofijhejpgjopaaGreatDoor
open Go.RowKit
set_option linter.unusedSimpArgs false
set_option linter.unusedVariables false

set_option maxHeartbeats 2000000 in
theorem covers_any (a b : C8) (w : World) :
    Calls Tryz.prog 49 #[.agg a.cells, .agg b.cells] w fun e w' => e = .returned (.bool (a.covers b)) ∧ Grew w w' := by
  obtain ⟨a0, a1, a2, a3, a4, a5, a6, a7⟩ := a
  obtain ⟨b0, b1, b2, b3, b4, b5, b6, b7⟩ := b
  simp only [C8.cells]
  go_enter Tryz.func49, Tryz.ntmps49
  go_wp2_with fail
  refine wp_loop_rounds 9 ?_
  iterate 9 (all_goals (try (rw [rounds_succ]; go_wp2)))
  all_goals (go_ret; refine ⟨ret_bool ?_, ((Grew.refl _).alloc _).alloc _⟩; simp only [C8.covers]; first | (symm; rw [decide_eq_true_iff]; omega) | (symm; rw [decide_eq_false_iff_not]; omega))

set_option maxHeartbeats 2000000 in
theorem rcovers_any (a b : C8) (w : World) :
    Calls Tryz.prog 50 #[.agg a.cells, .agg b.cells] w fun e w' => e = .returned (.bool (a.covers b)) ∧ Grew w w' := by
  obtain ⟨a0, a1, a2, a3, a4, a5, a6, a7⟩ := a
  obtain ⟨b0, b1, b2, b3, b4, b5, b6, b7⟩ := b
  simp only [C8.cells]
  go_enter Tryz.func50, Tryz.ntmps50
  go_wp2_with fail
  refine wp_loop_rounds 9 ?_
  iterate 9 (all_goals (try (rw [rounds_succ]; go_wp2; try (go_quiet (fail); go_wp2))))
  all_goals (go_ret; refine ⟨ret_bool ?_, by repeat (first | exact Grew.refl _ | apply Grew.drewN | apply Grew.alloc)⟩; simp only [C8.covers]; first | (symm; rw [decide_eq_true_iff]; omega) | (symm; rw [decide_eq_false_iff_not]; omega))

theorem equalIn_clk (a b : C8) (w : World) : (Op.equalIn 10000 50 (.agg a.cells) (.agg b.cells)).run Tryz.prog w = .ok (decide (a = b)) w := by
  have h := run_equalIn_ints (P := Tryz.prog) w 9998 50 3 8 .i64 a.toL b.toL Tryz.underlying50 Tryz.underlying3 (by kernel_rfl) rfl rfl
  rw [← C8.cells_toL, ← C8.cells_toL] at h
  rw [h]
  simp only [C8.toL_inj]
@[go_sem high] theorem run_eql_clk (a b : C8) (w : World) : (binOp .eql 50 (.agg a.cells) (.agg b.cells)).run Tryz.prog w = .ok (.bool (decide (a = b))) w := by
  rw [run_eql_struct, equalIn_clk]; rfl
@[go_sem high] theorem run_neq_clk (a b : C8) (w : World) : (binOp .neq 50 (.agg a.cells) (.agg b.cells)).run Tryz.prog w = .ok (.bool (!decide (a = b))) w := by
  rw [run_neq_struct, equalIn_clk]; rfl

set_option maxHeartbeats 400000 in
theorem in_any (r : Int) (w : World) :
    Calls Tryz.prog 48 #[.int .i64 r] w fun e w' => e = .returned (.bool (C8.isIn r)) ∧ Grew w w' := by
  go_enter Tryz.func48, Tryz.ntmps48
  go_wp2
  all_goals (go_ret; refine ⟨ret_bool (by simp only [C8.isIn]; first | (simp [*]; done) | (simp; omega)), by repeat (first | with_reducible exact HG.out | with_reducible exact Grew.refl _ | with_reducible assumption | with_reducible apply Grew.plus | with_reducible apply Grew.drewN | with_reducible apply Grew.drew | with_reducible apply Grew.alloc | with_reducible refine Grew.setCell ?_ (by simp [go_sem]; try omega) _)⟩)

set_option maxHeartbeats 1000000 in
theorem has_any (a : C8) (r n : Int) (w : World) :
    Calls Tryz.prog 64 #[.agg a.cells, .int .i64 r, .int .i64 n] w fun e w' => e = .returned (.bool (a.has r n)) ∧ Grew w w' := by
  by_cases hr : 0 ≤ r ∧ r < 8
  · have hi : C8.isIn r = true := by simp [C8.isIn, hr]
    have hc := a.cells_get r.toNat (by omega)
    by_cases hn : 1 ≤ n
    · go_enter Tryz.func64, Tryz.ntmps64
      go_wp2_with (go_at_call 48; refine (in_any _ _).mono ?_; rintro e w' ⟨rfl, gx, rfl⟩)
      go_ret
      exact ⟨ret_bool (by simp only [C8.has, hi]; first | (simp [hn]; done) | (simp; omega)), by repeat (first | with_reducible exact HG.out | with_reducible exact Grew.refl _ | with_reducible assumption | with_reducible apply Grew.plus | with_reducible apply Grew.drewN | with_reducible apply Grew.drew | with_reducible apply Grew.alloc | with_reducible refine Grew.setCell ?_ (by simp [go_sem]; try omega) _)⟩
    · go_enter Tryz.func64, Tryz.ntmps64
      go_wp2_with (go_at_call 48; refine (in_any _ _).mono ?_; rintro e w' ⟨rfl, gx, rfl⟩)
      go_ret
      exact ⟨ret_bool (by simp only [C8.has, hi]; first | (simp [hn]; done) | (simp; omega)), by repeat (first | with_reducible exact HG.out | with_reducible exact Grew.refl _ | with_reducible assumption | with_reducible apply Grew.plus | with_reducible apply Grew.drewN | with_reducible apply Grew.drew | with_reducible apply Grew.alloc | with_reducible refine Grew.setCell ?_ (by simp [go_sem]; try omega) _)⟩
  · have hi : C8.isIn r = false := by simp [C8.isIn]; omega
    go_enter Tryz.func64, Tryz.ntmps64
    go_wp2_with (go_at_call 48; refine (in_any _ _).mono ?_; rintro e w' ⟨rfl, gx, rfl⟩)
    go_ret
    exact ⟨ret_bool (by simp [C8.has, hi]), by repeat (first | with_reducible exact HG.out | with_reducible exact Grew.refl _ | with_reducible assumption | with_reducible apply Grew.plus | with_reducible apply Grew.drewN | with_reducible apply Grew.drew | with_reducible apply Grew.alloc | with_reducible refine Grew.setCell ?_ (by simp [go_sem]; try omega) _)⟩

end Go.Proofs.YtofijhejpgjopaaGreatDoor
