/- Walks: Covers, Merge, Meet and Compare of two clocks, the program's and the reference's. -/
import Derived.Test.YtaaibekhoondcaaDoorProg
import Derived.Test.YtaaibekhoondcaaDoorBase
import Derived.Test.YtaaibekhoondcaaDoorClkL
namespace Go.Proofs.YtaaibekhoondcaaDoor
open Go.RowKit
set_option linter.unusedSimpArgs false
set_option linter.unusedVariables false

set_option maxHeartbeats 2000000 in
theorem covers_any (a b : C8) (w : World) :
    Calls Tryd.prog 20 #[.agg a.cells, .agg b.cells] w fun e w' => e = .returned (.bool (a.covers b)) ∧ Grew w w' := by
  obtain ⟨a0, a1, a2, a3, a4, a5, a6, a7⟩ := a
  obtain ⟨b0, b1, b2, b3, b4, b5, b6, b7⟩ := b
  simp only [C8.cells]
  go_enter Tryd.func20, Tryd.ntmps20
  go_wp2_with fail
  refine wp_loop_rounds 9 ?_
  iterate 9 (all_goals (try (rw [rounds_succ]; go_wp2)))
  all_goals (go_ret; refine ⟨ret_bool ?_, ((Grew.refl _).alloc _).alloc _⟩; simp only [C8.covers]; first | (symm; rw [decide_eq_true_iff]; omega) | (symm; rw [decide_eq_false_iff_not]; omega))

set_option maxHeartbeats 2000000 in
theorem rcovers_any (a b : C8) (w : World) :
    Calls Tryd.prog 21 #[.agg a.cells, .agg b.cells] w fun e w' => e = .returned (.bool (a.covers b)) ∧ Grew w w' := by
  obtain ⟨a0, a1, a2, a3, a4, a5, a6, a7⟩ := a
  obtain ⟨b0, b1, b2, b3, b4, b5, b6, b7⟩ := b
  simp only [C8.cells]
  go_enter Tryd.func21, Tryd.ntmps21
  go_wp2_with fail
  refine wp_loop_rounds 9 ?_
  iterate 9 (all_goals (try (rw [rounds_succ]; go_wp2; try (go_quiet (fail); go_wp2))))
  all_goals (go_ret; refine ⟨ret_bool ?_, by repeat (first | exact Grew.refl _ | apply Grew.drewN | apply Grew.alloc)⟩; simp only [C8.covers]; first | (symm; rw [decide_eq_true_iff]; omega) | (symm; rw [decide_eq_false_iff_not]; omega))

set_option maxHeartbeats 2000000 in
theorem merge_any (a b : C8) (w : World) :
    Calls Tryd.prog 24 #[.agg a.cells, .agg b.cells] w fun e w' => e = .returned (.agg (a.merge b).cells) ∧ Grew w w' := by
  obtain ⟨a0, a1, a2, a3, a4, a5, a6, a7⟩ := a
  obtain ⟨b0, b1, b2, b3, b4, b5, b6, b7⟩ := b
  simp only [C8.cells]
  go_enter Tryd.func24, Tryd.ntmps24
  go_wp2_with fail
  refine wp_loop_rounds 9 ?_
  iterate 9 (all_goals (try (rw [rounds_succ]; go_wp2)))
  all_goals (exact bodyPost_ret (v := .agg (C8.merge ⟨a0, a1, a2, a3, a4, a5, a6, a7⟩ ⟨b0, b1, b2, b3, b4, b5, b6, b7⟩).cells) (by simp [results, Tryd.results24, go_sem, C8.cells, C8.merge]) rfl ⟨rfl, by repeat (first | with_reducible exact HG.out | with_reducible exact Grew.refl _ | with_reducible assumption | with_reducible apply Grew.plus | with_reducible apply Grew.drewN | with_reducible apply Grew.drew | with_reducible apply Grew.alloc | with_reducible refine Grew.setCell ?_ (by simp [go_sem]; try omega) _)⟩)

set_option maxHeartbeats 2000000 in
theorem rmerge_any (a b : C8) (w : World) :
    Calls Tryd.prog 25 #[.agg a.cells, .agg b.cells] w fun e w' => e = .returned (.agg (a.merge b).cells) ∧ Grew w w' := by
  go_enter Tryd.func25, Tryd.ntmps25
  go_wp2_with fail
  go_loopw [5] (fun i wr => ∃ k n : Nat, k ≤ 8 ∧ i = .int .i64 k ∧ wr = (((w.alloc (.cells (C8.upTo max a b k).cells 24)).alloc (.cells b.cells 24)).alloc (.cells C8.zero.cells 24)).drewN n) (fun i _ => 8 - (intOf i).toNat)
  case atStart => exact ⟨0, 0, by omega, rfl, rfl⟩
  case round =>
    obtain ⟨k, n, hk, rfl, rfl⟩ := hrel
    by_cases hlt : k < 8
    · have hca := (C8.upTo max a b k).cells_get k hlt
      have hcb := b.cells_get k hlt
      have hst := fun v => (C8.upTo max a b k).cells_set k v hlt
      go_wp2
      go_quiet (fail)
      go_wp2
      all_goals (go_roundw; case measure => simp [intOf]; omega)
      case rel => exact ⟨k + 1, n + nq, by omega, by go_num, by rw [C8.upTo]; rw [Int.max_eq_right (by omega)]⟩
      case rel => exact ⟨k + 1, n + nq, by omega, by go_num, by rw [C8.upTo]; rw [Int.max_eq_left (by omega), C8.set_get _ _ hlt]⟩
    · obtain rfl : k = 8 := by omega
      rw [C8.upTo_max] at *
      go_wp2
      exact bodyPost_ret (v := .agg (C8.merge a b).cells) (by simp [results, Tryd.results25, go_sem]) rfl ⟨rfl, by repeat (first | with_reducible exact HG.out | with_reducible exact Grew.refl _ | with_reducible assumption | with_reducible apply Grew.plus | with_reducible apply Grew.drewN | with_reducible apply Grew.drew | with_reducible apply Grew.alloc | with_reducible refine Grew.setCell ?_ (by simp [go_sem]; try omega) _)⟩
set_option maxHeartbeats 2000000 in
theorem meet_any (a b : C8) (w : World) :
    Calls Tryd.prog 26 #[.agg a.cells, .agg b.cells] w fun e w' => e = .returned (.agg (a.meet b).cells) ∧ Grew w w' := by
  obtain ⟨a0, a1, a2, a3, a4, a5, a6, a7⟩ := a
  obtain ⟨b0, b1, b2, b3, b4, b5, b6, b7⟩ := b
  simp only [C8.cells]
  go_enter Tryd.func26, Tryd.ntmps26
  go_wp2_with fail
  refine wp_loop_rounds 9 ?_
  iterate 9 (all_goals (try (rw [rounds_succ]; go_wp2)))
  all_goals (exact bodyPost_ret (v := .agg (C8.meet ⟨a0, a1, a2, a3, a4, a5, a6, a7⟩ ⟨b0, b1, b2, b3, b4, b5, b6, b7⟩).cells) (by simp [results, Tryd.results26, go_sem, C8.cells, C8.meet]) rfl ⟨rfl, by repeat (first | with_reducible exact HG.out | with_reducible exact Grew.refl _ | with_reducible assumption | with_reducible apply Grew.plus | with_reducible apply Grew.drewN | with_reducible apply Grew.drew | with_reducible apply Grew.alloc | with_reducible refine Grew.setCell ?_ (by simp [go_sem]; try omega) _)⟩)

set_option maxHeartbeats 2000000 in
theorem rmeet_any (a b : C8) (w : World) :
    Calls Tryd.prog 27 #[.agg a.cells, .agg b.cells] w fun e w' => e = .returned (.agg (a.meet b).cells) ∧ Grew w w' := by
  go_enter Tryd.func27, Tryd.ntmps27
  go_wp2_with fail
  go_loopw [5] (fun i wr => ∃ k n : Nat, k ≤ 8 ∧ i = .int .i64 k ∧ wr = (((w.alloc (.cells (C8.upTo min a b k).cells 24)).alloc (.cells b.cells 24)).alloc (.cells C8.zero.cells 24)).drewN n) (fun i _ => 8 - (intOf i).toNat)
  case atStart => exact ⟨0, 0, by omega, rfl, rfl⟩
  case round =>
    obtain ⟨k, n, hk, rfl, rfl⟩ := hrel
    by_cases hlt : k < 8
    · have hca := (C8.upTo min a b k).cells_get k hlt
      have hcb := b.cells_get k hlt
      have hst := fun v => (C8.upTo min a b k).cells_set k v hlt
      go_wp2
      go_quiet (fail)
      go_wp2
      all_goals (go_roundw; case measure => simp [intOf]; omega)
      case rel => exact ⟨k + 1, n + nq, by omega, by go_num, by rw [C8.upTo]; rw [Int.min_eq_right (by omega)]⟩
      case rel => exact ⟨k + 1, n + nq, by omega, by go_num, by rw [C8.upTo]; rw [Int.min_eq_left (by omega), C8.set_get _ _ hlt]⟩
    · obtain rfl : k = 8 := by omega
      rw [C8.upTo_min] at *
      go_wp2
      exact bodyPost_ret (v := .agg (C8.meet a b).cells) (by simp [results, Tryd.results27, go_sem]) rfl ⟨rfl, by repeat (first | with_reducible exact HG.out | with_reducible exact Grew.refl _ | with_reducible assumption | with_reducible apply Grew.plus | with_reducible apply Grew.drewN | with_reducible apply Grew.drew | with_reducible apply Grew.alloc | with_reducible refine Grew.setCell ?_ (by simp [go_sem]; try omega) _)⟩

theorem equalIn_clk (a b : C8) (w : World) : (Op.equalIn 10000 24 (.agg a.cells) (.agg b.cells)).run Tryd.prog w = .ok (decide (a = b)) w := by
  have h := run_equalIn_ints (P := Tryd.prog) w 9998 24 3 8 .i64 a.toL b.toL Tryd.underlying24 Tryd.underlying3 (by kernel_rfl) rfl rfl
  rw [← C8.cells_toL, ← C8.cells_toL] at h
  rw [h]
  simp only [C8.toL_inj]
@[go_sem high] theorem run_eql_clk (a b : C8) (w : World) : (binOp .eql 24 (.agg a.cells) (.agg b.cells)).run Tryd.prog w = .ok (.bool (decide (a = b))) w := by
  rw [run_eql_struct, equalIn_clk]; rfl
@[go_sem high] theorem run_neq_clk (a b : C8) (w : World) : (binOp .neq 24 (.agg a.cells) (.agg b.cells)).run Tryd.prog w = .ok (.bool (!decide (a = b))) w := by
  rw [run_neq_struct, equalIn_clk]; rfl

set_option maxHeartbeats 1000000 in
theorem compare_any (a b : C8) (w : World) :
    Calls Tryd.prog 22 #[.agg a.cells, .agg b.cells] w fun e w' => e = .returned (.int .i64 (a.compare b)) ∧ Grew w w' := by
  go_enter Tryd.func22, Tryd.ntmps22
  go_wp2_with (go_at_call 20; refine (covers_any _ _ _).mono ?_; rintro e w' ⟨rfl, gx, rfl⟩)
  all_goals (go_ret; refine ⟨ret_int (by simp [C8.compare, *]), by repeat (first | with_reducible exact HG.out | with_reducible exact Grew.refl _ | with_reducible assumption | with_reducible apply Grew.plus | with_reducible apply Grew.drewN | with_reducible apply Grew.drew | with_reducible apply Grew.alloc | with_reducible refine Grew.setCell ?_ (by simp [go_sem]; try omega) _)⟩)

set_option maxHeartbeats 1000000 in
theorem rcompare_any (a b : C8) (w : World) :
    Calls Tryd.prog 23 #[.agg a.cells, .agg b.cells] w fun e w' => e = .returned (.int .i64 (a.compare b)) ∧ Grew w w' := by
  by_cases hab : a.covers b = true
  all_goals by_cases hba : b.covers a = true
  all_goals (try simp only [Bool.not_eq_true] at hab)
  all_goals (try simp only [Bool.not_eq_true] at hba)
  all_goals
    go_enter Tryd.func23, Tryd.ntmps23
    go_wp2_with (go_at_call 21; refine (rcovers_any _ _ _).mono ?_; rintro e w' ⟨rfl, gx, rfl⟩)
  all_goals (go_ret; refine ⟨ret_int ?_, by repeat (first | with_reducible exact HG.out | with_reducible exact Grew.refl _ | with_reducible assumption | with_reducible apply Grew.plus | with_reducible apply Grew.drewN | with_reducible apply Grew.drew | with_reducible apply Grew.alloc | with_reducible refine Grew.setCell ?_ (by simp [go_sem]; try omega) _)⟩)
  · rw [C8.compare, if_pos (C8.covers_antisymm a b hab hba)]
  all_goals (rw [C8.compare, if_neg (by rintro rfl; simp_all [C8.covers_refl])]; simp [hab, hba])

set_option maxHeartbeats 400000 in
theorem in_any (r : Int) (w : World) :
    Calls Tryd.prog 57 #[.int .i64 r] w fun e w' => e = .returned (.bool (C8.isIn r)) ∧ Grew w w' := by
  go_enter Tryd.func57, Tryd.ntmps57
  go_wp2
  all_goals (go_ret; refine ⟨ret_bool (by simp only [C8.isIn]; first | (simp [*]; done) | (simp; omega)), by repeat (first | with_reducible exact HG.out | with_reducible exact Grew.refl _ | with_reducible assumption | with_reducible apply Grew.plus | with_reducible apply Grew.drewN | with_reducible apply Grew.drew | with_reducible apply Grew.alloc | with_reducible refine Grew.setCell ?_ (by simp [go_sem]; try omega) _)⟩)

set_option maxHeartbeats 1000000 in
theorem has_any (a : C8) (r n : Int) (w : World) :
    Calls Tryd.prog 18 #[.agg a.cells, .int .i64 r, .int .i64 n] w fun e w' => e = .returned (.bool (a.has r n)) ∧ Grew w w' := by
  by_cases hr : 0 ≤ r ∧ r < 8
  · have hi : C8.isIn r = true := by simp [C8.isIn, hr]
    have hc := a.cells_get r.toNat (by omega)
    by_cases hn : 1 ≤ n
    · go_enter Tryd.func18, Tryd.ntmps18
      go_wp2_with (go_at_call 57; refine (in_any _ _).mono ?_; rintro e w' ⟨rfl, gx, rfl⟩)
      go_ret
      exact ⟨ret_bool (by simp only [C8.has, hi]; first | (simp [hn]; done) | (simp; omega)), by repeat (first | with_reducible exact HG.out | with_reducible exact Grew.refl _ | with_reducible assumption | with_reducible apply Grew.plus | with_reducible apply Grew.drewN | with_reducible apply Grew.drew | with_reducible apply Grew.alloc | with_reducible refine Grew.setCell ?_ (by simp [go_sem]; try omega) _)⟩
    · go_enter Tryd.func18, Tryd.ntmps18
      go_wp2_with (go_at_call 57; refine (in_any _ _).mono ?_; rintro e w' ⟨rfl, gx, rfl⟩)
      go_ret
      exact ⟨ret_bool (by simp only [C8.has, hi]; first | (simp [hn]; done) | (simp; omega)), by repeat (first | with_reducible exact HG.out | with_reducible exact Grew.refl _ | with_reducible assumption | with_reducible apply Grew.plus | with_reducible apply Grew.drewN | with_reducible apply Grew.drew | with_reducible apply Grew.alloc | with_reducible refine Grew.setCell ?_ (by simp [go_sem]; try omega) _)⟩
  · have hi : C8.isIn r = false := by simp [C8.isIn]; omega
    go_enter Tryd.func18, Tryd.ntmps18
    go_wp2_with (go_at_call 57; refine (in_any _ _).mono ?_; rintro e w' ⟨rfl, gx, rfl⟩)
    go_ret
    exact ⟨ret_bool (by simp [C8.has, hi]), by repeat (first | with_reducible exact HG.out | with_reducible exact Grew.refl _ | with_reducible assumption | with_reducible apply Grew.plus | with_reducible apply Grew.drewN | with_reducible apply Grew.drew | with_reducible apply Grew.alloc | with_reducible refine Grew.setCell ?_ (by simp [go_sem]; try omega) _)⟩

set_option maxHeartbeats 1000000 in
theorem rhas_any (a : C8) (r n : Int) (w : World) :
    Calls Tryd.prog 38 #[.agg a.cells, .int .i64 r, .int .i64 n] w fun e w' => e = .returned (.bool (a.has r n)) ∧ Grew w w' := by
  by_cases h0 : 0 ≤ r
  · by_cases h8 : r < 8
    · have hi : C8.isIn r = true := by simp [C8.isIn, h0, h8]
      have hc := a.cells_get r.toNat (by omega)
      by_cases hn : 1 ≤ n
      all_goals
        go_enter Tryd.func38, Tryd.ntmps38
        go_wp2
        go_ret
        exact ⟨ret_bool (by simp only [C8.has, hi]; first | (simp [hn]; done) | (simp; omega)), by repeat (first | with_reducible exact HG.out | with_reducible exact Grew.refl _ | with_reducible assumption | with_reducible apply Grew.plus | with_reducible apply Grew.drewN | with_reducible apply Grew.drew | with_reducible apply Grew.alloc | with_reducible refine Grew.setCell ?_ (by simp [go_sem]; try omega) _)⟩
    · have hi : C8.isIn r = false := by simp [C8.isIn]; omega
      go_enter Tryd.func38, Tryd.ntmps38
      go_wp2
      go_ret
      exact ⟨ret_bool (by simp [C8.has, hi]), by repeat (first | with_reducible exact HG.out | with_reducible exact Grew.refl _ | with_reducible assumption | with_reducible apply Grew.plus | with_reducible apply Grew.drewN | with_reducible apply Grew.drew | with_reducible apply Grew.alloc | with_reducible refine Grew.setCell ?_ (by simp [go_sem]; try omega) _)⟩
  · have hi : C8.isIn r = false := by simp [C8.isIn]; omega
    go_enter Tryd.func38, Tryd.ntmps38
    go_wp2
    go_ret
    exact ⟨ret_bool (by simp [C8.has, hi]), by repeat (first | with_reducible exact HG.out | with_reducible exact Grew.refl _ | with_reducible assumption | with_reducible apply Grew.plus | with_reducible apply Grew.drewN | with_reducible apply Grew.drew | with_reducible apply Grew.alloc | with_reducible refine Grew.setCell ?_ (by simp [go_sem]; try omega) _)⟩
end Go.Proofs.YtaaibekhoondcaaDoor
