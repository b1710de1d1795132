/- Walks: Tick of a clock where it is not refused, and what wakes tries. -/
import Derived.Test.YtaaibekhoondcaaDoorProg
import Derived.Test.YtaaibekhoondcaaDoorClkW
import Derived.Test.YtaaibekhoondcaaDoorTail
namespace Go.Proofs.YtaaibekhoondcaaDoor
open Go.RowKit
set_option linter.unusedSimpArgs false
set_option linter.unusedVariables false

set_option maxHeartbeats 1000000 in
theorem tick_ok (a : C8) (r : Int) (w : World) (ha : a.Fits) (h0 : 0 ≤ r) (h8 : r < 8) (hm : (a.get r.toNat == 9223372036854775807) = false) :
    Calls Tryd.prog 19 #[.agg a.cells, .int .i64 r] w fun e w' => e = .returned (.tuple #[.agg (a.set r.toNat (a.get r.toNat + 1)).cells, .nilIface]) ∧ Grew w w' := by
  have hi : C8.isIn r = true := by simp [C8.isIn, h0, h8]
  have hc := a.cells_get r.toNat (by omega)
  have hst := fun v => a.cells_set r.toNat v (by omega)
  obtain ⟨hf1, hf2⟩ := ha r.toNat (by omega)
  have hlt : a.get r.toNat < 9223372036854775807 := by have := beq_eq_false_iff_ne.1 hm; omega
  go_enter Tryd.func19, Tryd.ntmps19
  go_wp2_with (go_at_call 57; refine (in_any _ _).mono ?_; rintro e w' ⟨rfl, gx, rfl⟩)
  exact bodyPost_ret (v := .tuple #[.agg (a.set r.toNat (a.get r.toNat + 1)).cells, .nilIface]) (by simp [results, Tryd.results19, go_sem]) rfl ⟨rfl, by repeat (first | with_reducible exact HG.out | with_reducible exact Grew.refl _ | with_reducible assumption | with_reducible apply Grew.plus | with_reducible apply Grew.drewN | with_reducible apply Grew.drew | with_reducible apply Grew.alloc | with_reducible refine Grew.setCell ?_ (by simp [go_sem]; try omega) _)⟩

theorem wake_tick (w : World) : Calls Tryd.prog 19 #[.agg #[.int .i64 3, .int .i64 1, .int .i64 0, .int .i64 0, .int .i64 0, .int .i64 0, .int .i64 0, .int .i64 0], .int .i64 1] w fun e w' => e = .returned (.tuple #[.agg #[.int .i64 3, .int .i64 2, .int .i64 0, .int .i64 0, .int .i64 0, .int .i64 0, .int .i64 0, .int .i64 0], .nilIface]) ∧ Grew w w' :=
  tick_ok ⟨3, 1, 0, 0, 0, 0, 0, 0⟩ 1 w (by intro i hi; match i, hi with | 0, _ => decide | 1, _ => decide | 2, _ => decide | 3, _ => decide | 4, _ => decide | 5, _ => decide | 6, _ => decide | 7, _ => decide) (by decide) (by decide) (by decide)
theorem wake_covers (w : World) : Calls Tryd.prog 20 #[.agg #[.int .i64 3, .int .i64 2, .int .i64 0, .int .i64 0, .int .i64 0, .int .i64 0, .int .i64 0, .int .i64 0], .agg #[.int .i64 3, .int .i64 1, .int .i64 0, .int .i64 0, .int .i64 0, .int .i64 0, .int .i64 0, .int .i64 0]] w fun e w' => e = .returned (.bool true) ∧ Grew w w' :=
  covers_any ⟨3, 2, 0, 0, 0, 0, 0, 0⟩ ⟨3, 1, 0, 0, 0, 0, 0, 0⟩ w
theorem wake_compare (w : World) : Calls Tryd.prog 22 #[.agg #[.int .i64 3, .int .i64 2, .int .i64 0, .int .i64 0, .int .i64 0, .int .i64 0, .int .i64 0, .int .i64 0], .agg #[.int .i64 4, .int .i64 0, .int .i64 0, .int .i64 0, .int .i64 0, .int .i64 0, .int .i64 0, .int .i64 0]] w fun e w' => e = .returned (.int .i64 3) ∧ Grew w w' :=
  compare_any ⟨3, 2, 0, 0, 0, 0, 0, 0⟩ ⟨4, 0, 0, 0, 0, 0, 0, 0⟩ w

set_option maxHeartbeats 1000000 in
theorem wakes3 (w : World) :
    Calls Tryd.prog 15 #[] w fun e w' => e = .returned (.bool true) ∧ Grew w w' := by
  have he : ∀ w, (binOp .eql 24 (.agg #[.int .i64 3, .int .i64 2, .int .i64 0, .int .i64 0, .int .i64 0, .int .i64 0, .int .i64 0, .int .i64 0]) (.agg #[.int .i64 3, .int .i64 2, .int .i64 0, .int .i64 0, .int .i64 0, .int .i64 0, .int .i64 0, .int .i64 0])).run Tryd.prog w = .ok (.bool true) w := fun _ => by kernel_rfl
  go_enter Tryd.func15, Tryd.ntmps15
  go_wp2_with (first | (go_at_call 19; refine (wake_tick _).mono ?_; rintro e w' ⟨rfl, gx, rfl⟩) | (go_at_call 20; refine (wake_covers _).mono ?_; rintro e w' ⟨rfl, gx, rfl⟩) | (go_at_call 22; refine (wake_compare _).mono ?_; rintro e w' ⟨rfl, gx, rfl⟩))
  go_goals
  go_ret
  exact ⟨rfl, by repeat (first | with_reducible exact HG.out | with_reducible exact Grew.refl _ | with_reducible assumption | with_reducible apply Grew.plus | with_reducible apply Grew.drewN | with_reducible apply Grew.drew | with_reducible apply Grew.alloc | with_reducible refine Grew.setCell ?_ (by simp [go_sem]; try omega) _)⟩
end Go.Proofs.YtaaibekhoondcaaDoor
