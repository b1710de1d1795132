/- Walks: Ready of a clock and an act. -/
import Derived.Test.YthekgpchjonboaaGreatDoorProg
import Derived.Test.YthekgpchjonboaaGreatDoorClkW
namespace Go.Proofs.YthekgpchjonboaaGreatDoor
open Go.RowKit
set_option linter.unusedSimpArgs false
set_option linter.unusedVariables false

set_option maxHeartbeats 2000000 in
theorem ready_any (a : C8) (x : ActD) (w : World) (ha : a.Fits) :
    Calls Tryz.prog 341 #[.agg a.cells, .agg x.cells] w fun e w' => e = .returned (.bool (a.ready x)) ∧ Grew w w' := by
  by_cases h0 : 0 ≤ x.replica
  case neg =>
    have hi : C8.isIn x.replica = false := by simp [C8.isIn]; omega
    go_enter Tryz.func341, Tryz.ntmps341
    go_wp2_with (go_at_call 339; refine (in_any _ _).mono ?_; rintro e w' ⟨rfl, gx, rfl⟩)
    go_ret
    exact ⟨ret_bool (by simp [C8.ready, hi]), by repeat (first | with_reducible exact HG.out | with_reducible exact Grew.refl _ | with_reducible assumption | with_reducible apply Grew.plus | with_reducible apply Grew.drewN | with_reducible apply Grew.drew | with_reducible apply Grew.alloc | with_reducible refine Grew.setCell ?_ (by simp [go_sem]; try omega) _)⟩
  by_cases h8 : x.replica < 8
  case neg =>
    have hi : C8.isIn x.replica = false := by simp [C8.isIn]; omega
    go_enter Tryz.func341, Tryz.ntmps341
    go_wp2_with (go_at_call 339; refine (in_any _ _).mono ?_; rintro e w' ⟨rfl, gx, rfl⟩)
    go_ret
    exact ⟨ret_bool (by simp [C8.ready, hi]), by repeat (first | with_reducible exact HG.out | with_reducible exact Grew.refl _ | with_reducible assumption | with_reducible apply Grew.plus | with_reducible apply Grew.drewN | with_reducible apply Grew.drew | with_reducible apply Grew.alloc | with_reducible refine Grew.setCell ?_ (by simp [go_sem]; try omega) _)⟩
  have hi : C8.isIn x.replica = true := by simp [C8.isIn, h0, h8]
  have hr8 : x.replica.toNat < 8 := by omega
  have hr13 : 5 + x.replica.toNat < 13 := by omega
  obtain ⟨hf1, hf2⟩ := ha x.replica.toNat (by omega)
  generalize hq : (a.get x.replica.toNat == 9223372036854775807) = qm
  cases qm
  case true =>
    go_enter Tryz.func341, Tryz.ntmps341
    go_wp2_with (go_at_call 339; refine (in_any _ _).mono ?_; rintro e w' ⟨rfl, gx, rfl⟩)
    go_ret
    exact ⟨ret_bool (by simp [C8.ready, hq]), by repeat (first | with_reducible exact HG.out | with_reducible exact Grew.refl _ | with_reducible assumption | with_reducible apply Grew.plus | with_reducible apply Grew.drewN | with_reducible apply Grew.drew | with_reducible apply Grew.alloc | with_reducible refine Grew.setCell ?_ (by simp [go_sem]; try omega) _)⟩
  have hw : IntKind.i64.wrap (a.get x.replica.toNat + 1) = a.get x.replica.toNat + 1 := IntWalk.i64_in _ (by have := beq_eq_false_iff_ne.1 hq; omega)
  generalize h1 : decide (1 ≤ x.number) = q1
  generalize h2 : (x.number == a.get x.replica.toNat + 1) = q2
  generalize h3 : (x.clock.get x.replica.toNat == a.get x.replica.toNat) = q3
  cases q1
  case false =>
    go_enter Tryz.func341, Tryz.ntmps341
    go_wp2_with (go_at_call 339; refine (in_any _ _).mono ?_; rintro e w' ⟨rfl, gx, rfl⟩)
    go_quiet (fail)
    go_wp2
    go_ret
    exact ⟨ret_bool (by simp only [C8.ready, h1, Bool.false_and, Bool.and_false]), by repeat (first | with_reducible exact HG.out | with_reducible exact Grew.refl _ | with_reducible assumption | with_reducible apply Grew.plus | with_reducible apply Grew.drewN | with_reducible apply Grew.drew | with_reducible apply Grew.alloc | with_reducible refine Grew.setCell ?_ (by simp [go_sem]; try omega) _)⟩
  cases q2
  case false =>
    go_enter Tryz.func341, Tryz.ntmps341
    go_wp2_with (go_at_call 339; refine (in_any _ _).mono ?_; rintro e w' ⟨rfl, gx, rfl⟩)
    go_quiet (fail)
    go_wp2
    go_ret
    exact ⟨ret_bool (by simp only [C8.ready, h2, Bool.false_and, Bool.and_false]), by repeat (first | with_reducible exact HG.out | with_reducible exact Grew.refl _ | with_reducible assumption | with_reducible apply Grew.plus | with_reducible apply Grew.drewN | with_reducible apply Grew.drew | with_reducible apply Grew.alloc | with_reducible refine Grew.setCell ?_ (by simp [go_sem]; try omega) _)⟩
  cases q3
  case false =>
    go_enter Tryz.func341, Tryz.ntmps341
    go_wp2_with (go_at_call 339; refine (in_any _ _).mono ?_; rintro e w' ⟨rfl, gx, rfl⟩)
    go_quiet (fail)
    go_wp2
    go_ret
    exact ⟨ret_bool (by simp only [C8.ready, h3, Bool.false_and, Bool.and_false]), by repeat (first | with_reducible exact HG.out | with_reducible exact Grew.refl _ | with_reducible assumption | with_reducible apply Grew.plus | with_reducible apply Grew.drewN | with_reducible apply Grew.drew | with_reducible apply Grew.alloc | with_reducible refine Grew.setCell ?_ (by simp [go_sem]; try omega) _)⟩
  go_enter Tryz.func341, Tryz.ntmps341
  go_wp2_with (go_at_call 339; refine (in_any _ _).mono ?_; rintro e w' ⟨rfl, gx, rfl⟩)
  refine wp_region_plus (by kernel_rfl) (by kernel_rfl) ?_
  repeat (go_big_quiet_step ((go_at_call 333; exact Calls.grew_of (covers_any _ _ _))))
  refine wpQuiet_nil ?_
  intro _ hw'
  obtain ⟨nx, rfl⟩ := hw'
  go_wp2
  go_ret
  exact ⟨ret_bool (by simp only [C8.ready, hi, hq, h1, h2, h3, Bool.not_false, Bool.true_and]), by repeat (first | with_reducible exact HG.out | with_reducible exact Grew.refl _ | with_reducible assumption | with_reducible apply Grew.plus | with_reducible apply Grew.drewN | with_reducible apply Grew.drew | with_reducible apply Grew.alloc | with_reducible refine Grew.setCell ?_ (by simp [go_sem]; try omega) _)⟩

end Go.Proofs.YthekgpchjonboaaGreatDoor
