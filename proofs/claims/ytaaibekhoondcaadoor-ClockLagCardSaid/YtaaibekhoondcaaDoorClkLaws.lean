/- Walks of the laws of layer 3 that ask of two or three clocks. -/
import Derived.Test.YtaaibekhoondcaaDoorProg
import Derived.Test.YtaaibekhoondcaaDoorRdy
import Derived.Test.YtaaibekhoondcaaDoorLag
import Derived.Test.YtaaibekhoondcaaDoorTick
import Derived.Test.YtaaibekhoondcaaDoorOpen
namespace Go.Proofs.YtaaibekhoondcaaDoor
open Go.RowKit
set_option linter.unusedSimpArgs false
set_option linter.unusedVariables false

set_option maxHeartbeats 1000000 in
theorem clockNames_walk (w : World) :
    Calls Tryd.prog 3 #[] w fun e w' => e = .returned (.bool true) ∧ Grew w w' := by
  go_enter Tryd.func3, Tryd.ntmps3
  go_wp2_with (go_at_call 15; refine (wakes3 _).mono ?_; rintro e w' ⟨rfl, gx, rfl⟩)
  go_ret
  exact ⟨rfl, by repeat (first | exact Grew.refl _ | assumption | apply Grew.plus | apply Grew.drewN | apply Grew.drew | apply Grew.alloc | refine Grew.setCell ?_ (by simp [go_sem]; try omega) _)⟩
set_option maxHeartbeats 2000000 in
theorem clockExact_walk (a b : C8) (w : World) :
    Calls Tryd.prog 5 #[.agg a.cells, .agg b.cells] w fun e w' => e = .returned (.bool true) ∧ Grew w w' := by
  go_enter Tryd.func5, Tryd.ntmps5
  go_wp2
  refine wp_region_plus (by kernel_rfl) (by kernel_rfl) ?_
  repeat (go_big_quiet_step ((first | (go_at_call 20; exact Calls.grew_of (covers_any _ _ _)) | (go_at_call 21; exact Calls.grew_of (rcovers_any _ _ _)) | (go_at_call 22; exact Calls.grew_of (compare_any _ _ _)) | (go_at_call 23; exact Calls.grew_of (rcompare_any _ _ _)))))
  refine wpQuiet_nil ?_
  intro _ hw'
  obtain ⟨nx, rfl⟩ := hw'
  go_wp2
  refine wp_region_plus (by kernel_rfl) (by kernel_rfl) ?_
  repeat (go_big_quiet_step ((first | (go_at_call 24; exact Calls.grew_of (merge_any _ _ _)) | (go_at_call 25; exact Calls.grew_of (rmerge_any _ _ _)) | (go_at_call 26; exact Calls.grew_of (meet_any _ _ _)) | (go_at_call 27; exact Calls.grew_of (rmeet_any _ _ _)) | (go_at_call 15; exact Calls.grew_of (wakes3 _)))))
  refine wpQuiet_nil ?_
  intro _ hw'
  obtain ⟨nx, rfl⟩ := hw'
  go_wp2
  go_ret
  exact ⟨rfl, by repeat (first | exact Grew.refl _ | assumption | apply Grew.plus | apply Grew.drewN | apply Grew.drew | apply Grew.alloc | refine Grew.setCell ?_ (by simp [go_sem]; try omega) _)⟩

set_option maxHeartbeats 2000000 in
theorem clockLag_walk (a b : C8) (n : Int) (w : World) (ha : a.Fits) (hb : b.Fits) :
    Calls Tryd.prog 8 #[.agg a.cells, .agg b.cells, .int .i64 n] w fun e w' => e = .returned (.bool true) ∧ Grew w w' := by
  have hz := C8.lag_beq a b
  have hn := C8.lag_nonneg a b
  go_enter Tryd.func8, Tryd.ntmps8
  go_wp2_with (first | (go_at_call 32; refine (lag_any _ _ _ ha hb).mono ?_; rintro e w' ⟨rfl, gx, rfl⟩) | (go_at_call 33; refine (rlag_any _ _ _ ha hb).mono ?_; rintro e w' ⟨rfl, gx, rfl⟩) | (go_at_call 20; refine (covers_any _ _ _).mono ?_; rintro e w' ⟨rfl, gx, rfl⟩))
  refine wp_region_plus (by kernel_rfl) (by kernel_rfl) ?_
  repeat (go_big_quiet_step ((first | (go_at_call 34; exact Calls.grew_of (valid_any _ _ _)) | (go_at_call 35; exact Calls.grew_of (rvalid_any _ _ _)) | (go_at_call 15; exact Calls.grew_of (wakes3 _)))))
  refine wpQuiet_nil ?_
  intro _ hw'
  obtain ⟨nx, rfl⟩ := hw'
  go_wp2
  go_ret
  exact ⟨rfl, by repeat (first | exact Grew.refl _ | assumption | apply Grew.plus | apply Grew.drewN | apply Grew.drew | apply Grew.alloc | refine Grew.setCell ?_ (by simp [go_sem]; try omega) _)⟩
end Go.Proofs.YtaaibekhoondcaaDoor
