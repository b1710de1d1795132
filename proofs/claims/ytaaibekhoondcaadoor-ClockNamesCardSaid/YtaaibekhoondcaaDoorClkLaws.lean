/- Walks of the laws of layer 3 that ask of two or three clocks. -/
import Derived.Test.YtaaibekhoondcaaDoorProg
import Derived.Test.YtaaibekhoondcaaDoorRdy
import Derived.Test.YtaaibekhoondcaaDoorLag
import Derived.Test.YtaaibekhoondcaaDoorTick
import Derived.Test.YtaaibekhoondcaaDoorOpen
namespace Go.Proofs.YtaaibekhoondcaaDoor
open Go.RowKit
set_option linter.unusedSimpArgs false
set_option linter.unusedVariables false

set_option maxHeartbeats 1000000 in
theorem clockNames_walk (w : World) :
    Calls Tryd.prog 3 #[] w fun e w' => e = .returned (.bool true) ∧ Grew w w' := by
  go_enter Tryd.func3, Tryd.ntmps3
  go_wp2_with (go_at_call 15; refine (wakes3 _).mono ?_; rintro e w' ⟨rfl, gx, rfl⟩)
  go_ret
  exact ⟨rfl, by repeat (first | exact Grew.refl _ | assumption | apply Grew.plus | apply Grew.drewN | apply Grew.drew | apply Grew.alloc | refine Grew.setCell ?_ (by simp [go_sem]; try omega) _)⟩
end Go.Proofs.YtaaibekhoondcaaDoor
