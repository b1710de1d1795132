/- Walks: what a new replica shows; the parts of audit at no elements. -/
import Derived.Test.YthekgpchjonboaaGreatDoorRepA
import Derived.Lib.UnsafeStr
namespace Go.Proofs.YthekgpchjonboaaGreatDoor
open Go.RowKit
set_option linter.unusedSimpArgs false
set_option linter.unusedVariables false
section
variable {w : World} {R L M T Bi Bb I D S Bh : Nat} {c0 c1 c2 c3 s : Int}

theorem builder_string0 (b : Nat) (h : w.cell? ⟨b, 1, none⟩ = some nilS) : Calls Tryz.prog 96 #[ptr b] w fun e w' => e = .returned (.string .empty) ∧ Grew w w' := by
  have u1 := fun (W : World) (ts : Array TypeId) (ty : TypeId) => Lib.run_unsafeSliceData_nil (P := Tryz.prog) (w := W) ts ty 0 0
  have u2 := fun (W : World) (pt it ty : TypeId) => Lib.run_unsafeString_none (P := Tryz.prog) (w := W) pt it ty none
  go_enter Tryz.func96, Tryz.ntmps96
  go_wp2
  refine wp_region_plus (by kernel_rfl) (by kernel_rfl) ?_
  repeat (go_big_quiet_step ((first | fail)))
  refine wpQuiet_nil ?_
  intro _ hw'
  obtain ⟨nx, rfl⟩ := hw'
  go_wp2
  go_ret
  exact ⟨rfl, by repeat (first | with_reducible exact HG.out | with_reducible exact Grew.refl _ | with_reducible assumption | with_reducible apply Grew.plus | with_reducible apply Grew.drewN | with_reducible apply Grew.drew | with_reducible apply Grew.alloc | with_reducible refine Grew.setCell ?_ (by simp [go_sem]; try omega) _)⟩
end
end Go.Proofs.YthekgpchjonboaaGreatDoor
