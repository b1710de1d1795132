/- Walks: what a new replica shows; the parts of audit at no elements. -/
import Derived.Test.YtlhldjfonidmgaaGreatDoorRepA
import Derived.Lib.UnsafeStr
namespace Go.Proofs.YtlhldjfonidmgaaGreatDoor
open Go.RowKit
set_option linter.unusedSimpArgs false
set_option linter.unusedVariables false
section
variable {w : World} {R L M T Bi Bb I D S Bh : Nat} {c0 c1 c2 c3 s : Int}

theorem rep_cursor (h : ERep w R L M T Bi Bb I D S Bh c0 c1 c2 c3 s) : Calls Tryz.prog 48 #[ptr R] w fun e w' => e = .returned (.int .i64 0) ∧ Grew w w' := by
  have hl := h.lt
  have r11 : w.cellsAt ⟨R, 11, none⟩ 4 = some [.bool true, .int .i64 0, .int .i64 0, .int .i64 0] := by
    have := World.cellsAt_sub (World.cellsAt_block h.r 17 rfl) 11 4 (by decide)
    simpa using this
  have HM := Lib.hid (fun W (hW : Grew w W) => ((h.grew hW).mod).mono (R' := fun e w' => e = .returned (ptr M) ∧ Grew W w') (fun e w' ⟨h1, h2⟩ => ⟨h1, by subst h2; exact Grew.refl _⟩))
  clear h
  go_enter Tryz.func48, Tryz.ntmps48
  go_wp2
  refine wp_region_plus (by kernel_rfl) (by kernel_rfl) ?_
  repeat (go_big_quiet_step ((first | (go_at_call 40; exact Calls.grew_of (HM.out _ (by repeat (first | with_reducible exact HG.out | with_reducible exact Grew.refl _ | with_reducible assumption | with_reducible apply Grew.plus | with_reducible apply Grew.drewN | with_reducible apply Grew.drew | with_reducible apply Grew.alloc | with_reducible refine Grew.setCell ?_ (by simp [go_sem]; try omega) _)))) | (go_at_call 110; exact Calls.grew_of (where_front M _ _ _ _)))))
  refine wpQuiet_nil ?_
  intro _ hw'
  obtain ⟨nx, rfl⟩ := hw'
  go_wp2
  go_ret
  exact ⟨rfl, by repeat (first | with_reducible exact HG.out | with_reducible exact Grew.refl _ | with_reducible assumption | with_reducible apply Grew.plus | with_reducible apply Grew.drewN | with_reducible apply Grew.drew | with_reducible apply Grew.alloc | with_reducible refine Grew.setCell ?_ (by simp [go_sem]; try omega) _)⟩
theorem builder_string0 (b : Nat) (h : w.cell? ⟨b, 1, none⟩ = some nilS) : Calls Tryz.prog 103 #[ptr b] w fun e w' => e = .returned (.string .empty) ∧ Grew w w' := by
  have u1 := fun (W : World) (ts : Array TypeId) (ty : TypeId) => Lib.run_unsafeSliceData_nil (P := Tryz.prog) (w := W) ts ty 0 0
  have u2 := fun (W : World) (pt it ty : TypeId) => Lib.run_unsafeString_none (P := Tryz.prog) (w := W) pt it ty none
  go_enter Tryz.func103, Tryz.ntmps103
  go_wp2
  refine wp_region_plus (by kernel_rfl) (by kernel_rfl) ?_
  repeat (go_big_quiet_step ((first | fail)))
  refine wpQuiet_nil ?_
  intro _ hw'
  obtain ⟨nx, rfl⟩ := hw'
  go_wp2
  go_ret
  exact ⟨rfl, by repeat (first | with_reducible exact HG.out | with_reducible exact Grew.refl _ | with_reducible assumption | with_reducible apply Grew.plus | with_reducible apply Grew.drewN | with_reducible apply Grew.drew | with_reducible apply Grew.alloc | with_reducible refine Grew.setCell ?_ (by simp [go_sem]; try omega) _)⟩
end
end Go.Proofs.YtlhldjfonidmgaaGreatDoor
