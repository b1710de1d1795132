/- Walk: what wakes tries. -/
import Derived.Test.YtkdjejokhbdokaaDoorScrK
import Derived.Test.YtkdjejokhbdokaaDoorScrN
namespace Go.Proofs.YtkdjejokhbdokaaDoor
open Go.RowKit
set_option linter.unusedSimpArgs false
set_option linter.unusedVariables false

theorem wake_read : Scr.readL [0, 1, 2, 3, 2, 0, 27] = [⟨0, 1, 2, 3, ⟨#[97, 98]⟩⟩] := by decide +kernel
theorem name_seven : nameB 7 = ⟨#[115, 121, 110, 99]⟩ := rfl

theorem wake_call (w : World) : Calls Tryd.prog 5 #[.slice (some ⟨w.heap.size, 0, none⟩) 7 7] (w.alloc (.cells #[.int .u8 0, .int .u8 1, .int .u8 2, .int .u8 3, .int .u8 2, .int .u8 0, .int .u8 27] 5)) fun e w' => ∃ g c, e = .returned (.slice (some ⟨g, 0, none⟩) 1 c) ∧ Grew w w' ∧ w'.cellsAt ⟨g, 0, none⟩ 5 = some [.int .i64 0, .int .i64 1, .int .i64 2, .int .i64 3, .string ⟨#[97, 98]⟩] := by
  refine (read_any (some ⟨w.heap.size, 0, none⟩) 7 [0, 1, 2, 3, 2, 0, 27] _ (World.ownsRow_lit (size := 1) w #[.int .u8 0, .int .u8 1, .int .u8 2, .int .u8 3, .int .u8 2, .int .u8 0, .int .u8 27] 7 (Nat.le_refl _) (by decide) rfl).cin (by decide) (by decide) (by decide)).mono ?_
  rintro e w1 ⟨v, rfl, hg1, hown1⟩
  rw [wake_read] at hown1
  obtain ⟨g, c, rfl, _, _⟩ := hown1.form (by decide)
  refine ⟨g, c, rfl, ((Grew.refl w).alloc _).trans hg1, ?_⟩
  obtain ⟨b, off, he, _, hr⟩ := CellsIn.rowAt (xs := [(⟨0, 1, 2, 3, ⟨#[97, 98]⟩⟩ : StepD)]) _ 5 len_cells (by decide) hown1.cin (by decide)
  cases he
  have hrow := hr 0 (by decide)
  simpa [Scr.cells] using hrow
set_option maxRecDepth 100000 in
set_option maxHeartbeats 1000000 in
theorem wakes18 (w : World) : Calls Tryd.prog 11 #[] w fun e w' => e = .returned (.bool true) ∧ Grew w w' := by
  go_enter Tryd.func11, Tryd.ntmps11
  go_wp2_with fail
  refine (wake_call w).mono ?_
  rintro e w1 ⟨g, c, rfl, hg1, hrow⟩
  have HG := Lib.hid hg1
  clear hg1
  go_wp2_with fail
  refine (name_any 7 (by decide) (by decide) _).mono ?_
  rw [name_seven]
  rintro e w' ⟨rfl, gx, rfl⟩
  go_wp2
  go_ret
  exact ⟨rfl, by repeat (first | with_reducible exact HG.out | with_reducible exact Grew.refl _ | with_reducible assumption | with_reducible apply Grew.plus | with_reducible apply Grew.drewN | with_reducible apply Grew.drew | with_reducible apply Grew.alloc | with_reducible refine Grew.setCell ?_ (by simp [go_sem]; try omega) _)⟩

end Go.Proofs.YtkdjejokhbdokaaDoor
