/- Walks: what the statements of layer 18 share: lists of steps held against one another, bytes that are lent. -/
import Derived.Test.YtkdjejokhbdokaaDoorScrRead
namespace Go.Proofs.YtkdjejokhbdokaaDoor
open Go.RowKit
set_option linter.unusedSimpArgs false
set_option linter.unusedVariables false


set_option maxRecDepth 100000 in
set_option maxHeartbeats 1000000 in
theorem steps_eq (a b : Option Addr) (ca cb : Nat) (xs : List StepD) (w : World) (ha : CellsIn w a (stepCells xs)) (hb : CellsIn w b (stepCells xs)) (hca : xs.length ≤ ca) (hcb : xs.length ≤ cb) (hma : ca ≤ 9223372036854775807) (hmb : cb ≤ 9223372036854775807) :
    Calls Tryd.prog 10 #[.slice a xs.length ca, .slice b xs.length cb] w fun e w' => e = .returned (.bool true) ∧ Grew w w' := by
  have Ha := Lib.hid ha
  have Hb := Lib.hid hb
  clear ha hb
  go_enter Tryd.func10, Tryd.ntmps10
  go_wp2_with fail
  go_loopw [5] (fun i wr => ∃ k : Nat, k ≤ xs.length ∧ i = .int .i64 k ∧ Grew w wr) (fun i _ => xs.length - (intOf i).toNat)
  case atStart => exact ⟨0, by omega, rfl, Grew.refl _⟩
  case round =>
    obtain ⟨k, hk, rfl, hg⟩ := hrel
    have HG := Lib.hid hg
    by_cases hlt : k < xs.length
    · obtain ⟨b1, o1, rfl, hb1, hr1⟩ := (Ha.out.grew hg).rowAt _ 5 len_cells (by omega) (by omega)
      obtain ⟨b2, o2, rfl, hb2, hr2⟩ := (Hb.out.grew hg).rowAt _ 5 len_cells (by omega) (by omega)
      have h1 := hr1 k hlt
      have h2 := hr2 k hlt
      clear hr1 hr2 hg
      generalize xs[k] = s at *
      obtain ⟨sk, sa, sb, sc, st⟩ := s
      simp only [Scr.cells] at h1 h2
      go_wp2_with fail
      refine wp_region_plus (by kernel_rfl) (by kernel_rfl) ?_
      repeat (go_big_quiet_step ((first | fail)))
      refine wpQuiet_nil ?_
      intro _ hw'
      obtain ⟨nx, rfl⟩ := hw'
      go_wp2_with fail
      go_roundw
      case measure => simp [intOf]; omega
      case rel => exact ⟨k + 1, by omega, by go_num, by repeat (first | with_reducible exact HG.out | with_reducible exact Grew.refl _ | with_reducible assumption | with_reducible apply Grew.plus | with_reducible apply Grew.drewN | with_reducible apply Grew.drew | with_reducible apply Grew.alloc | with_reducible refine Grew.setCell ?_ (by simp [go_sem]; try omega) _)⟩
    · obtain rfl : k = xs.length := by omega
      go_wp2_with fail
      go_ret
      exact ⟨rfl, by repeat (first | with_reducible exact HG.out | with_reducible exact Grew.refl _ | with_reducible assumption | with_reducible apply Grew.plus | with_reducible apply Grew.drewN | with_reducible apply Grew.drew | with_reducible apply Grew.alloc | with_reducible refine Grew.setCell ?_ (by simp [go_sem]; try omega) _)⟩

theorem clip_any (a : Option Addr) (cap : Nat) (l : List UInt8) (w : World) (hcap : l.length ≤ cap) (hm : cap ≤ 9223372036854775807) :
    Calls Tryd.prog 4 #[.slice a l.length cap] w fun e w' => e = .returned (.slice a (l.take 2000).length cap) ∧ w = w' := by
  by_cases h : l.length > 2000
  · have h2 : (l.take 2000).length = 2000 := by simp; omega
    go_enter Tryd.func4, Tryd.ntmps4
    go_wp2_with fail
    go_ret
    exact ⟨by rw [h2]; rfl, rfl⟩
  · have h2 : (l.take 2000).length = l.length := by simp; omega
    go_enter Tryd.func4, Tryd.ntmps4
    go_wp2_with fail
    go_ret
    exact ⟨by rw [h2]; rfl, rfl⟩
end Go.Proofs.YtkdjejokhbdokaaDoor
