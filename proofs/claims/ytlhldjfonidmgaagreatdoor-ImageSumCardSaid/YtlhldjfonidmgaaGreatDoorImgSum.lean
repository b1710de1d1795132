/- The walk of the law ImageSum. -/
import Derived.Test.YtlhldjfonidmgaaGreatDoorImg
import Derived.Test.YtlhldjfonidmgaaGreatDoorAbW17
import Derived.RegionTactic
namespace Go.Proofs.YtlhldjfonidmgaaGreatDoor
open Go.RowKit
set_option linter.unusedSimpArgs false
set_option linter.unusedVariables false
theorem sumL_nil : sumL [] = 2166136261 := rfl
set_option maxRecDepth 100000 in
set_option maxHeartbeats 1000000 in
theorem imageSum_walk (a : Option Addr) (l : List UInt8) (cap : Nat) (w : World) (ha : CellsIn w a (bv l)) (hcap : l.length ≤ cap) (hm : cap ≤ 9223372036854775807) :
    Calls Tryz.prog 4 #[.slice a l.length cap] w fun e w' => e = .returned (.bool true) ∧ Grew w w' := by
  have hl2 : (l.take 4000).length ≤ 4000 := by simp; omega
  have hcap2 : (l.take 4000).length ≤ cap := by simp; omega
  have hin2 : CellsIn w a (bv (l.take 4000)) := by rw [bv_take]; exact ha.take 4000
  have CL := Lib.hid (clip17_any a cap l w hcap hm)
  generalize l.take 4000 = r at *
  have Hin := Lib.hid hin2
  have SA := Lib.hid (sum_any a cap r w hin2 hcap2 hm)
  have RA := Lib.hid (rsum_any a cap r w hin2 hcap2 hm)
  have SN := Lib.hid (sum_any none 0 [] w (by simpa [bv] using CellsIn.nil w none) (by simp) (by omega))
  rw [sumL_nil] at SN
  clear hin2 ha
  by_cases hr : r = []
  · subst hr
    simp only [List.length_nil, sumL_nil] at CL SA RA SN
    clear Hin
    go_enter Tryz.func4, Tryz.ntmps4
    go_wp2_with fail
    refine CL.out.mono ?_
    rintro e w' ⟨rfl, rfl⟩
    go_wp2_with fail
    refine SA.out.mono ?_
    rintro e w' ⟨rfl, rfl⟩
    go_wp2_with fail
    refine RA.out.mono ?_
    rintro e w' ⟨rfl, rfl⟩
    go_wp2_with fail
    refine SN.out.mono ?_
    rintro e w' ⟨rfl, rfl⟩
    go_wp2_with fail
    refine (wakes17 _).mono ?_
    rintro e w' ⟨rfl, gx, rfl⟩
    go_wp2_with fail
    go_ret
    exact ⟨rfl, by repeat (first | with_reducible exact HG.out | with_reducible exact Grew.refl _ | with_reducible assumption | with_reducible apply Grew.plus | with_reducible apply Grew.drewN | with_reducible apply Grew.drew | with_reducible apply Grew.alloc | with_reducible refine Grew.setCell ?_ (by simp [go_sem]; try omega) _)⟩
  · obtain ⟨m, hm1⟩ : ∃ m, r.length = m + 1 := ⟨r.length - 1, by have := List.length_pos_iff.2 hr; omega⟩
    have hin3 : CellsIn w a (bv (r.take m)) := by rw [bv_take]; exact Hin.out.take m
    have hlm : (r.take m).length = m := by simp; omega
    have ST : Hid (∀ W, Grew w W → Calls Tryz.prog 16 #[.slice a m cap] W fun e w' => e = .returned (.int .u32 (sumL (r.take m))) ∧ Grew W w') := Lib.hid fun W hg => by
      have := sum_any a cap (r.take m) W (hin3.grew hg) (by omega) hm
      rw [hlm] at this
      exact this.mono fun e w' ⟨h1, h2⟩ => ⟨h1, by rw [h2]; exact Grew.refl W⟩
    obtain ⟨b, off, rfl, hb, hx⟩ := Hin.out.at' (by rw [bv_length]; omega)
    have hc := hx m (by rw [bv_length]; omega)
    rw [bv_get] at hc
    have hst := sumL_succ r m (by omega)
    rw [List.take_of_length_le (by omega)] at hst
    unfold sumStep at hst
    have hr1 := sumL_range r
    have hr2 := sumL_range (r.take m)
    have HB : Hid (∀ W, Grew w W → W.cell? ⟨b, off + m, none⟩ = w.cell? ⟨b, off + m, none⟩) := Lib.hid fun W hg => hg.cell hb
    generalize hby : r[m].toNat = y at *
    generalize sumL (r.take m) = s0 at *
    generalize sumL r = s1 at *
    rw [hm1] at *
    have HST := Lib.hid hst
    clear hst hx hin3
    go_enter Tryz.func4, Tryz.ntmps4
    go_wp2_with fail
    refine CL.out.mono ?_
    rintro e w' ⟨rfl, rfl⟩
    go_wp2_with fail
    refine SA.out.mono ?_
    rintro e w' ⟨rfl, rfl⟩
    go_wp2_with fail
    refine RA.out.mono ?_
    rintro e w' ⟨rfl, rfl⟩
    go_wp2_with fail
    refine SN.out.mono ?_
    rintro e w' ⟨rfl, rfl⟩
    go_wp2_with fail
    refine wp_region_plus (by kernel_rfl) (by kernel_rfl) ?_
    repeat (go_big_quiet_step ((first | (go_at_call 16; exact Calls.grew_of (ST.out _ (by repeat (first | with_reducible exact HG.out | with_reducible exact Grew.refl _ | with_reducible assumption | with_reducible apply Grew.plus | with_reducible apply Grew.drewN | with_reducible apply Grew.drew | with_reducible apply Grew.alloc | with_reducible refine Grew.setCell ?_ (by simp [go_sem]; try omega) _)))))))
    refine wpQuiet_nil ?_
    intro _ hw'
    obtain ⟨nx, rfl⟩ := hw'
    simp only [← HST.out, bne_self_eq_false]
    go_wp2_with fail
    refine (wakes17 _).mono ?_
    rintro e w' ⟨rfl, gx, rfl⟩
    go_wp2_with fail
    go_ret
    exact ⟨rfl, by repeat (first | with_reducible exact HG.out | with_reducible exact Grew.refl _ | with_reducible assumption | with_reducible apply Grew.plus | with_reducible apply Grew.drewN | with_reducible apply Grew.drew | with_reducible apply Grew.alloc | with_reducible refine Grew.setCell ?_ (by simp [go_sem]; try omega) _)⟩
end Go.Proofs.YtlhldjfonidmgaaGreatDoor
