/- The walk of the law FaultIs: errors.Is finds just the reasons that Has tells. -/
import Derived.Test.YtaaibekhoondcaaDoorMake1
import Derived.Test.YtaaibekhoondcaaDoorHas
import Derived.Test.YtaaibekhoondcaaDoorWake1
import Derived.Deep.DeepCutAuto
namespace Go.Proofs.YtaaibekhoondcaaDoor
open Go.RowKit
set_option linter.unusedSimpArgs false
set_option linter.unusedVariables false

theorem TreeAt.lit {w : World} {t : TreeD} {cs : Array Value} (h : TreeAt w t cs.toList) : ∃ (k c a : Int) (l b : ByteArray) (ad : Option Addr) (n cap : Nat), cs = #[.int .i64 k, .int .i64 c, .int .i64 a, .string l, .string b, .slice ad n cap] := by
  obtain ⟨cl⟩ := cs
  cases h
  exact ⟨_, _, _, _, _, _, _, _, rfl⟩

set_option maxRecDepth 100000 in
set_option maxHeartbeats 4000000 in
theorem faultIs_walk {S : Nat → Addr} (t : TreeD) (cs : Array Value) (w : World) (ht : TreeAt w t cs.toList) (hS : Sents S w) :
    Calls Tryd.prog 11 #[.agg cs] w fun e w' => e = .returned (.bool true) ∧ Grew w w' := by
  have hsz := mk_size 13 60 t
  have MC := Lib.hid (fun W (hW : Grew w W) => make1_any t cs W (ht.grew hW) (hS.grew hW))
  have HS := Lib.hid hS
  obtain ⟨k, c, a, l, b, ad, n, cap, rfl⟩ := ht.lit
  generalize (mk 13 60 t).1 = e at *
  have hes : e.size ≤ 1000000 := by omega
  clear ht hS hsz
  go_enter Tryd.func11, Tryd.ntmps11
  go_wp2_with (go_at_call 42; refine (MC.out _ (by repeat (first | with_reducible exact HG.out | with_reducible exact Grew.refl _ | with_reducible assumption | with_reducible apply Grew.plus | with_reducible apply Grew.drewN | with_reducible apply Grew.drew | with_reducible apply Grew.alloc | with_reducible refine Grew.setCell ?_ (by simp [go_sem]; try omega) _))).mono ?_; rintro x w1 ⟨v, rc, rfl, hev, hri, gx, rfl⟩; obtain ⟨c0, c1, c2, c3, c4, ca, cn, cc, hrl⟩ := rin_lit hri; subst hrl; have HEV := Lib.hid hev.at'; have HRI := Lib.hid hri; clear hev hri)
  generalize hw2 : ((w.alloc (.cells #[.int .i64 k, .int .i64 c, .int .i64 a, .string l, .string b, .slice ad n cap] 63)).plus gx).alloc (.cells #[.int .i64 c0, .int .i64 c1, .string c3, .string c4, .int .i64 c2, .slice ca cn cc] 66) = w2
  have hg2 : Grew w w2 := by rw [← hw2]; exact (((Grew.refl w).alloc _).plus _).alloc _
  have hga : Grew ((w.alloc (.cells #[.int .i64 k, .int .i64 c, .int .i64 a, .string l, .string b, .slice ad n cap] 63)).plus gx) w2 := by rw [← hw2]; exact (Grew.refl _).alloc _
  have hb2 : w2.heap[w.heap.size + 1 + gx.blocks.size]? = some (.cells #[.int .i64 c0, .int .i64 c1, .string c3, .string c4, .int .i64 c2, .slice ca cn cc] 66 (0, 0)) := by rw [← hw2]; exact heap_alloc_at _ _ _ (by simp [go_sem])
  have HE2 := Lib.hid (HEV.out.grew hga)
  have HR2 := Lib.hid (HRI.out.grew hga)
  have HB2 := Lib.hid hb2
  have HG2 := Lib.hid hg2
  clear hw2 hga hb2 hg2 HEV HRI
  generalize w.heap.size + 1 + gx.blocks.size = B2 at *
  go_loopw [5] (fun s5 wr => ∃ j : Nat, 1 ≤ j ∧ j ≤ 14 ∧ s5 = .int .i64 j ∧ Grew w2 wr) (fun i _ => 14 - (intOf i).toNat)
  case atStart => exact ⟨1, by omega, by omega, rfl, Grew.refl _⟩
  case round =>
    obtain ⟨j, hj1, hj2, rfl, hg⟩ := hrel
    have HG := Lib.hid hg
    have hcell := World.cellsAt_block (Grew.heap hg HB2.out) 6 rfl
    clear hg
    by_cases hlt : j ≤ 13
    · have NC : Hid (∀ W, Grew w2 W → Calls Tryd.prog 44 #[.int .i64 j] W fun x w' => x = .returned (errV (S j)) ∧ Grew W w') := fun W hW => by
        have h := named_in (HS.out.grew (HG2.out.trans hW)) (j : Int) (by omega) (by omega)
        rwa [Int.toNat_natCast] at h
      have IC := Lib.hid (fun W (hW : Grew w2 W) => is_any j hj1 hlt (HS.out.grew HG2.out) e v HE2.out W hW)
      have RC := Lib.hid (fun W (hW : Grew w2 W) => rhas_any e _ _ j W hes (HR2.out.grew hW))
      generalize e.cods.contains j = r at *
      go_wp2_with fail
      refine wp_region_plus (by kernel_rfl) (by kernel_rfl) ?_
      repeat (go_big_quiet_step ((first | (go_at_call 44; exact Calls.grew_of (NC.out _ (by repeat (first | with_reducible exact HG.out | with_reducible exact Grew.refl _ | with_reducible assumption | with_reducible apply Grew.plus | with_reducible apply Grew.drewN | with_reducible apply Grew.drew | with_reducible apply Grew.alloc | with_reducible refine Grew.setCell ?_ (by simp [go_sem]; try omega) _)))) | (go_at_call 43; exact Calls.grew_of (IC.out _ (by repeat (first | with_reducible exact HG.out | with_reducible exact Grew.refl _ | with_reducible assumption | with_reducible apply Grew.plus | with_reducible apply Grew.drewN | with_reducible apply Grew.drew | with_reducible apply Grew.alloc | with_reducible refine Grew.setCell ?_ (by simp [go_sem]; try omega) _)))) | (go_at_call 45; exact Calls.grew_of (RC.out _ (by repeat (first | with_reducible exact HG.out | with_reducible exact Grew.refl _ | with_reducible assumption | with_reducible apply Grew.plus | with_reducible apply Grew.drewN | with_reducible apply Grew.drew | with_reducible apply Grew.alloc | with_reducible refine Grew.setCell ?_ (by simp [go_sem]; try omega) _)))))))
      refine wpQuiet_nil ?_
      intro _ hw'
      obtain ⟨nx, rfl⟩ := hw'
      go_wp2_with fail
      go_roundw
      case rel => exact ⟨j + 1, by omega, by omega, by go_num, by repeat (first | with_reducible exact HG.out | with_reducible exact Grew.refl _ | with_reducible assumption | with_reducible apply Grew.plus | with_reducible apply Grew.drewN | with_reducible apply Grew.drew | with_reducible apply Grew.alloc | with_reducible refine Grew.setCell ?_ (by simp [go_sem]; try omega) _)⟩
      case measure => simp [intOf]; omega
    · obtain rfl : j = 14 := by omega
      have WK := Lib.hid (fun W (hW : Grew w2 W) => wakes1 W (HS.out.grew (HG2.out.trans hW)))
      go_wp2_with (go_at_call 46; refine (WK.out _ (by repeat (first | with_reducible exact HG.out | with_reducible exact Grew.refl _ | with_reducible assumption | with_reducible apply Grew.plus | with_reducible apply Grew.drewN | with_reducible apply Grew.drew | with_reducible apply Grew.alloc | with_reducible refine Grew.setCell ?_ (by simp [go_sem]; try omega) _))).mono ?_; rintro e w' ⟨rfl, gx, rfl⟩)
      go_ret
      exact ⟨rfl, HG2.out.trans (by repeat (first | with_reducible exact HG.out | with_reducible exact Grew.refl _ | with_reducible assumption | with_reducible apply Grew.plus | with_reducible apply Grew.drewN | with_reducible apply Grew.drew | with_reducible apply Grew.alloc | with_reducible refine Grew.setCell ?_ (by simp [go_sem]; try omega) _))⟩
end Go.Proofs.YtaaibekhoondcaaDoor
