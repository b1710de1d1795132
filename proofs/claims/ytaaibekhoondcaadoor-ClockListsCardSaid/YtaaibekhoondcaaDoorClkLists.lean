/- The walk of the law ClockLists: Most and Least of any list. -/
import Derived.Test.YtaaibekhoondcaaDoorProg
import Derived.Test.YtaaibekhoondcaaDoorClkList
import Derived.Test.YtaaibekhoondcaaDoorTick
import Derived.Deep.DeepCutAuto
namespace Go.Proofs.YtaaibekhoondcaaDoor
open Go.RowKit
set_option linter.unusedSimpArgs false
set_option linter.unusedVariables false

set_option maxRecDepth 100000 in
set_option maxHeartbeats 4000000 in
theorem clockLists_walk (a : Option Addr) (xs : List C8) (cap : Nat) (x : C8) (w : World) (hl : xs.length ≤ cap) (hm : cap ≤ 9223372036854775807) (hx : ClksAt w a xs) :
    Calls Tryd.prog 7 #[.slice a xs.length cap, .agg x.cells] w fun e w' => e = .returned (.bool true) ∧ Grew w w' := by
  have hX := Lib.hid hx
  clear hx
  go_enter Tryd.func7, Tryd.ntmps7
  go_wp2_with (first | (go_at_call 28; refine (Most_any a xs cap _ hl hm (ClksAt.grew hX.out (by repeat (first | with_reducible exact Grew.refl _ | with_reducible assumption | with_reducible apply Grew.plus | with_reducible apply Grew.drewN | with_reducible apply Grew.drew | with_reducible apply Grew.alloc | with_reducible refine Grew.setCell ?_ (by simp [go_sem]; try omega) _)))).mono ?_; rintro e w' ⟨rfl, gx, rfl⟩) | (go_at_call 29; refine (Least_any a xs cap _ hl hm (ClksAt.grew hX.out (by repeat (first | with_reducible exact Grew.refl _ | with_reducible assumption | with_reducible apply Grew.plus | with_reducible apply Grew.drewN | with_reducible apply Grew.drew | with_reducible apply Grew.alloc | with_reducible refine Grew.setCell ?_ (by simp [go_sem]; try omega) _)))).mono ?_; rintro e w' ⟨rfl, gx, rfl⟩))
  refine wp_region_plus (by kernel_rfl) (by kernel_rfl) ?_
  repeat (go_big_quiet_step ((first | (go_at_call 30; exact Calls.grew_of (rGreatest_any a xs cap _ hl hm (ClksAt.grew hX.out (by repeat (first | with_reducible exact Grew.refl _ | with_reducible assumption | with_reducible apply Grew.plus | with_reducible apply Grew.drewN | with_reducible apply Grew.drew | with_reducible apply Grew.alloc | with_reducible refine Grew.setCell ?_ (by simp [go_sem]; try omega) _))))) | (go_at_call 31; exact Calls.grew_of (rLeast_any a xs cap _ hl hm (ClksAt.grew hX.out (by repeat (first | with_reducible exact Grew.refl _ | with_reducible assumption | with_reducible apply Grew.plus | with_reducible apply Grew.drewN | with_reducible apply Grew.drew | with_reducible apply Grew.alloc | with_reducible refine Grew.setCell ?_ (by simp [go_sem]; try omega) _))))))))
  refine wpQuiet_nil ?_
  intro _ hw'
  obtain ⟨nx, rfl⟩ := hw'
  go_upto_region 4 with fail
  go_cut [5, 6, 7, 8] (fun s5 s6 s7 s8 wc => ∃ p q : Nat, s5 = .pointer (some ⟨p, 0, none⟩) ∧ s6 = .pointer (some ⟨q, 0, none⟩) ∧ s7 = .bool true ∧ s8 = .bool true ∧ wc.cellsAt ⟨p, 0, none⟩ 8 = some (C8.folded C8.merge xs).cells.toList ∧ wc.cellsAt ⟨q, 0, none⟩ 8 = some (C8.folded C8.meet xs).cells.toList ∧ wc.cellsAt ⟨w.heap.size, 0, none⟩ 8 = some x.cells.toList ∧ Grew w wc)
  case first =>
    go_wp2_with fail
    go_meet
    exact ⟨_, _, rfl, rfl, rfl, rfl, by simp [go_sem], by simp [go_sem], by simp [go_sem], by repeat (first | with_reducible exact Grew.refl _ | with_reducible assumption | with_reducible apply Grew.plus | with_reducible apply Grew.drewN | with_reducible apply Grew.drew | with_reducible apply Grew.alloc | with_reducible refine Grew.setCell ?_ (by simp [go_sem]; try omega) _)⟩
  case rest =>
    obtain ⟨p, q, rfl, rfl, rfl, rfl, hp, hq, hxx, hg⟩ := hcut
    have hXc := Lib.hid (ClksAt.grew hX.out hg)
    have HG := Lib.hid hg
    clear hX hg
    go_wp2_with fail
    go_loopw [9, 7, 8] (fun i s7 s8 wr => ∃ k : Nat, k ≤ xs.length ∧ i = .int .i64 k ∧ s7 = .bool ((xs.take k).all fun y => x.covers y) ∧ s8 = .bool ((xs.take k).all fun y => y.covers x) ∧ Grew wc wr) (fun i _ _ _ => xs.length - (intOf i).toNat)
    case atStart => exact ⟨0, by omega, rfl, rfl, rfl, Grew.refl _⟩
    case round =>
      obtain ⟨k, hk, rfl, rfl, rfl, X, rfl⟩ := hrel
      by_cases hlt : k < xs.length
      · obtain ⟨b, off, rfl, hb, hc⟩ := hXc.out (by omega)
        have hk1 := hc k hlt
        have ht := C8.most_covers_each xs k hlt
        have hw := C8.each_covers_least xs k hlt
        have H7 := Lib.hid (all_take_succ (fun y => x.covers y) xs k hlt)
        have H8 := Lib.hid (all_take_succ (fun y => y.covers x) xs k hlt)
        clear hc
        generalize hA : ((xs.take k).all fun y => x.covers y) = A at *
        generalize hB : ((xs.take k).all fun y => y.covers x) = B at *
        have HA := Lib.hid hA
        have HB := Lib.hid hB
        clear hA hB
        cases A
        all_goals cases B
        all_goals
          go_wp2
          refine wp_region_plus (by kernel_rfl) (by kernel_rfl) ?_
          repeat (go_big_quiet_step ((first | (go_at_call 20; exact Calls.grew_of (covers_any _ _ _)))))
          refine wpQuiet_nil ?_
          intro _ hw'
          obtain ⟨nx, rfl⟩ := hw'
          go_wp2
          refine wp_region_plus (by kernel_rfl) (by kernel_rfl) ?_
          repeat (go_big_quiet_step ((first | (go_at_call 20; exact Calls.grew_of (covers_any _ _ _)))))
          refine wpQuiet_nil ?_
          intro _ hw'
          obtain ⟨nx, rfl⟩ := hw'
          go_wp2
          refine wp_region_plus (by kernel_rfl) (by kernel_rfl) ?_
          repeat (go_big_quiet_step ((first | (go_at_call 20; exact Calls.grew_of (covers_any _ _ _)))))
          refine wpQuiet_nil ?_
          intro _ hw'
          obtain ⟨nx, rfl⟩ := hw'
          go_wp2
          go_roundw
          case measure => simp [intOf]; omega
          case rel => exact ⟨k + 1, by omega, by go_num, by rw [H7.out]; rfl, by rw [H8.out]; rfl, by repeat (first | with_reducible exact Grew.refl _ | with_reducible assumption | with_reducible apply Grew.plus | with_reducible apply Grew.drewN | with_reducible apply Grew.drew | with_reducible apply Grew.alloc | with_reducible refine Grew.setCell ?_ (by simp [go_sem]; try omega) _)⟩
      · obtain rfl : k = xs.length := by omega
        have HG2 : Hid (Grew w (wc.plus X)) := HG.out.plus X
        simp only [List.take_length]
        by_cases hn : 0 < xs.length
        · have h1 := C8.covers_most x xs hn
          have h2 := C8.least_covers x xs hn
          go_wp2_with (first | (go_at_call 20; refine (covers_any _ _ _).mono ?_; rintro e w' ⟨rfl, gx, rfl⟩) | (go_at_call 15; refine (wakes3 _).mono ?_; rintro e w' ⟨rfl, gx, rfl⟩))
          go_ret
          exact ⟨rfl, (have h3 := HG2.out; (by repeat (first | with_reducible exact Grew.refl _ | with_reducible assumption | with_reducible apply Grew.plus | with_reducible apply Grew.drewN | with_reducible apply Grew.drew | with_reducible apply Grew.alloc | with_reducible refine Grew.setCell ?_ (by simp [go_sem]; try omega) _)))⟩
        · go_wp2_with (first | (go_at_call 20; refine (covers_any _ _ _).mono ?_; rintro e w' ⟨rfl, gx, rfl⟩) | (go_at_call 15; refine (wakes3 _).mono ?_; rintro e w' ⟨rfl, gx, rfl⟩))
          go_ret
          exact ⟨rfl, (have h3 := HG2.out; (by repeat (first | with_reducible exact Grew.refl _ | with_reducible assumption | with_reducible apply Grew.plus | with_reducible apply Grew.drewN | with_reducible apply Grew.drew | with_reducible apply Grew.alloc | with_reducible refine Grew.setCell ?_ (by simp [go_sem]; try omega) _)))⟩
end Go.Proofs.YtaaibekhoondcaaDoor
