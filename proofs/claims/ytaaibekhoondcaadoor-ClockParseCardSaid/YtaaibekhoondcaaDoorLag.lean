/- Walks: Lag and Valid of clocks. -/
import Derived.Test.YtaaibekhoondcaaDoorProg
import Derived.Test.YtaaibekhoondcaaDoorClkW
namespace Go.Proofs.YtaaibekhoondcaaDoor
open Go.RowKit
set_option linter.unusedSimpArgs false
set_option linter.unusedVariables false

theorem u64_sub (n h : Int) (hn : -9223372036854775808 ≤ n) (hn' : n ≤ 9223372036854775807) (hh : -9223372036854775808 ≤ h) (hh' : h ≤ 9223372036854775807) (hlt : ¬ n ≤ h) :
    IntKind.u64.wrap (IntKind.u64.wrap n - IntKind.u64.wrap h) = n - h := by
  simp only [IntKind.wrap_u64]; omega

set_option maxHeartbeats 1000000 in
theorem lag_any (a b : C8) (w : World) (ha : a.Fits) (hb : b.Fits) :
    Calls Tryd.prog 32 #[.agg a.cells, .agg b.cells] w fun e w' => e = .returned (.int .i64 (a.lag b)) ∧ Grew w w' := by
  go_enter Tryd.func32, Tryd.ntmps32
  go_wp2_with fail
  go_loop [5, 10] (fun s i => ∃ k : Nat, k ≤ 8 ∧ i = .int .i64 k ∧ a.lagTo b k ≤ 9223372036854775807 ∧ s = .int .u64 (a.lagTo b k)) (fun _ i => 8 - (intOf i).toNat)
  case atStart => exact ⟨0, by omega, rfl, by simp [C8.lagTo], by simp [C8.lagTo]⟩
  case round =>
    obtain ⟨k, hk, rfl, hs, rfl⟩ := hrel
    have hs0 := C8.lagTo_nonneg a b k
    by_cases hlt : k < 8
    · have hca := a.cells_get k hlt
      have hcb := b.cells_get k hlt
      obtain ⟨ha1, ha2⟩ := ha k hlt
      obtain ⟨hb1, hb2⟩ := hb k hlt
      by_cases hle : b.get k ≤ a.get k
      · have H := Lib.hid (C8.lagTo_skip a b k hle)
        go_wp2
        go_round
        case rel => exact ⟨k + 1, by omega, by go_num, by rw [H.out]; exact hs, by rw [H.out]⟩
        case measure => simp [intOf]; omega
      · have H := Lib.hid (C8.lagTo_add a b k hle)
        have hby := u64_sub _ _ hb1 hb2 ha1 ha2 hle
        go_wp2
        · have hv : 9223372036854775807 - a.lagTo b k < b.get k - a.get k := by assumption
          have H2 := C8.lag_over a b k hlt (by rw [H.out]; omega)
          go_ret
          exact ⟨ret_int H2.symm, by repeat (first | with_reducible exact HG.out | with_reducible exact Grew.refl _ | with_reducible assumption | with_reducible apply Grew.plus | with_reducible apply Grew.drewN | with_reducible apply Grew.drew | with_reducible apply Grew.alloc | with_reducible refine Grew.setCell ?_ (by simp [go_sem]; try omega) _)⟩
        · have hv : b.get k - a.get k ≤ 9223372036854775807 - a.lagTo b k := by assumption
          go_round
          case rel => exact ⟨k + 1, by omega, by go_num, by rw [H.out]; omega, by rw [H.out]⟩
          case measure => simp [intOf]; omega
    · obtain rfl : k = 8 := by omega
      have H := Lib.hid (C8.lag_all a b hs)
      go_wp2
      go_ret
      exact ⟨ret_int H.out.symm, by repeat (first | with_reducible exact HG.out | with_reducible exact Grew.refl _ | with_reducible assumption | with_reducible apply Grew.plus | with_reducible apply Grew.drewN | with_reducible apply Grew.drew | with_reducible apply Grew.alloc | with_reducible refine Grew.setCell ?_ (by simp [go_sem]; try omega) _)⟩

set_option maxHeartbeats 1000000 in
theorem rlag_any (a b : C8) (w : World) (ha : a.Fits) (hb : b.Fits) :
    Calls Tryd.prog 33 #[.agg a.cells, .agg b.cells] w fun e w' => e = .returned (.int .i64 (a.lag b)) ∧ Grew w w' := by
  go_enter Tryd.func33, Tryd.ntmps33
  go_wp2_with fail
  go_loopw [5, 6] (fun s i wr => ∃ k n : Nat, k ≤ 8 ∧ i = .int .i64 k ∧ a.lagTo b k ≤ 9223372036854775807 ∧ s = .int .i64 (a.lagTo b k) ∧ wr = ((w.alloc (.cells a.cells 24)).alloc (.cells b.cells 24)).drewN n) (fun _ i _ => 8 - (intOf i).toNat)
  case atStart => exact ⟨0, 0, by omega, rfl, by simp [C8.lagTo], by simp [C8.lagTo], rfl⟩
  case round =>
    obtain ⟨k, n, hk, rfl, hs, rfl, rfl⟩ := hrel
    have hs0 := C8.lagTo_nonneg a b k
    by_cases hlt : k < 8
    · have hca := a.cells_get k hlt
      have hcb := b.cells_get k hlt
      obtain ⟨ha1, ha2⟩ := ha k hlt
      obtain ⟨hb1, hb2⟩ := hb k hlt
      by_cases hle : b.get k ≤ a.get k
      · have H := Lib.hid (C8.lagTo_skip a b k hle)
        go_wp2
        go_quiet (fail)
        go_wp2
        go_roundw
        case rel => exact ⟨k + 1, n + nq, by omega, by go_num, by rw [H.out]; exact hs, by rw [H.out], rfl⟩
        case measure => simp [intOf]; omega
      · have H := Lib.hid (C8.lagTo_add a b k hle)
        by_cases hbig : b.get k - a.get k ≤ 9223372036854775807
        · have hd : IntKind.i64.wrap (b.get k - a.get k) = b.get k - a.get k := IntWalk.i64_in _ (by omega)
          go_wp2
          go_quiet (fail)
          go_wp2
          go_quiet (fail)
          go_wp2
          · have hv : 9223372036854775807 - a.lagTo b k < b.get k - a.get k := by omega
            have H2 := C8.lag_over a b k hlt (by rw [H.out]; omega)
            go_ret
            exact ⟨ret_int H2.symm, by repeat (first | with_reducible exact HG.out | with_reducible exact Grew.refl _ | with_reducible assumption | with_reducible apply Grew.plus | with_reducible apply Grew.drewN | with_reducible apply Grew.drew | with_reducible apply Grew.alloc | with_reducible refine Grew.setCell ?_ (by simp [go_sem]; try omega) _)⟩
          · have hv : b.get k - a.get k ≤ 9223372036854775807 - a.lagTo b k := by omega
            go_roundw
            case rel => exact ⟨k + 1, _, by omega, by go_num, by rw [H.out]; omega, by rw [H.out], rfl⟩
            case measure => simp [intOf]; omega
        · have hd0 : IntKind.i64.wrap (b.get k - a.get k) < 0 := by simp only [IntKind.wrap_i64]; omega
          generalize hD : IntKind.i64.wrap (b.get k - a.get k) = D at hd0
          have H2 := C8.lag_over a b k hlt (by rw [H.out]; omega)
          go_wp2
          go_quiet (fail)
          go_wp2
          go_quiet (fail)
          go_wp2
          go_ret
          exact ⟨ret_int H2.symm, by repeat (first | with_reducible exact HG.out | with_reducible exact Grew.refl _ | with_reducible assumption | with_reducible apply Grew.plus | with_reducible apply Grew.drewN | with_reducible apply Grew.drew | with_reducible apply Grew.alloc | with_reducible refine Grew.setCell ?_ (by simp [go_sem]; try omega) _)⟩
    · obtain rfl : k = 8 := by omega
      have H := Lib.hid (C8.lag_all a b hs)
      go_wp2
      go_ret
      exact ⟨ret_int H.out.symm, by repeat (first | with_reducible exact HG.out | with_reducible exact Grew.refl _ | with_reducible assumption | with_reducible apply Grew.plus | with_reducible apply Grew.drewN | with_reducible apply Grew.drew | with_reducible apply Grew.alloc | with_reducible refine Grew.setCell ?_ (by simp [go_sem]; try omega) _)⟩

set_option maxHeartbeats 1000000 in
theorem valid_any (a : C8) (n : Int) (w : World) :
    Calls Tryd.prog 34 #[.agg a.cells, .int .i64 n] w fun e w' => e = .returned (.bool (a.valid n)) ∧ Grew w w' := by
  by_cases h0 : 0 ≤ n
  case neg =>
    have H : Hid (a.valid n = false) := by show a.valid n = false; simp only [C8.valid, h0, decide_false, Bool.false_and]
    go_enter Tryd.func34, Tryd.ntmps34
    go_wp2_with fail
    go_ret
    exact ⟨ret_bool H.out.symm, by repeat (first | with_reducible exact HG.out | with_reducible exact Grew.refl _ | with_reducible assumption | with_reducible apply Grew.plus | with_reducible apply Grew.drewN | with_reducible apply Grew.drew | with_reducible apply Grew.alloc | with_reducible refine Grew.setCell ?_ (by simp [go_sem]; try omega) _)⟩
  by_cases h8 : n ≤ 8
  case neg =>
    have H : Hid (a.valid n = false) := by show a.valid n = false; simp only [C8.valid, h8, decide_false, Bool.false_and, Bool.and_false]
    go_enter Tryd.func34, Tryd.ntmps34
    go_wp2_with fail
    go_ret
    exact ⟨ret_bool H.out.symm, by repeat (first | with_reducible exact HG.out | with_reducible exact Grew.refl _ | with_reducible assumption | with_reducible apply Grew.plus | with_reducible apply Grew.drewN | with_reducible apply Grew.drew | with_reducible apply Grew.alloc | with_reducible refine Grew.setCell ?_ (by simp [go_sem]; try omega) _)⟩
  go_enter Tryd.func34, Tryd.ntmps34
  go_wp2_with fail
  go_loop [14] (fun i => ∃ k : Nat, k ≤ 8 ∧ i = .int .i64 k ∧ a.validTo n k = true) (fun i => 8 - (intOf i).toNat)
  case atStart => exact ⟨0, by omega, rfl, rfl⟩
  case round =>
    obtain ⟨k, hk, rfl, hs⟩ := hrel
    by_cases hlt : k < 8
    · have hca := a.cells_get k hlt
      have H : Hid (a.validTo n (k + 1) = decide (0 ≤ a.get k ∧ ((k : Int) < n ∨ a.get k = 0))) := by show a.validTo n (k + 1) = _; rw [C8.validTo, hs, Bool.true_and]
      have H2 : Hid (a.validTo n (k + 1) = false → a.valid n = false) := C8.valid_over a n k hlt
      clear hs
      by_cases hneg : 0 ≤ a.get k
      · by_cases hkn : (k : Int) < n
        · go_wp2
          go_round
          case rel => exact ⟨k + 1, by omega, by go_num, by rw [H.out]; simp; omega⟩
          case measure => simp [intOf]; omega
        · generalize hz : (a.get k != 0) = z
          cases z
          · have hz0 : a.get k = 0 := by simpa using hz
            have H3 := Lib.hid hz0
            clear hz0
            go_wp2
            go_round
            case rel => exact ⟨k + 1, by omega, by go_num, by rw [H.out]; have := H3.out; simp; omega⟩
            case measure => simp [intOf]; omega
          · have hz0 : a.get k ≠ 0 := by simpa using hz
            have H3 := Lib.hid hz0
            clear hz0
            go_wp2
            go_ret
            exact ⟨ret_bool (H2.out (by rw [H.out]; have := H3.out; simp; omega)).symm, by repeat (first | with_reducible exact HG.out | with_reducible exact Grew.refl _ | with_reducible assumption | with_reducible apply Grew.plus | with_reducible apply Grew.drewN | with_reducible apply Grew.drew | with_reducible apply Grew.alloc | with_reducible refine Grew.setCell ?_ (by simp [go_sem]; try omega) _)⟩
      · go_wp2
        go_ret
        exact ⟨ret_bool (H2.out (by rw [H.out]; simp; omega)).symm, by repeat (first | with_reducible exact HG.out | with_reducible exact Grew.refl _ | with_reducible assumption | with_reducible apply Grew.plus | with_reducible apply Grew.drewN | with_reducible apply Grew.drew | with_reducible apply Grew.alloc | with_reducible refine Grew.setCell ?_ (by simp [go_sem]; try omega) _)⟩
    · obtain rfl : k = 8 := by omega
      have H := Lib.hid (C8.valid_all a n h0 h8 hs)
      clear hs
      go_wp2
      go_ret
      exact ⟨ret_bool H.out.symm, by repeat (first | with_reducible exact HG.out | with_reducible exact Grew.refl _ | with_reducible assumption | with_reducible apply Grew.plus | with_reducible apply Grew.drewN | with_reducible apply Grew.drew | with_reducible apply Grew.alloc | with_reducible refine Grew.setCell ?_ (by simp [go_sem]; try omega) _)⟩

set_option maxHeartbeats 1000000 in
theorem rvalid_any (a : C8) (n : Int) (w : World) :
    Calls Tryd.prog 35 #[.agg a.cells, .int .i64 n] w fun e w' => e = .returned (.bool (a.valid n)) ∧ Grew w w' := by
  by_cases h0 : 0 ≤ n
  case neg =>
    have H : Hid (a.valid n = false) := by show a.valid n = false; simp only [C8.valid, h0, decide_false, Bool.false_and]
    go_enter Tryd.func35, Tryd.ntmps35
    go_wp2_with fail
    go_ret
    exact ⟨ret_bool H.out.symm, by repeat (first | with_reducible exact HG.out | with_reducible exact Grew.refl _ | with_reducible assumption | with_reducible apply Grew.plus | with_reducible apply Grew.drewN | with_reducible apply Grew.drew | with_reducible apply Grew.alloc | with_reducible refine Grew.setCell ?_ (by simp [go_sem]; try omega) _)⟩
  by_cases h8 : n ≤ 8
  case neg =>
    have H : Hid (a.valid n = false) := by show a.valid n = false; simp only [C8.valid, h8, decide_false, Bool.false_and, Bool.and_false]
    go_enter Tryd.func35, Tryd.ntmps35
    go_wp2_with fail
    go_ret
    exact ⟨ret_bool H.out.symm, by repeat (first | with_reducible exact HG.out | with_reducible exact Grew.refl _ | with_reducible assumption | with_reducible apply Grew.plus | with_reducible apply Grew.drewN | with_reducible apply Grew.drew | with_reducible apply Grew.alloc | with_reducible refine Grew.setCell ?_ (by simp [go_sem]; try omega) _)⟩
  go_enter Tryd.func35, Tryd.ntmps35
  go_wp2_with fail
  go_loop [5] (fun i => ∃ k : Nat, k ≤ 8 ∧ i = .int .i64 k ∧ a.validTo n k = true) (fun i => 8 - (intOf i).toNat)
  case atStart => exact ⟨0, by omega, rfl, rfl⟩
  case round =>
    obtain ⟨k, hk, rfl, hs⟩ := hrel
    by_cases hlt : k < 8
    · have hca := a.cells_get k hlt
      have H : Hid (a.validTo n (k + 1) = decide (0 ≤ a.get k ∧ ((k : Int) < n ∨ a.get k = 0))) := by show a.validTo n (k + 1) = _; rw [C8.validTo, hs, Bool.true_and]
      have H2 : Hid (a.validTo n (k + 1) = false → a.valid n = false) := C8.valid_over a n k hlt
      clear hs
      by_cases hneg : 0 ≤ a.get k
      · by_cases hkn : (k : Int) < n
        · go_wp2
          go_round
          case rel => exact ⟨k + 1, by omega, by go_num, by rw [H.out]; simp; omega⟩
          case measure => simp [intOf]; omega
        · generalize hz : (a.get k != 0) = z
          cases z
          · have hz0 : a.get k = 0 := by simpa using hz
            have H3 := Lib.hid hz0
            clear hz0
            go_wp2
            go_round
            case rel => exact ⟨k + 1, by omega, by go_num, by rw [H.out]; have := H3.out; simp; omega⟩
            case measure => simp [intOf]; omega
          · have hz0 : a.get k ≠ 0 := by simpa using hz
            have H3 := Lib.hid hz0
            clear hz0
            go_wp2
            go_ret
            exact ⟨ret_bool (H2.out (by rw [H.out]; have := H3.out; simp; omega)).symm, by repeat (first | with_reducible exact HG.out | with_reducible exact Grew.refl _ | with_reducible assumption | with_reducible apply Grew.plus | with_reducible apply Grew.drewN | with_reducible apply Grew.drew | with_reducible apply Grew.alloc | with_reducible refine Grew.setCell ?_ (by simp [go_sem]; try omega) _)⟩
      · go_wp2
        go_ret
        exact ⟨ret_bool (H2.out (by rw [H.out]; simp; omega)).symm, by repeat (first | with_reducible exact HG.out | with_reducible exact Grew.refl _ | with_reducible assumption | with_reducible apply Grew.plus | with_reducible apply Grew.drewN | with_reducible apply Grew.drew | with_reducible apply Grew.alloc | with_reducible refine Grew.setCell ?_ (by simp [go_sem]; try omega) _)⟩
    · obtain rfl : k = 8 := by omega
      have H := Lib.hid (C8.valid_all a n h0 h8 hs)
      clear hs
      go_wp2
      go_ret
      exact ⟨ret_bool H.out.symm, by repeat (first | with_reducible exact HG.out | with_reducible exact Grew.refl _ | with_reducible assumption | with_reducible apply Grew.plus | with_reducible apply Grew.drewN | with_reducible apply Grew.drew | with_reducible apply Grew.alloc | with_reducible refine Grew.setCell ?_ (by simp [go_sem]; try omega) _)⟩
end Go.Proofs.YtaaibekhoondcaaDoor
