/- Walks: Most and Least of a list of clocks, the program's and the reference's. -/
import Derived.Test.YtaaibekhoondcaaDoorProg
import Derived.Test.YtaaibekhoondcaaDoorClkW
import Derived.Test.YtaaibekhoondcaaDoorTail
namespace Go.Proofs.YtaaibekhoondcaaDoor
open Go.RowKit
set_option linter.unusedSimpArgs false
set_option linter.unusedVariables false

/-- A slice that reads as a list of clocks. -/
def ClksAt (w : World) (a : Option Addr) (xs : List C8) : Prop :=
  0 < xs.length → ∃ b off, a = some ⟨b, off, none⟩ ∧ b < w.heap.size ∧ ∀ i, i < xs.length → w.cellsAt ⟨b, off + i * 8, none⟩ 8 = some (xs.getD i C8.zero).cells.toList
theorem ClksAt.grew {w w' : World} {a : Option Addr} {xs : List C8} (h : ClksAt w a xs) (hg : Grew w w') : ClksAt w' a xs := by
  intro hn
  obtain ⟨b, off, ha, hb, hc⟩ := h hn
  obtain ⟨x, rfl⟩ := hg
  exact ⟨b, off, ha, by rw [World.size_plus]; omega, fun i hi => by rw [World.cellsAt_plus, hc i hi]; rfl⟩

set_option maxRecDepth 100000 in
set_option maxHeartbeats 1000000 in
theorem folded_merge (a : Option Addr) (xs : List C8) (cap : Nat) (w : World) (hl : xs.length ≤ cap) (hm : cap ≤ 9223372036854775807) (hx : ClksAt w a xs) :
    Calls Tryd.prog 58 #[.slice a xs.length cap, .func (.func 24) #[] #[]] w fun e w' => e = .returned (.agg (C8.folded C8.merge xs).cells) ∧ Grew w w' := by
  cases xs with
  | nil =>
    clear hx
    go_enter Tryd.func58, Tryd.ntmps58
    go_wp2
    exact bodyPost_ret (v := .agg C8.zero.cells) (by simp [results, Tryd.results58, go_sem, C8.zero, C8.cells]) rfl ⟨rfl, by repeat (first | with_reducible exact HG.out | with_reducible exact Grew.refl _ | with_reducible assumption | with_reducible apply Grew.plus | with_reducible apply Grew.drewN | with_reducible apply Grew.drew | with_reducible apply Grew.alloc | with_reducible refine Grew.setCell ?_ (by simp [go_sem]; try omega) _)⟩
  | cons x l =>
    obtain ⟨b, off, rfl, hb, hc⟩ := hx (by simp)
    have h0 := hc 0 (by simp)
    simp only [Nat.zero_mul, Nat.add_zero, List.getD_cons_zero] at h0
    have hC := Lib.hid hc
    clear hx hc
    simp only [List.length_cons] at *
    have hne : (((l.length : Int) + 1) == 0) = false := by simp; omega
    by_cases hcap : cap = 1
    · subst hcap
      obtain rfl : l = [] := by cases l with | nil => rfl | cons y m => simp at hl
      simp only [List.length_nil] at *
      clear hne
      go_enter Tryd.func58, Tryd.ntmps58
      go_wp2_with fail
      refine wp_loop_rounds 1 ?_
      rw [rounds_succ]
      go_wp2
      exact bodyPost_ret (v := .agg (C8.folded C8.merge [x]).cells) (by simp [results, Tryd.results58, go_sem, C8.folded]) rfl ⟨rfl, by repeat (first | with_reducible exact HG.out | with_reducible exact Grew.refl _ | with_reducible assumption | with_reducible apply Grew.plus | with_reducible apply Grew.drewN | with_reducible apply Grew.drew | with_reducible apply Grew.alloc | with_reducible refine Grew.setCell ?_ (by simp [go_sem]; try omega) _)⟩
    · have hcl : 1 < cap := by omega
      go_enter Tryd.func58, Tryd.ntmps58
      go_wp2
      go_loopw [18] (fun i wr => ∃ k : Nat, k ≤ l.length ∧ i = .int .i64 k ∧ Grew ((w.alloc (.cells C8.zero.cells 24)).alloc (.cells ((l.take k).foldl C8.merge x).cells 24)) wr) (fun i _ => l.length - (intOf i).toNat)
      case atStart => exact ⟨0, by omega, rfl, Grew.refl _⟩
      case round =>
        obtain ⟨k, hk, rfl, X, rfl⟩ := hrel
        by_cases hlt : k < l.length
        · have hk1 := hC.out (k + 1) (by omega)
          rw [show off + (k + 1) * 8 = off + 8 + k * 8 by omega, List.getD_cons_succ] at hk1
          have HF := Lib.hid (C8.foldl_take C8.merge x l k hlt)
          go_wp2_with (go_at_call 24; refine (merge_any _ _ _).mono ?_; rintro e w' ⟨rfl, gx, rfl⟩)
          go_roundw
          case measure => simp [intOf]; omega
          case rel => exact ⟨k + 1, by omega, by go_num, by rw [HF.out]; exact (by repeat (first | with_reducible exact HG.out | with_reducible exact Grew.refl _ | with_reducible assumption | with_reducible apply Grew.plus | with_reducible apply Grew.drewN | with_reducible apply Grew.drew | with_reducible apply Grew.alloc | with_reducible refine Grew.setCell ?_ (by simp [go_sem]; try omega) _))⟩
        · obtain rfl : k = l.length := by omega
          go_wp2
          exact bodyPost_ret (v := .agg (C8.folded C8.merge (x :: l)).cells) (by simp [results, Tryd.results58, go_sem, C8.folded]) rfl ⟨rfl, by repeat (first | with_reducible exact HG.out | with_reducible exact Grew.refl _ | with_reducible assumption | with_reducible apply Grew.plus | with_reducible apply Grew.drewN | with_reducible apply Grew.drew | with_reducible apply Grew.alloc | with_reducible refine Grew.setCell ?_ (by simp [go_sem]; try omega) _)⟩
set_option maxRecDepth 100000 in
set_option maxHeartbeats 1000000 in
theorem folded_meet (a : Option Addr) (xs : List C8) (cap : Nat) (w : World) (hl : xs.length ≤ cap) (hm : cap ≤ 9223372036854775807) (hx : ClksAt w a xs) :
    Calls Tryd.prog 58 #[.slice a xs.length cap, .func (.func 26) #[] #[]] w fun e w' => e = .returned (.agg (C8.folded C8.meet xs).cells) ∧ Grew w w' := by
  cases xs with
  | nil =>
    clear hx
    go_enter Tryd.func58, Tryd.ntmps58
    go_wp2
    exact bodyPost_ret (v := .agg C8.zero.cells) (by simp [results, Tryd.results58, go_sem, C8.zero, C8.cells]) rfl ⟨rfl, by repeat (first | with_reducible exact HG.out | with_reducible exact Grew.refl _ | with_reducible assumption | with_reducible apply Grew.plus | with_reducible apply Grew.drewN | with_reducible apply Grew.drew | with_reducible apply Grew.alloc | with_reducible refine Grew.setCell ?_ (by simp [go_sem]; try omega) _)⟩
  | cons x l =>
    obtain ⟨b, off, rfl, hb, hc⟩ := hx (by simp)
    have h0 := hc 0 (by simp)
    simp only [Nat.zero_mul, Nat.add_zero, List.getD_cons_zero] at h0
    have hC := Lib.hid hc
    clear hx hc
    simp only [List.length_cons] at *
    have hne : (((l.length : Int) + 1) == 0) = false := by simp; omega
    by_cases hcap : cap = 1
    · subst hcap
      obtain rfl : l = [] := by cases l with | nil => rfl | cons y m => simp at hl
      simp only [List.length_nil] at *
      clear hne
      go_enter Tryd.func58, Tryd.ntmps58
      go_wp2_with fail
      refine wp_loop_rounds 1 ?_
      rw [rounds_succ]
      go_wp2
      exact bodyPost_ret (v := .agg (C8.folded C8.meet [x]).cells) (by simp [results, Tryd.results58, go_sem, C8.folded]) rfl ⟨rfl, by repeat (first | with_reducible exact HG.out | with_reducible exact Grew.refl _ | with_reducible assumption | with_reducible apply Grew.plus | with_reducible apply Grew.drewN | with_reducible apply Grew.drew | with_reducible apply Grew.alloc | with_reducible refine Grew.setCell ?_ (by simp [go_sem]; try omega) _)⟩
    · have hcl : 1 < cap := by omega
      go_enter Tryd.func58, Tryd.ntmps58
      go_wp2
      go_loopw [18] (fun i wr => ∃ k : Nat, k ≤ l.length ∧ i = .int .i64 k ∧ Grew ((w.alloc (.cells C8.zero.cells 24)).alloc (.cells ((l.take k).foldl C8.meet x).cells 24)) wr) (fun i _ => l.length - (intOf i).toNat)
      case atStart => exact ⟨0, by omega, rfl, Grew.refl _⟩
      case round =>
        obtain ⟨k, hk, rfl, X, rfl⟩ := hrel
        by_cases hlt : k < l.length
        · have hk1 := hC.out (k + 1) (by omega)
          rw [show off + (k + 1) * 8 = off + 8 + k * 8 by omega, List.getD_cons_succ] at hk1
          have HF := Lib.hid (C8.foldl_take C8.meet x l k hlt)
          go_wp2_with (go_at_call 26; refine (meet_any _ _ _).mono ?_; rintro e w' ⟨rfl, gx, rfl⟩)
          go_roundw
          case measure => simp [intOf]; omega
          case rel => exact ⟨k + 1, by omega, by go_num, by rw [HF.out]; exact (by repeat (first | with_reducible exact HG.out | with_reducible exact Grew.refl _ | with_reducible assumption | with_reducible apply Grew.plus | with_reducible apply Grew.drewN | with_reducible apply Grew.drew | with_reducible apply Grew.alloc | with_reducible refine Grew.setCell ?_ (by simp [go_sem]; try omega) _))⟩
        · obtain rfl : k = l.length := by omega
          go_wp2
          exact bodyPost_ret (v := .agg (C8.folded C8.meet (x :: l)).cells) (by simp [results, Tryd.results58, go_sem, C8.folded]) rfl ⟨rfl, by repeat (first | with_reducible exact HG.out | with_reducible exact Grew.refl _ | with_reducible assumption | with_reducible apply Grew.plus | with_reducible apply Grew.drewN | with_reducible apply Grew.drew | with_reducible apply Grew.alloc | with_reducible refine Grew.setCell ?_ (by simp [go_sem]; try omega) _)⟩

set_option maxHeartbeats 1000000 in
theorem Most_any (a : Option Addr) (xs : List C8) (cap : Nat) (w : World) (hl : xs.length ≤ cap) (hm : cap ≤ 9223372036854775807) (hx : ClksAt w a xs) :
    Calls Tryd.prog 28 #[.slice a xs.length cap] w fun e w' => e = .returned (.agg (C8.folded C8.merge xs).cells) ∧ Grew w w' := by
  have hX := Lib.hid hx
  clear hx
  go_enter Tryd.func28, Tryd.ntmps28
  go_wp2_with (go_at_call 58; refine (folded_merge a xs cap _ hl hm (ClksAt.grew hX.out (by repeat (first | with_reducible exact HG.out | with_reducible exact Grew.refl _ | with_reducible assumption | with_reducible apply Grew.plus | with_reducible apply Grew.drewN | with_reducible apply Grew.drew | with_reducible apply Grew.alloc | with_reducible refine Grew.setCell ?_ (by simp [go_sem]; try omega) _)))).mono ?_; rintro e w' ⟨rfl, gx, rfl⟩)
  exact bodyPost_ret (v := .agg (C8.folded C8.merge xs).cells) (by simp [results, Tryd.results28, go_sem]) rfl ⟨rfl, by repeat (first | with_reducible exact HG.out | with_reducible exact Grew.refl _ | with_reducible assumption | with_reducible apply Grew.plus | with_reducible apply Grew.drewN | with_reducible apply Grew.drew | with_reducible apply Grew.alloc | with_reducible refine Grew.setCell ?_ (by simp [go_sem]; try omega) _)⟩

set_option maxRecDepth 100000 in
set_option maxHeartbeats 1000000 in
theorem rGreatest_any (a : Option Addr) (xs : List C8) (cap : Nat) (w : World) (hl : xs.length ≤ cap) (hm : cap ≤ 9223372036854775807) (hx : ClksAt w a xs) :
    Calls Tryd.prog 30 #[.slice a xs.length cap] w fun e w' => e = .returned (.agg (C8.folded C8.merge xs).cells) ∧ Grew w w' := by
  have hX := Lib.hid hx
  clear hx
  go_enter Tryd.func30, Tryd.ntmps30
  go_wp2_with fail
  go_loopw [4] (fun i wr => ∃ k : Nat, k ≤ xs.length ∧ i = .int .i64 k ∧ Grew ((w.alloc (.cells C8.zero.cells 24)).alloc (.cells (C8.folded C8.merge (xs.take k)).cells 24)) wr) (fun i _ => xs.length - (intOf i).toNat)
  case atStart => exact ⟨0, by omega, rfl, Grew.refl _⟩
  case round =>
    obtain ⟨k, hk, rfl, X, rfl⟩ := hrel
    by_cases hlt : k < xs.length
    · obtain ⟨b, off, rfl, hb, hc⟩ := hX.out (by omega)
      have hk1 := hc k hlt
      have hC := Lib.hid hc
      clear hc
      by_cases h0 : k = 0
      · subst h0
        simp only [Nat.zero_mul, Nat.add_zero] at hk1
        have HF := Lib.hid (C8.folded_one C8.merge xs hlt)
        have hs : xs[0].merge xs[0] = xs[0] := C8.merge_self _
        go_wp2
        refine wp_region_plus_tail 6 (by kernel_rfl) (by kernel_rfl) ?_
        simp only [List.take_succ_cons, List.take_zero, List.drop_succ_cons, List.drop_zero]
        repeat (go_big_quiet_step ((first | (go_at_call 25; exact Calls.grew_of (rmerge_any _ _ _)))))
        refine wpQuiet_nil ?_
        intro _ hw'
        obtain ⟨nx, rfl⟩ := hw'
        go_wp2
        go_roundw
        case measure => simp [intOf]; omega
        case rel => exact ⟨1, by omega, by go_num, by rw [HF.out]; exact (by repeat (first | with_reducible exact HG.out | with_reducible exact Grew.refl _ | with_reducible assumption | with_reducible apply Grew.plus | with_reducible apply Grew.drewN | with_reducible apply Grew.drew | with_reducible apply Grew.alloc | with_reducible refine Grew.setCell ?_ (by simp [go_sem]; try omega) _))⟩
      · have HF := Lib.hid (C8.folded_take C8.merge xs k (by omega) hlt)
        have h0' : ((k : Int) == 0) = false := by simp; omega
        go_wp2
        refine wp_region_plus_tail 6 (by kernel_rfl) (by kernel_rfl) ?_
        simp only [List.take_succ_cons, List.take_zero, List.drop_succ_cons, List.drop_zero]
        repeat (go_big_quiet_step ((first | (go_at_call 25; exact Calls.grew_of (rmerge_any _ _ _)))))
        refine wpQuiet_nil ?_
        intro _ hw'
        obtain ⟨nx, rfl⟩ := hw'
        go_wp2
        go_roundw
        case measure => simp [intOf]; omega
        case rel => exact ⟨k + 1, by omega, by go_num, by rw [HF.out]; exact (by repeat (first | with_reducible exact HG.out | with_reducible exact Grew.refl _ | with_reducible assumption | with_reducible apply Grew.plus | with_reducible apply Grew.drewN | with_reducible apply Grew.drew | with_reducible apply Grew.alloc | with_reducible refine Grew.setCell ?_ (by simp [go_sem]; try omega) _))⟩
    · obtain rfl : k = xs.length := by omega
      go_wp2
      exact bodyPost_ret (v := .agg (C8.folded C8.merge xs).cells) (by simp [results, Tryd.results30, go_sem, C8.folded]) rfl ⟨rfl, by repeat (first | with_reducible exact HG.out | with_reducible exact Grew.refl _ | with_reducible assumption | with_reducible apply Grew.plus | with_reducible apply Grew.drewN | with_reducible apply Grew.drew | with_reducible apply Grew.alloc | with_reducible refine Grew.setCell ?_ (by simp [go_sem]; try omega) _)⟩

set_option maxHeartbeats 1000000 in
theorem Least_any (a : Option Addr) (xs : List C8) (cap : Nat) (w : World) (hl : xs.length ≤ cap) (hm : cap ≤ 9223372036854775807) (hx : ClksAt w a xs) :
    Calls Tryd.prog 29 #[.slice a xs.length cap] w fun e w' => e = .returned (.agg (C8.folded C8.meet xs).cells) ∧ Grew w w' := by
  have hX := Lib.hid hx
  clear hx
  go_enter Tryd.func29, Tryd.ntmps29
  go_wp2_with (go_at_call 58; refine (folded_meet a xs cap _ hl hm (ClksAt.grew hX.out (by repeat (first | with_reducible exact HG.out | with_reducible exact Grew.refl _ | with_reducible assumption | with_reducible apply Grew.plus | with_reducible apply Grew.drewN | with_reducible apply Grew.drew | with_reducible apply Grew.alloc | with_reducible refine Grew.setCell ?_ (by simp [go_sem]; try omega) _)))).mono ?_; rintro e w' ⟨rfl, gx, rfl⟩)
  exact bodyPost_ret (v := .agg (C8.folded C8.meet xs).cells) (by simp [results, Tryd.results29, go_sem]) rfl ⟨rfl, by repeat (first | with_reducible exact HG.out | with_reducible exact Grew.refl _ | with_reducible assumption | with_reducible apply Grew.plus | with_reducible apply Grew.drewN | with_reducible apply Grew.drew | with_reducible apply Grew.alloc | with_reducible refine Grew.setCell ?_ (by simp [go_sem]; try omega) _)⟩

set_option maxRecDepth 100000 in
set_option maxHeartbeats 1000000 in
theorem rLeast_any (a : Option Addr) (xs : List C8) (cap : Nat) (w : World) (hl : xs.length ≤ cap) (hm : cap ≤ 9223372036854775807) (hx : ClksAt w a xs) :
    Calls Tryd.prog 31 #[.slice a xs.length cap] w fun e w' => e = .returned (.agg (C8.folded C8.meet xs).cells) ∧ Grew w w' := by
  have hX := Lib.hid hx
  clear hx
  go_enter Tryd.func31, Tryd.ntmps31
  go_wp2_with fail
  go_loopw [4] (fun i wr => ∃ k : Nat, k ≤ xs.length ∧ i = .int .i64 k ∧ Grew ((w.alloc (.cells C8.zero.cells 24)).alloc (.cells (C8.folded C8.meet (xs.take k)).cells 24)) wr) (fun i _ => xs.length - (intOf i).toNat)
  case atStart => exact ⟨0, by omega, rfl, Grew.refl _⟩
  case round =>
    obtain ⟨k, hk, rfl, X, rfl⟩ := hrel
    by_cases hlt : k < xs.length
    · obtain ⟨b, off, rfl, hb, hc⟩ := hX.out (by omega)
      have hk1 := hc k hlt
      have hC := Lib.hid hc
      clear hc
      by_cases h0 : k = 0
      · subst h0
        simp only [Nat.zero_mul, Nat.add_zero] at hk1
        have HF := Lib.hid (C8.folded_one C8.meet xs hlt)
        have hs : xs[0].meet xs[0] = xs[0] := C8.meet_self _
        go_wp2
        refine wp_region_plus_tail 6 (by kernel_rfl) (by kernel_rfl) ?_
        simp only [List.take_succ_cons, List.take_zero, List.drop_succ_cons, List.drop_zero]
        repeat (go_big_quiet_step ((first | (go_at_call 27; exact Calls.grew_of (rmeet_any _ _ _)))))
        refine wpQuiet_nil ?_
        intro _ hw'
        obtain ⟨nx, rfl⟩ := hw'
        go_wp2
        go_roundw
        case measure => simp [intOf]; omega
        case rel => exact ⟨1, by omega, by go_num, by rw [HF.out]; exact (by repeat (first | with_reducible exact HG.out | with_reducible exact Grew.refl _ | with_reducible assumption | with_reducible apply Grew.plus | with_reducible apply Grew.drewN | with_reducible apply Grew.drew | with_reducible apply Grew.alloc | with_reducible refine Grew.setCell ?_ (by simp [go_sem]; try omega) _))⟩
      · have HF := Lib.hid (C8.folded_take C8.meet xs k (by omega) hlt)
        have h0' : ((k : Int) == 0) = false := by simp; omega
        go_wp2
        refine wp_region_plus_tail 6 (by kernel_rfl) (by kernel_rfl) ?_
        simp only [List.take_succ_cons, List.take_zero, List.drop_succ_cons, List.drop_zero]
        repeat (go_big_quiet_step ((first | (go_at_call 27; exact Calls.grew_of (rmeet_any _ _ _)))))
        refine wpQuiet_nil ?_
        intro _ hw'
        obtain ⟨nx, rfl⟩ := hw'
        go_wp2
        go_roundw
        case measure => simp [intOf]; omega
        case rel => exact ⟨k + 1, by omega, by go_num, by rw [HF.out]; exact (by repeat (first | with_reducible exact HG.out | with_reducible exact Grew.refl _ | with_reducible assumption | with_reducible apply Grew.plus | with_reducible apply Grew.drewN | with_reducible apply Grew.drew | with_reducible apply Grew.alloc | with_reducible refine Grew.setCell ?_ (by simp [go_sem]; try omega) _))⟩
    · obtain rfl : k = xs.length := by omega
      go_wp2
      exact bodyPost_ret (v := .agg (C8.folded C8.meet xs).cells) (by simp [results, Tryd.results31, go_sem, C8.folded]) rfl ⟨rfl, by repeat (first | with_reducible exact HG.out | with_reducible exact Grew.refl _ | with_reducible assumption | with_reducible apply Grew.plus | with_reducible apply Grew.drewN | with_reducible apply Grew.drew | with_reducible apply Grew.alloc | with_reducible refine Grew.setCell ?_ (by simp [go_sem]; try omega) _)⟩
end Go.Proofs.YtaaibekhoondcaaDoor
