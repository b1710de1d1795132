/- The walk of the law ClockReady: Ready of any clock and acts; who delivers what is Ready has it then, and nothing more. -/
import Derived.Test.YtaaibekhoondcaaDoorProg
import Derived.Test.YtaaibekhoondcaaDoorRdy
import Derived.Test.YtaaibekhoondcaaDoorTick
import Derived.Test.YtaaibekhoondcaaDoorOpen
import Derived.Deep.DeepCutAuto
namespace Go.Proofs.YtaaibekhoondcaaDoor
open Go.RowKit
set_option linter.unusedSimpArgs false
set_option linter.unusedVariables false

theorem ready_parts (a : C8) (x : ActD) (h : a.ready x = true) : 0 ≤ x.replica ∧ x.replica < 8 ∧ (a.get x.replica.toNat == 9223372036854775807) = false ∧ 1 ≤ x.number ∧ x.number = a.get x.replica.toNat + 1 ∧ a.covers x.clock = true := by
  simp only [C8.ready, C8.isIn, Bool.and_eq_true, decide_eq_true_eq, Bool.not_eq_true', beq_iff_eq] at h
  obtain ⟨⟨h1, h2⟩, h3, h4, h5, _, h6⟩ := h
  exact ⟨h1, h2, h3, h4, h5, h6⟩
theorem get_set (a : C8) (k j : Nat) (v : Int) (hk : k < 8) (hj : j < 8) : (a.set k v).get j = if j = k then v else a.get j := by
  match k, hk, j, hj with
  | 0, _, 0, _ | 0, _, 1, _ | 0, _, 2, _ | 0, _, 3, _ | 0, _, 4, _ | 0, _, 5, _ | 0, _, 6, _ | 0, _, 7, _ => rfl
  | 1, _, 0, _ | 1, _, 1, _ | 1, _, 2, _ | 1, _, 3, _ | 1, _, 4, _ | 1, _, 5, _ | 1, _, 6, _ | 1, _, 7, _ => rfl
  | 2, _, 0, _ | 2, _, 1, _ | 2, _, 2, _ | 2, _, 3, _ | 2, _, 4, _ | 2, _, 5, _ | 2, _, 6, _ | 2, _, 7, _ => rfl
  | 3, _, 0, _ | 3, _, 1, _ | 3, _, 2, _ | 3, _, 3, _ | 3, _, 4, _ | 3, _, 5, _ | 3, _, 6, _ | 3, _, 7, _ => rfl
  | 4, _, 0, _ | 4, _, 1, _ | 4, _, 2, _ | 4, _, 3, _ | 4, _, 4, _ | 4, _, 5, _ | 4, _, 6, _ | 4, _, 7, _ => rfl
  | 5, _, 0, _ | 5, _, 1, _ | 5, _, 2, _ | 5, _, 3, _ | 5, _, 4, _ | 5, _, 5, _ | 5, _, 6, _ | 5, _, 7, _ => rfl
  | 6, _, 0, _ | 6, _, 1, _ | 6, _, 2, _ | 6, _, 3, _ | 6, _, 4, _ | 6, _, 5, _ | 6, _, 6, _ | 6, _, 7, _ => rfl
  | 7, _, 0, _ | 7, _, 1, _ | 7, _, 2, _ | 7, _, 3, _ | 7, _, 4, _ | 7, _, 5, _ | 7, _, 6, _ | 7, _, 7, _ => rfl
theorem covers_set (a c : C8) (k : Nat) (v : Int) (hk : k < 8) (h : a.covers c = true) (hv : a.get k ≤ v) : (a.set k v).covers c = true :=
  C8.covers_of_get _ _ (fun j hj => by
    have := C8.covers_get a c h j hj
    rw [get_set a k j v hk hj]; split
    · rename_i e; subst e; omega
    · exact this)
theorem fits_set (a : C8) (k : Nat) (v : Int) (hk : k < 8) (ha : a.Fits) (h0 : -9223372036854775808 ≤ v) (h1 : v ≤ 9223372036854775807) : (a.set k v).Fits := fun j hj => by
  rw [get_set a k j v hk hj]; split
  · exact ⟨h0, h1⟩
  · exact ha j hj

/-- A slice that reads as a list of acts. -/
def ActsAt (w : World) (a : Option Addr) (xs : List ActD) : Prop :=
  0 < xs.length → ∃ b off, a = some ⟨b, off, none⟩ ∧ b < w.heap.size ∧ ∀ i (h : i < xs.length), w.cellsAt ⟨b, off + i * 13, none⟩ 13 = some (xs[i]'h).cells.toList
theorem ActsAt.grew {w w' : World} {a : Option Addr} {xs : List ActD} (h : ActsAt w a xs) (hg : Grew w w') : ActsAt w' a xs := by
  intro hn
  obtain ⟨b, off, ha, hb, hc⟩ := h hn
  obtain ⟨x, rfl⟩ := hg
  exact ⟨b, off, ha, by rw [World.size_plus]; omega, fun i hi => by rw [World.cellsAt_plus, hc i hi]; rfl⟩

set_option maxRecDepth 100000 in
set_option maxHeartbeats 4000000 in
theorem clockReady_walk (a : C8) (s : Option Addr) (xs : List ActD) (cap : Nat) (w : World) (ha : a.Fits) (hl : xs.length ≤ cap) (hm : cap ≤ 9223372036854775807) (hx : ActsAt w s xs) :
    Calls Tryd.prog 4 #[.agg a.cells, .slice s xs.length cap] w fun e w' => e = .returned (.bool true) ∧ Grew w w' := by
  have hX := Lib.hid hx
  clear hx
  go_enter Tryd.func4, Tryd.ntmps4
  go_wp2_with fail
  go_loopw [5] (fun i wr => ∃ (k : Nat) (h : C8), k ≤ xs.length ∧ i = .int .i64 k ∧ h.Fits ∧ Grew (w.alloc (.cells h.cells 24)) wr) (fun i _ => xs.length - (intOf i).toNat)
  case atStart => exact ⟨0, a, by omega, rfl, ha, Grew.refl _⟩
  case round =>
    obtain ⟨k, h, hk, rfl, hf, X, rfl⟩ := hrel
    have HF := Lib.hid hf
    clear hf
    by_cases hlt : k < xs.length
    · obtain ⟨b, off, rfl, hb, hc⟩ := hX.out (by omega)
      have hrow := hc k hlt
      clear hc
      generalize xs[k] = x at *
      have h3 : w.cell? ⟨b, off + k * 13 + 3, none⟩ = some (.int .i64 x.replica) := by
        rw [World.cellsAt_cell hrow 3 (by omega)]; cases x; rfl
      have h4 : w.cell? ⟨b, off + k * 13 + 4, none⟩ = some (.int .i64 x.number) := by
        rw [World.cellsAt_cell hrow 4 (by omega)]; cases x; rfl
      have h5 : w.cellsAt ⟨b, off + k * 13 + 5, none⟩ 8 = some x.clock.cells.toList := by
        rw [World.cellsAt_sub hrow 5 8 (by omega)]; cases x; rfl
      generalize hr : h.ready x = q
      cases q
      case false =>
        go_wp2
        refine wp_region_plus_tail 6 (by kernel_rfl) (by kernel_rfl) ?_
        simp only [List.take_succ_cons, List.take_zero, List.drop_succ_cons, List.drop_zero]
        repeat (go_big_quiet_step ((first | (go_at_call 16; exact Calls.grew_of (ready_any _ _ _ HF.out)))))
        refine wpQuiet_nil ?_
        intro _ hw'
        obtain ⟨nx, rfl⟩ := hw'
        go_wp2
        refine wp_region_plus (by kernel_rfl) (by kernel_rfl) ?_
        repeat (go_big_quiet_step ((first | (go_at_call 17; exact Calls.grew_of (rready_any _ _ _ HF.out)))))
        refine wpQuiet_nil ?_
        intro _ hw'
        obtain ⟨nx, rfl⟩ := hw'
        go_wp2
        go_roundw
        case measure => simp [intOf]; omega
        case rel => exact ⟨k + 1, h, by omega, by go_num, HF.out, by repeat (first | with_reducible exact Grew.refl _ | with_reducible assumption | with_reducible apply Grew.plus | with_reducible apply Grew.drewN | with_reducible apply Grew.drew | with_reducible apply Grew.alloc | with_reducible refine Grew.setCell ?_ (by simp [go_sem]; try omega) _)⟩
      case true =>
        obtain ⟨p0, p8, pm, p1, pn, pc⟩ := ready_parts h x hr
        have hhas : h.has x.replica x.number = false := by
          simp only [C8.has, Bool.and_eq_false_iff, decide_eq_false_iff_not]; omega
        have CH : Hid (∀ w, Calls Tryd.prog 18 #[.agg h.cells, .int .i64 x.replica, .int .i64 x.number] w fun e w' => e = .returned (.bool false) ∧ Grew w w') := fun w => by
          have := has_any h x.replica x.number w
          rw [hhas] at this
          exact this
        have hfit := HF.out x.replica.toNat (by omega)
        have hge := get_set h x.replica.toNat x.replica.toNat (h.get x.replica.toNat + 1) (by omega) (by omega)
        simp only [if_true] at hge
        rw [← pn] at hge
        have hcov := covers_set h x.clock x.replica.toNat (h.get x.replica.toNat + 1) (by omega) pc (by omega)
        have FN : Hid ((h.set x.replica.toNat (h.get x.replica.toNat + 1)).Fits) := fits_set h x.replica.toNat _ (by omega) HF.out (by omega) (by have := beq_eq_false_iff_ne.1 pm; omega)
        rw [← pn] at hcov FN
        have PN := Lib.hid pn
        have hr8 : x.replica.toNat < 8 := by omega
        have hgt : (0 : Int) < x.number := by omega
        clear pn hfit
        go_wp2
        refine wp_region_plus_tail 6 (by kernel_rfl) (by kernel_rfl) ?_
        simp only [List.take_succ_cons, List.take_zero, List.drop_succ_cons, List.drop_zero]
        repeat (go_big_quiet_step ((first | (go_at_call 16; exact Calls.grew_of (ready_any _ _ _ HF.out)))))
        refine wpQuiet_nil ?_
        intro _ hw'
        obtain ⟨nx, rfl⟩ := hw'
        go_wp2
        refine wp_region_plus (by kernel_rfl) (by kernel_rfl) ?_
        repeat (go_big_quiet_step ((first | (go_at_call 17; exact Calls.grew_of (rready_any _ _ _ HF.out)))))
        refine wpQuiet_nil ?_
        intro _ hw'
        obtain ⟨nx, rfl⟩ := hw'
        go_wp2
        refine wp_region_plus (by kernel_rfl) (by kernel_rfl) ?_
        repeat (go_big_quiet_step ((first | (go_at_call 18; exact Calls.grew_of (CH.out _)))))
        refine wpQuiet_nil ?_
        intro _ hw'
        obtain ⟨nx, rfl⟩ := hw'
        go_wp2_with fail
        refine (tick_ok _ _ _ HF.out p0 p8 pm).mono ?_
        rw [← PN.out]
        rintro e w' ⟨rfl, gx, rfl⟩
        go_wp2
        refine wp_region_plus (by kernel_rfl) (by kernel_rfl) ?_
        repeat (go_big_quiet_step ((first | (go_at_call 20; exact Calls.grew_of (covers_any _ _ _)))))
        refine wpQuiet_nil ?_
        intro _ hw'
        obtain ⟨nx, rfl⟩ := hw'
        go_wp2
        go_roundw
        case measure => simp [intOf]; omega
        case rel => exact ⟨k + 1, _, by omega, by go_num, FN.out, by repeat (first | with_reducible exact Grew.refl _ | with_reducible assumption | with_reducible apply Grew.plus | with_reducible apply Grew.drewN | with_reducible apply Grew.drew | with_reducible apply Grew.alloc | with_reducible refine Grew.setCell ?_ (by simp [go_sem]; try omega) _)⟩
    · obtain rfl : k = xs.length := by omega
      go_wp2_with (go_at_call 15; refine (wakes3 _).mono ?_; rintro e w' ⟨rfl, gx, rfl⟩)
      go_ret
      exact ⟨rfl, by repeat (first | with_reducible exact Grew.refl _ | with_reducible assumption | with_reducible apply Grew.plus | with_reducible apply Grew.drewN | with_reducible apply Grew.drew | with_reducible apply Grew.alloc | with_reducible refine Grew.setCell ?_ (by simp [go_sem]; try omega) _)⟩
end Go.Proofs.YtaaibekhoondcaaDoor
