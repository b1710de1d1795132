/- Walks: may acts be those of a log? The program's and the document's answer. -/
import Derived.Test.YtofijhejpgjopaaGreatDoorActL
import Derived.Test.YtofijhejpgjopaaGreatDoorRdy
namespace Go
/-- May these be a log's acts, behind what a clock has? -/
def causalF : C8 → List ActD → Bool
  | _, [] => true
  | h, x :: xs => if h.ready x then causalF (h.set x.replica.toNat x.number) xs else false
theorem ready_parts' (a : C8) (x : ActD) (h : a.ready x = true) : 0 ≤ x.replica ∧ x.replica < 8 ∧ (a.get x.replica.toNat == 9223372036854775807) = false ∧ 1 ≤ x.number ∧ x.number = a.get x.replica.toNat + 1 := by
  simp only [C8.ready, C8.isIn, Bool.and_eq_true, decide_eq_true_eq, Bool.not_eq_true', beq_iff_eq] at h
  obtain ⟨⟨h1, h2⟩, h3, h4, h5, _, h6⟩ := h
  exact ⟨h1, h2, h3, h4, h5⟩
theorem fits_set' (a : C8) (k : Nat) (v : Int) (hk : k < 8) (ha : a.Fits) (h0 : -9223372036854775808 ≤ v) (h1 : v ≤ 9223372036854775807) : (a.set k v).Fits := fun j hj => by
  rw [C8.get_set a k j v hk hj]; split
  · exact ⟨h0, h1⟩
  · exact ha j hj
theorem causal_step (h : C8) (l : List ActD) (k : Nat) (hk : k < l.length) : causalF h (l.drop k) = if h.ready l[k] then causalF (h.set l[k].replica.toNat l[k].number) (l.drop (k + 1)) else false := by
  rw [List.drop_eq_getElem_cons hk, causalF]
theorem zero_fits : C8.Fits ⟨0, 0, 0, 0, 0, 0, 0, 0⟩ := fun j hj => by match j, hj with | 0, _ | 1, _ | 2, _ | 3, _ | 4, _ | 5, _ | 6, _ | 7, _ => exact ⟨by decide, by decide⟩
end Go
namespace Go.Proofs.YtofijhejpgjopaaGreatDoor
open Go.RowKit
set_option linter.unusedSimpArgs false
set_option linter.unusedVariables false

set_option maxRecDepth 100000 in
set_option maxHeartbeats 2000000 in
theorem causal_any (l : List ActD) (a : Option Addr) (cap : Nat) (w : World) (ha : CellsIn w a (l.flatMap actRow)) (hl : l.length ≤ 1000000) :
    Calls Tryz.prog 7 #[.slice a l.length cap] w fun e w' => e = .returned (.bool (causalF ⟨0, 0, 0, 0, 0, 0, 0, 0⟩ l)) ∧ Grew w w' := by
  have HA := Lib.hid ha
  clear ha
  go_enter Tryz.func7, Tryz.ntmps7
  go_wp2_with fail
  go_loopw [8] (fun s8 wr => ∃ (k : Nat) (h : C8), k ≤ l.length ∧ s8 = .int .i64 k ∧ wr.heap[w.heap.size]? = some (.cells h.cells 50 (0, 0)) ∧ h.Fits ∧ causalF ⟨0, 0, 0, 0, 0, 0, 0, 0⟩ l = causalF h (l.drop k) ∧ Grew w wr) (fun s8 _ => l.length - (intOf s8).toNat)
  case atStart => exact ⟨0, ⟨0, 0, 0, 0, 0, 0, 0, 0⟩, by omega, rfl, heap_alloc_at _ _ _ rfl, zero_fits, rfl, by repeat (first | with_reducible exact HG.out | with_reducible exact Grew.refl _ | with_reducible assumption | with_reducible apply Grew.plus | with_reducible apply Grew.drewN | with_reducible apply Grew.drew | with_reducible apply Grew.alloc | with_reducible refine Grew.setCell ?_ (by simp [go_sem]; try omega) _)⟩
  case round =>
    obtain ⟨k, h, hk, rfl, hb, hf, hc, hg⟩ := hrel
    have HF := Lib.hid hf
    have HC := Lib.hid hc
    have HB := Lib.hid hb
    have HG := Lib.hid hg
    clear hf hc
    by_cases hlt : k < l.length
    · obtain ⟨b, off, rfl, hbl, hrow⟩ := CellsIn.rowAt actRow 13 actRow_len (by omega) HA.out (by omega)
      have q := cellsAt_later hg (hrow k hlt) hbl
      have hst := Lib.hid (causal_step h l k hlt)
      have c8 := World.cellsAt_block hb 8 (by rw [C8.size_cells'])
      have hBs : w.heap.size < wr.heap.size := (Array.getElem?_eq_some_iff.1 hb).1
      clear hrow hb hg
      generalize l[k] = x at *
      simp only [actRow] at q
      generalize hr : h.ready x = r
      have HR := Lib.hid hr
      have RC := Lib.hid (fun W => by have := ready_any h x W HF.out; rw [hr] at this; exact this)
      clear hr
      cases r
      case false =>
        go_wp2_with (go_at_call 29; refine (RC.out _).mono ?_; rintro e w' ⟨rfl, gx, rfl⟩)
        go_ret
        exact ⟨ret_bool (by rw [HC.out, hst.out, HR.out]; rfl), HG.out.trans (by repeat (first | with_reducible exact HG.out | with_reducible exact Grew.refl _ | with_reducible assumption | with_reducible apply Grew.plus | with_reducible apply Grew.drewN | with_reducible apply Grew.drew | with_reducible apply Grew.alloc | with_reducible refine Grew.setCell ?_ (by simp [go_sem]; try omega) _))⟩
      case true =>
        obtain ⟨p0, p8, pm, p1, pn⟩ := ready_parts' h x HR.out
        have hr8 : x.replica.toNat < 8 := by omega
        have hfit := HF.out x.replica.toNat hr8
        have FN : Hid ((h.set x.replica.toNat x.number).Fits) := fits_set' h x.replica.toNat _ hr8 HF.out (by omega) (by have := beq_eq_false_iff_ne.1 pm; omega)
        obtain ⟨n0, f0⟩ : wr.cell? ⟨w.heap.size, x.replica.toNat, none⟩ = some (.int .i64 (h.get x.replica.toNat)) ∧ wr.frozen? ⟨w.heap.size, x.replica.toNat, none⟩ = false := World.own_cell HB.out _ _ (h.cells_get _ hr8)
        clear pm pn hfit
        go_wp2_with (go_at_call 29; refine (RC.out _).mono ?_; rintro e w' ⟨rfl, gx, rfl⟩)
        have s1 := World.own_set2 HB.out x.replica.toNat (.int .i64 x.number) (h.set x.replica.toNat x.number).cells (C8.cells_set _ _ _ hr8)
        have s3 : Grew w (wr.setCell ⟨w.heap.size, x.replica.toNat, none⟩ (.int .i64 x.number)) := HG.out.setCell (Nat.le_refl _) _
        generalize wr.setCell ⟨w.heap.size, x.replica.toNat, none⟩ (.int .i64 x.number) = wq at *
        go_roundw
        case rel => exact ⟨k + 1, _, by omega, by go_num, Grew.heap (show Grew wq _ from by repeat (first | with_reducible exact HG.out | with_reducible exact Grew.refl _ | with_reducible assumption | with_reducible apply Grew.plus | with_reducible apply Grew.drewN | with_reducible apply Grew.drew | with_reducible apply Grew.alloc | with_reducible refine Grew.setCell ?_ (by simp [go_sem]; try omega) _)) s1, FN.out, by rw [HC.out, hst.out, HR.out]; rfl, s3.trans (by repeat (first | with_reducible exact HG.out | with_reducible exact Grew.refl _ | with_reducible assumption | with_reducible apply Grew.plus | with_reducible apply Grew.drewN | with_reducible apply Grew.drew | with_reducible apply Grew.alloc | with_reducible refine Grew.setCell ?_ (by simp [go_sem]; try omega) _))⟩
        case measure => simp [intOf]; omega
    · obtain rfl : k = l.length := by omega
      clear hb hg
      go_wp2_with fail
      go_ret
      exact ⟨ret_bool (by rw [HC.out, List.drop_length]; rfl), HG.out⟩

set_option maxRecDepth 100000 in
set_option maxHeartbeats 2000000 in
theorem rcausal_any (l : List ActD) (a : Option Addr) (cap : Nat) (w : World) (ha : CellsIn w a (l.flatMap actRow)) (hl : l.length ≤ 1000000) :
    Calls Tryz.prog 9 #[.slice a l.length cap] w fun e w' => e = .returned (.bool (causalF ⟨0, 0, 0, 0, 0, 0, 0, 0⟩ l)) ∧ Grew w w' := by
  have HA := Lib.hid ha
  clear ha
  go_enter Tryz.func9, Tryz.ntmps9
  go_wp2_with fail
  go_loopw [4] (fun s8 wr => ∃ (k : Nat) (h : C8), k ≤ l.length ∧ s8 = .int .i64 k ∧ wr.heap[w.heap.size]? = some (.cells h.cells 50 (0, 0)) ∧ h.Fits ∧ causalF ⟨0, 0, 0, 0, 0, 0, 0, 0⟩ l = causalF h (l.drop k) ∧ Grew w wr) (fun s8 _ => l.length - (intOf s8).toNat)
  case atStart => exact ⟨0, ⟨0, 0, 0, 0, 0, 0, 0, 0⟩, by omega, rfl, heap_alloc_at _ _ _ rfl, zero_fits, rfl, by repeat (first | with_reducible exact HG.out | with_reducible exact Grew.refl _ | with_reducible assumption | with_reducible apply Grew.plus | with_reducible apply Grew.drewN | with_reducible apply Grew.drew | with_reducible apply Grew.alloc | with_reducible refine Grew.setCell ?_ (by simp [go_sem]; try omega) _)⟩
  case round =>
    obtain ⟨k, h, hk, rfl, hb, hf, hc, hg⟩ := hrel
    have HF := Lib.hid hf
    have HC := Lib.hid hc
    have HB := Lib.hid hb
    have HG := Lib.hid hg
    clear hf hc
    by_cases hlt : k < l.length
    · obtain ⟨b, off, rfl, hbl, hrow⟩ := CellsIn.rowAt actRow 13 actRow_len (by omega) HA.out (by omega)
      have q := cellsAt_later hg (hrow k hlt) hbl
      have hst := Lib.hid (causal_step h l k hlt)
      have c8 := World.cellsAt_block hb 8 (by rw [C8.size_cells'])
      have hBs : w.heap.size < wr.heap.size := (Array.getElem?_eq_some_iff.1 hb).1
      clear hrow hb hg
      generalize l[k] = x at *
      simp only [actRow] at q
      have q3 : wr.cell? ⟨b, off + k * 13 + 3, none⟩ = some (.int .i64 x.replica) := by
        rw [World.cellsAt_cell q 3 (by omega)]; cases x; rfl
      generalize hr : h.ready x = r
      have HR := Lib.hid hr
      have RC := Lib.hid (fun W => by have := rready_any h x W HF.out; rw [hr] at this; exact this)
      clear hr
      cases r
      case false =>
        go_wp2_with fail
        refine wp_region_plus (by kernel_rfl) (by kernel_rfl) ?_
        repeat (go_big_quiet_step ((first | (go_at_call 31; exact Calls.grew_of (RC.out _)))))
        refine wpQuiet_nil ?_
        intro _ hw'
        obtain ⟨nx, rfl⟩ := hw'
        go_wp2_with fail
        go_ret
        exact ⟨ret_bool (by rw [HC.out, hst.out, HR.out]; rfl), HG.out.trans (by repeat (first | with_reducible exact HG.out | with_reducible exact Grew.refl _ | with_reducible assumption | with_reducible apply Grew.plus | with_reducible apply Grew.drewN | with_reducible apply Grew.drew | with_reducible apply Grew.alloc | with_reducible refine Grew.setCell ?_ (by simp [go_sem]; try omega) _))⟩
      case true =>
        obtain ⟨p0, p8, pm, p1, pn⟩ := ready_parts' h x HR.out
        have hr8 : x.replica.toNat < 8 := by omega
        have hfit := HF.out x.replica.toNat hr8
        have FN : Hid ((h.set x.replica.toNat x.number).Fits) := fits_set' h x.replica.toNat _ hr8 HF.out (by omega) (by have := beq_eq_false_iff_ne.1 pm; omega)
        obtain ⟨n0, f0⟩ : wr.cell? ⟨w.heap.size, x.replica.toNat, none⟩ = some (.int .i64 (h.get x.replica.toNat)) ∧ wr.frozen? ⟨w.heap.size, x.replica.toNat, none⟩ = false := World.own_cell HB.out _ _ (h.cells_get _ hr8)
        have hw : IntKind.i64.wrap (h.get x.replica.toNat + 1) = h.get x.replica.toNat + 1 := IntWalk.i64_in _ (by have := beq_eq_false_iff_ne.1 pm; omega)
        have PN := Lib.hid pn
        clear pm pn hfit
        go_wp2_with fail
        refine wp_region_plus (by kernel_rfl) (by kernel_rfl) ?_
        repeat (go_big_quiet_step ((first | (go_at_call 31; exact Calls.grew_of (RC.out _)))))
        refine wpQuiet_nil ?_
        intro _ hw'
        obtain ⟨nx, rfl⟩ := hw'
        go_wp2_with fail
        rw [← PN.out]
        have s1 := World.own_set2 HB.out x.replica.toNat (.int .i64 x.number) (h.set x.replica.toNat x.number).cells (C8.cells_set _ _ _ hr8)
        have s3 : Grew w (wr.setCell ⟨w.heap.size, x.replica.toNat, none⟩ (.int .i64 x.number)) := HG.out.setCell (Nat.le_refl _) _
        generalize wr.setCell ⟨w.heap.size, x.replica.toNat, none⟩ (.int .i64 x.number) = wq at *
        go_roundw
        case rel => exact ⟨k + 1, _, by omega, by go_num, Grew.heap (show Grew wq _ from by repeat (first | with_reducible exact HG.out | with_reducible exact Grew.refl _ | with_reducible assumption | with_reducible apply Grew.plus | with_reducible apply Grew.drewN | with_reducible apply Grew.drew | with_reducible apply Grew.alloc | with_reducible refine Grew.setCell ?_ (by simp [go_sem]; try omega) _)) s1, FN.out, by rw [HC.out, hst.out, HR.out]; rfl, s3.trans (by repeat (first | with_reducible exact HG.out | with_reducible exact Grew.refl _ | with_reducible assumption | with_reducible apply Grew.plus | with_reducible apply Grew.drewN | with_reducible apply Grew.drew | with_reducible apply Grew.alloc | with_reducible refine Grew.setCell ?_ (by simp [go_sem]; try omega) _))⟩
        case measure => simp [intOf]; omega
    · obtain rfl : k = l.length := by omega
      clear hb hg
      go_wp2_with fail
      go_ret
      exact ⟨ret_bool (by rw [HC.out, List.drop_length]; rfl), HG.out⟩
end Go.Proofs.YtofijhejpgjopaaGreatDoor
