/- Walks: what is to come of the document's new cluster; whether all is even in both. -/
import Derived.Test.YthekgpchjonboaaGreatDoorCluE
namespace Go.Proofs.YthekgpchjonboaaGreatDoor
open Go.RowKit
set_option linter.unusedSimpArgs false
set_option linter.unusedVariables false
section
variable {w : World} {C B m cap : Nat} {a : Option Addr} {rs : List Nat} {c0 c1 c2 c3 : Int}
set_option maxRecDepth 100000 in
set_option maxHeartbeats 1000000 in
theorem rclu_load (h : DCl w C B a cap rs c0 c1 c2 c3) (h0 : 0 < rs.length) : Calls Tryz.prog 38 #[ptr C] w fun e w' => e = .returned load0 ∧ Grew w w' := by
  have q0 : w.cell? ⟨C, 4, none⟩ = some (.slice a rs.length cap) := (World.own_cell h.c 4 _ rfl).1
  have hC := World.block_lt_of_cell? w _ q0
  have hcp := h.cap
  have H := Lib.hid h
  clear h
  go_enter Tryz.func38, Tryz.ntmps38
  go_wp2_with fail
  go_loopw [4] (fun i wr => ∃ k : Nat, k ≤ rs.length ∧ i = .int .i64 k ∧ Grew w wr ∧ wr.heap[w.heap.size]? = some (.cells #[.int .i64 0, .int .i64 0] tLoad (0, 0)) ∧ wr.heap[w.heap.size + 1]? = some (.cells #[.int .i64 0, .int .i64 0] tLoad (0, 0))) (fun i _ => rs.length - (intOf i).toNat)
  case atStart => exact ⟨0, by omega, rfl, by repeat (first | with_reducible exact HG.out | with_reducible exact Grew.refl _ | with_reducible assumption | with_reducible apply Grew.plus | with_reducible apply Grew.drewN | with_reducible apply Grew.drew | with_reducible apply Grew.alloc | with_reducible refine Grew.setCell ?_ (by simp [go_sem]; try omega) _), Grew.heap ((Grew.refl _).alloc _) (heap_alloc_at _ _ _ rfl), heap_alloc_at _ _ _ (by simp [h1a])⟩
  case round =>
    obtain ⟨k, hk, rfl, hg, hb, hb2⟩ := hrel
    have h2 := H.out.grew hg
    have HG := Lib.hid hg
    have HB := Lib.hid hb
    have HB2 := Lib.hid hb2
    have q4 : wr.cell? ⟨C, 4, none⟩ = some (.slice a rs.length cap) := (World.own_cell h2.c 4 _ rfl).1
    have hC2 := World.block_lt_of_cell? wr _ q4
    by_cases hlt : k < rs.length
    · obtain ⟨b, off, rfl, hbl, hc⟩ := ptrs_at h2.row h0
      have q1 := hc k _ (List.getElem?_eq_getElem hlt)
      have q6 : wr.cell? ⟨C, 6, none⟩ = some nilS := (World.own_cell h2.c 6 _ rfl).1
      have q7 : wr.cell? ⟨C, 7, none⟩ = some nilS := (World.own_cell h2.c 7 _ rfl).1
      clear hg hb hb2 h2 hc
      go_wp2_with fail
      refine wp_loop_rounds 1 ?_
      rw [rounds_succ]
      go_wp2_with fail
      refine wp_loop_rounds 1 ?_
      rw [rounds_succ]
      go_wp2_with fail
      go_roundw
      case rel => exact ⟨k + 1, by omega, by go_num, HG.out, HB.out, HB2.out⟩
      case measure => simp [intOf]; omega
    · have l0 := World.cellsAt_block hb2 2 rfl
      obtain ⟨n0, m0⟩ := World.own_cell hb 0 _ rfl
      obtain ⟨n1, m1⟩ := World.own_cell hb 1 _ rfl
      simp only [List.getElem_toArray, List.getElem_cons_zero, List.getElem_cons_succ] at n0 n1
      have hsz := (Array.getElem?_eq_some_iff.1 hb).1
      have hsz2 := (Array.getElem?_eq_some_iff.1 hb2).1
      clear hb hb2 h2 hg
      go_wp2_with fail
      rw [setCell_id n0, setCell_id n1]
      exact bodyPost_ret (v := load0) (by simp [results, Tryz.results38, go_sem, n0, n1, load0]) rfl ⟨rfl, HG.out⟩
set_option maxRecDepth 100000 in
set_option maxHeartbeats 1000000 in
theorem clu_even (h : ECl w C B m a cap rs c0 c1 c2 c3) (h0 : 0 < rs.length) : Calls Tryz.prog 28 #[ptr C] w fun e w' => e = .returned (.bool true) ∧ Grew w w' := by
  have heq0 : ∀ W, (Op.equalIn 10000 86 (.agg #[.int .i64 0, .int .i64 0, .int .i64 0, .int .i64 0, .int .i64 0, .int .i64 0, .int .i64 0, .int .i64 0]) (.agg #[.int .i64 0, .int .i64 0, .int .i64 0, .int .i64 0, .int .i64 0, .int .i64 0, .int .i64 0, .int .i64 0])).run Tryz.prog W = .ok true W := fun W => by
    show (Op.equalIn 10000 86 (.agg zClock.cells) (.agg zClock.cells)).run Tryz.prog W = _
    rw [equalIn_clk]; simp
  obtain ⟨n, hn⟩ : ∃ n, rs.length = n + 1 := ⟨rs.length - 1, by omega⟩
  have q0 : w.cell? ⟨C, 0, none⟩ = some (.slice a (n + 1) cap) := by rw [← hn]; exact (World.own_cell h.c 0 _ rfl).1
  have hC := World.block_lt_of_cell? w _ q0
  have hcp := h.cap
  obtain ⟨b, off, rfl, hbl, hc⟩ := ptrs_at h.row (by omega)
  have q1 := hc 0 _ (List.getElem?_eq_getElem h0)
  rw [Nat.add_zero] at q1
  obtain ⟨L, M, T, Bi, Bb, I, D, S, Bh, hr0⟩ := h.reps 0 _ (List.getElem?_eq_getElem h0)
  generalize rs[0] = R0 at *
  have H := Lib.hid h
  have HR0 := Lib.hid hr0
  have HC := Lib.hid hc
  clear h hr0 hc
  by_cases hc1 : cap = 1
  · subst hc1
    obtain rfl : n = 0 := by omega
    go_enter Tryz.func28, Tryz.ntmps28
    go_wp2_with fail
    refine wp_loop_rounds 1 ?_
    rw [rounds_succ]
    go_wp2_with fail
    go_ret
    exact ⟨rfl, by repeat (first | with_reducible exact HG.out | with_reducible exact Grew.refl _ | with_reducible assumption | with_reducible apply Grew.plus | with_reducible apply Grew.drewN | with_reducible apply Grew.drew | with_reducible apply Grew.alloc | with_reducible refine Grew.setCell ?_ (by simp [go_sem]; try omega) _)⟩
  · go_enter Tryz.func28, Tryz.ntmps28
    go_wp2_with fail
    have HE0 := Lib.hid (fun W (hW : Grew w W) => HR0.out.grew hW)
    go_loopw [18] (fun i wr => ∃ k : Nat, k ≤ n ∧ i = .int .i64 k ∧ Grew w wr) (fun i _ => n - (intOf i).toNat)
    case atStart => exact ⟨0, by omega, rfl, by repeat (first | with_reducible exact HG.out | with_reducible exact Grew.refl _ | with_reducible assumption | with_reducible apply Grew.plus | with_reducible apply Grew.drewN | with_reducible apply Grew.drew | with_reducible apply Grew.alloc | with_reducible refine Grew.setCell ?_ (by simp [go_sem]; try omega) _)⟩
    case round =>
      obtain ⟨k, hk, rfl, hg⟩ := hrel
      have HG := Lib.hid hg
      by_cases hlt : k < n
      · have hkl : k + 1 < rs.length := by omega
        obtain ⟨b', off', e', _, hc'⟩ := ptrs_at (H.out.grew hg).row (by omega)
        cases e'
        have q1 := hc' (k + 1) _ (List.getElem?_eq_getElem hkl)
        obtain ⟨L', M', T', Bi', Bb', I', D', S', Bh', hrk⟩ := H.out.reps (k + 1) _ (List.getElem?_eq_getElem hkl)
        generalize rs[k + 1] = Rk at *
        rw [show off + (k + 1) = off + 1 + k by omega] at q1
        have hbr : b < wr.heap.size := World.block_lt_of_cell? wr _ q1
        have HEk := Lib.hid (fun W (hW : Grew w W) => hrk.grew hW)
        clear hc' hrk hg
        go_wp2_with (first
          | (go_at_call 30; first | (refine (rep_epoch (HE0.out _ (by repeat (first | with_reducible exact HG.out | with_reducible exact Grew.refl _ | with_reducible assumption | with_reducible apply Grew.plus | with_reducible apply Grew.drewN | with_reducible apply Grew.drew | with_reducible apply Grew.alloc | with_reducible refine Grew.setCell ?_ (by simp [go_sem]; try omega) _)))).mono ?_; rintro e w' ⟨rfl, rfl⟩) | (refine (rep_epoch (HEk.out _ (by repeat (first | with_reducible exact HG.out | with_reducible exact Grew.refl _ | with_reducible assumption | with_reducible apply Grew.plus | with_reducible apply Grew.drewN | with_reducible apply Grew.drew | with_reducible apply Grew.alloc | with_reducible refine Grew.setCell ?_ (by simp [go_sem]; try omega) _)))).mono ?_; rintro e w' ⟨rfl, rfl⟩))
          | (go_at_call 31; first | (refine (rep_clock (HE0.out _ (by repeat (first | with_reducible exact HG.out | with_reducible exact Grew.refl _ | with_reducible assumption | with_reducible apply Grew.plus | with_reducible apply Grew.drewN | with_reducible apply Grew.drew | with_reducible apply Grew.alloc | with_reducible refine Grew.setCell ?_ (by simp [go_sem]; try omega) _)))).mono ?_; rintro e w' ⟨rfl, gx, rfl⟩) | (refine (rep_clock (HEk.out _ (by repeat (first | with_reducible exact HG.out | with_reducible exact Grew.refl _ | with_reducible assumption | with_reducible apply Grew.plus | with_reducible apply Grew.drewN | with_reducible apply Grew.drew | with_reducible apply Grew.alloc | with_reducible refine Grew.setCell ?_ (by simp [go_sem]; try omega) _)))).mono ?_; rintro e w' ⟨rfl, gx2, rfl⟩))
          | (go_at_call 37; first | (refine (rep_elements (HE0.out _ (by repeat (first | with_reducible exact HG.out | with_reducible exact Grew.refl _ | with_reducible assumption | with_reducible apply Grew.plus | with_reducible apply Grew.drewN | with_reducible apply Grew.drew | with_reducible apply Grew.alloc | with_reducible refine Grew.setCell ?_ (by simp [go_sem]; try omega) _)))).mono ?_; rintro e w' ⟨rfl, gx3, rfl⟩) | (refine (rep_elements (HEk.out _ (by repeat (first | with_reducible exact HG.out | with_reducible exact Grew.refl _ | with_reducible assumption | with_reducible apply Grew.plus | with_reducible apply Grew.drewN | with_reducible apply Grew.drew | with_reducible apply Grew.alloc | with_reducible refine Grew.setCell ?_ (by simp [go_sem]; try omega) _)))).mono ?_; rintro e w' ⟨rfl, gx4, rfl⟩))
          | (go_at_call 57; refine (equal_nil _).mono ?_; rintro e w' ⟨rfl, rfl⟩))
        go_roundw
        case rel => exact ⟨k + 1, by omega, by go_num, by repeat (first | with_reducible exact HG.out | with_reducible exact Grew.refl _ | with_reducible assumption | with_reducible apply Grew.plus | with_reducible apply Grew.drewN | with_reducible apply Grew.drew | with_reducible apply Grew.alloc | with_reducible refine Grew.setCell ?_ (by simp [go_sem]; try omega) _)⟩
        case measure => simp [intOf]; omega
      · go_wp2_with fail
        go_ret
        exact ⟨rfl, by repeat (first | with_reducible exact HG.out | with_reducible exact Grew.refl _ | with_reducible assumption | with_reducible apply Grew.plus | with_reducible apply Grew.drewN | with_reducible apply Grew.drew | with_reducible apply Grew.alloc | with_reducible refine Grew.setCell ?_ (by simp [go_sem]; try omega) _)⟩
end
end Go.Proofs.YthekgpchjonboaaGreatDoor
