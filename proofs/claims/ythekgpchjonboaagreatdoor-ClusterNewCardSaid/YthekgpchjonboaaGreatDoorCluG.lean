/- Walk: all is even in the document's new cluster. -/
import Derived.Test.YthekgpchjonboaaGreatDoorCluF
import Derived.Test.YthekgpchjonboaaGreatDoorRepF
namespace Go.Proofs.YthekgpchjonboaaGreatDoor
open Go.RowKit
set_option linter.unusedSimpArgs false
set_option linter.unusedVariables false
theorem clock2_guard (W : World) : (eqGuard .neq 86 (.tmp 51) (.tmp 58) (.agg clockL.toArray) (.agg clockL.toArray)).run Tryz.prog W = .ok () W := Ab.prun_run (by kernel_rfl) W
theorem clock2_neq (W : World) : (binOp .neq 86 (.agg clockL.toArray) (.agg clockL.toArray)).run Tryz.prog W = .ok (.bool false) W := Ab.prun_run (by kernel_rfl) W
section
variable {w : World} {C B m cap : Nat} {a : Option Addr} {rs : List Nat} {c0 c1 c2 c3 : Int}
set_option maxRecDepth 100000 in
set_option maxHeartbeats 1000000 in
theorem rclu_even (h : DCl w C B a cap rs c0 c1 c2 c3) (h0 : 0 < rs.length) : Calls Tryz.prog 39 #[ptr C] w fun e w' => e = .returned (.bool true) ∧ Grew w w' := by
  have eg1 := clock2_guard
  have eg2 := clock2_neq
  have q0 : w.cell? ⟨C, 4, none⟩ = some (.slice a rs.length cap) := (World.own_cell h.c 4 _ rfl).1
  have hC := World.block_lt_of_cell? w _ q0
  have hcp := h.cap
  obtain ⟨b, off, rfl, hbl, hc⟩ := ptrs_at h.row (by omega)
  have q1 := hc 0 _ (List.getElem?_eq_getElem h0)
  rw [Nat.add_zero] at q1
  obtain ⟨G, I, D, S, hr0⟩ := h.reps 0 _ (List.getElem?_eq_getElem h0)
  generalize rs[0] = R0 at *
  have H := Lib.hid h
  have HC0 : Hid (∀ W, Grew w W → W.cell? ⟨R0, 5, none⟩ = some (ptr G) ∧ W.cell? ⟨G, 0, none⟩ = some (.int .i64 0) ∧ W.cell? ⟨G, 12, none⟩ = some nilS ∧ W.cellsAt ⟨G, 4, none⟩ 8 = some clockL ∧ R0 < W.heap.size ∧ G < W.heap.size) := Lib.hid fun W hW => by
    have h := hr0.grew hW
    refine ⟨(World.own_cell h.r 5 _ rfl).1, (World.own_cell h.g 0 _ rfl).1, (World.own_cell h.g 12 _ rfl).1, ?_, (Array.getElem?_eq_some_iff.1 h.r).1, (Array.getElem?_eq_some_iff.1 h.g).1⟩
    have := World.cellsAt_sub (World.cellsAt_block h.g 13 rfl) 4 8 (by decide)
    simpa [clockL] using this
  clear h hr0 hc
  go_enter Tryz.func39, Tryz.ntmps39
  go_wp2_with fail
  clear q1 q0
  go_loopw [4] (fun i wr => ∃ k : Nat, 1 ≤ k ∧ k ≤ rs.length ∧ i = .int .i64 k ∧ Grew w wr) (fun i _ => rs.length - (intOf i).toNat)
  case atStart => exact ⟨1, by omega, by omega, rfl, by repeat (first | with_reducible exact HG.out | with_reducible exact Grew.refl _ | with_reducible assumption | with_reducible apply Grew.plus | with_reducible apply Grew.drewN | with_reducible apply Grew.drew | with_reducible apply Grew.alloc | with_reducible refine Grew.setCell ?_ (by simp [go_sem]; try omega) _)⟩
  case round =>
    obtain ⟨k, hk1, hk, rfl, hg⟩ := hrel
    have HG := Lib.hid hg
    have h2 := H.out.grew hg
    have q0 : wr.cell? ⟨C, 4, none⟩ = some (.slice (some ⟨b, off, none⟩) rs.length cap) := (World.own_cell h2.c 4 _ rfl).1
    have hC2 := World.block_lt_of_cell? wr _ q0
    by_cases hlt : k < rs.length
    · obtain ⟨b', off', e', hbr, hc'⟩ := ptrs_at h2.row (by omega)
      cases e'
      have q1 := hc' k _ (List.getElem?_eq_getElem hlt)
      obtain ⟨G', I', D', S', hrk⟩ := h2.reps k _ (List.getElem?_eq_getElem hlt)
      generalize rs[k] = Rk at *
      obtain ⟨g1, g2, g3, g4, g5, g6⟩ := HC0.out wr hg
      have g7 := (World.own_cell hrk.r 5 _ rfl).1
      have g8 := (World.own_cell hrk.g 0 _ rfl).1
      have g9 := (World.own_cell hrk.g 12 _ rfl).1
      have g10 : wr.cellsAt ⟨G', 4, none⟩ 8 = some clockL := by
        have := World.cellsAt_sub (World.cellsAt_block hrk.g 13 rfl) 4 8 (by decide)
        simpa [clockL] using this
      have g11 := (Array.getElem?_eq_some_iff.1 hrk.r).1
      have g12 := (Array.getElem?_eq_some_iff.1 hrk.g).1
      clear hc' hrk hg h2
      generalize clockL = L1 at *
      go_wp2_with fail
      refine wp_region_plus (by kernel_rfl) (by kernel_rfl) ?_
      repeat (first
        | (go_big_quiet_want; refine quiet_neq (.tmp 51) (.tmp 58) (by rfl) (by rfl) (by rfl) eg1 eg2 ?_; simp only [Act.put, List.setIfInBounds_toArray, List.set_cons_zero, List.set_cons_succ]; go_big_quiet_on)
        | go_big_quiet_step (fail))
      refine wpQuiet_nil ?_
      intro _ hw'
      obtain ⟨nx, rfl⟩ := hw'
      go_wp2_with fail
      refine wp_loop_rounds 1 ?_
      rw [rounds_succ]
      go_wp2_with fail
      go_roundw
      case rel => exact ⟨k + 1, by omega, by omega, by go_num, by repeat (first | with_reducible exact HG.out | with_reducible exact Grew.refl _ | with_reducible assumption | with_reducible apply Grew.plus | with_reducible apply Grew.drewN | with_reducible apply Grew.drew | with_reducible apply Grew.alloc | with_reducible refine Grew.setCell ?_ (by simp [go_sem]; try omega) _)⟩
      case measure => simp [intOf]; omega
    · go_wp2_with fail
      go_ret
      exact ⟨rfl, by repeat (first | with_reducible exact HG.out | with_reducible exact Grew.refl _ | with_reducible assumption | with_reducible apply Grew.plus | with_reducible apply Grew.drewN | with_reducible apply Grew.drew | with_reducible apply Grew.alloc | with_reducible refine Grew.setCell ?_ (by simp [go_sem]; try omega) _)⟩
end
end Go.Proofs.YthekgpchjonboaaGreatDoor
