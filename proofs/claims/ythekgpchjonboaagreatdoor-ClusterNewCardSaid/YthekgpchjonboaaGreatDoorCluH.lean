/- Walk: new clusters tell what they should. -/
import Derived.Test.YthekgpchjonboaaGreatDoorCluG
namespace Go.Proofs.YthekgpchjonboaaGreatDoor
open Go.RowKit
set_option linter.unusedSimpArgs false
set_option linter.unusedVariables false
theorem clock3_guard (W : World) : (eqGuard .neq 86 (.tmp 88) (.tmp 95) clock0 (.agg clockL.toArray)).run Tryz.prog W = .ok () W := Ab.prun_run (by kernel_rfl) W
theorem rounds3_guard (W : World) : (eqGuard .neq tRounds (.tmp 119) (.tmp 126) rounds0 (.agg roundsL.toArray)).run Tryz.prog W = .ok () W := Ab.prun_run (by kernel_rfl) W
theorem load_guard (W : World) : (eqGuard .eql tLoad (.tmp 165) (.tmp 170) load0 load0).run Tryz.prog W = .ok () W := Ab.prun_run (by kernel_rfl) W
theorem load_eql (W : World) : (binOp .eql tLoad load0 load0).run Tryz.prog W = .ok (.bool true) W := Ab.prun_run (by kernel_rfl) W
theorem quiet_bin {o : Oper} {a : Act} {C : World → Prop} {K : Act → Prop} {op : BinOp} {t ty : TypeId} {v u : Value} {r : Bool} (x y : Operand) (ho : o.op = .binOp op t x y ty) (hx : a.eval x = v) (hy : a.eval y = u) (hg : ∀ W, (eqGuard op t x y v u).run Tryz.prog W = .ok () W) (hb : ∀ W, (binOp op t v u).run Tryz.prog W = .ok (.bool r) W)
    (hk : K (a.put o.dst (.bool r))) : o.quiet Tryz.prog a C K :=
  ⟨.bool r, fun W hW => by
    have : (execOp a.eval o).run Tryz.prog W = .ok (.value (.bool r)) W := by
      simp only [execOp, ho, hx, hy, Sem.run_bind, hg, hb, Result.andThen_ok]
      rfl
    unfold Oper.quietAt
    rw [this]
    exact ⟨rfl, rfl⟩, hk⟩
section
variable {w : World} {V C B m cap C' B' cap' : Nat} {a a' : Option Addr} {rs qs : List Nat} {c0 c1 c2 c3 : Int}
set_option maxRecDepth 100000 in
set_option maxHeartbeats 2000000 in
theorem pair_same (v0 : w.cell? ⟨V, 0, none⟩ = some (ptr C)) (v1 : w.cell? ⟨V, 1, none⟩ = some (ptr C')) (h : ECl w C B m a cap rs c0 c1 c2 c3) (hd : DCl w C' B' a' cap' qs c0 c1 c2 c3) (h1 : 1 ≤ c0) (h8 : c0 ≤ 8) :
    Calls Tryz.prog 8 #[ptr V] w fun e w' => e = .returned (.bool true) ∧ Grew w w' := by
  obtain ⟨n, hn⟩ : ∃ n, rs.length = n := ⟨_, rfl⟩
  have hq : qs.length = n := by have := h.len; have := hd.len; omega
  have hnc : (n : Int) = c0 := by have := h.len; omega
  have lV : V < w.heap.size := World.block_lt_of_cell? w _ v0
  have lC' : C' < w.heap.size := (Array.getElem?_eq_some_iff.1 hd.c).1
  have lB' : B' < w.heap.size := (Array.getElem?_eq_some_iff.1 hd.b).1
  have d4 : w.cell? ⟨C', 4, none⟩ = some (.slice a' n cap') := by rw [← hq]; exact (World.own_cell hd.c 4 _ rfl).1
  have d5 : w.cell? ⟨C', 5, none⟩ = some (ptr B') := (World.own_cell hd.c 5 _ rfl).1
  have b2 : w.cell? ⟨B', 2, none⟩ = some nilS := (World.own_cell hd.b 2 _ rfl).1
  have hcp := hd.cap
  rw [hq] at hcp
  have HE := Lib.hid (fun W (hW : Grew w W) => h.grew hW)
  have HD := Lib.hid (fun W (hW : Grew w W) => hd.grew hW)
  have HRP : Hid (∀ W, Grew w W → Calls Tryz.prog 29 #[ptr C] W fun e w' => e = .returned (.int .i64 n) ∧ Grew W w') := Lib.hid fun W hW => by rw [← hn]; exact sameg (clu_replicas (h.grew hW))
  have HRM : Hid (∀ W, Grew w W → Calls Tryz.prog 26 #[ptr C, .int .i64 (-1)] W fun e w' => e = .returned (.pointer none) ∧ Grew W w') := Lib.hid fun W hW => clu_replica_out (h.grew hW) (-1) (by omega)
  have HRN : Hid (∀ W, Grew w W → Calls Tryz.prog 26 #[ptr C, .int .i64 n] W fun e w' => e = .returned (.pointer none) ∧ Grew W w') := Lib.hid fun W hW => clu_replica_out (h.grew hW) n (by omega)
  have HL1 : Hid (∀ W, Grew w W → Calls Tryz.prog 12 #[ptr C] W fun e w' => e = .returned load0 ∧ Grew W w') := Lib.hid fun W hW => clu_load (h.grew hW) (by omega)
  have HL2 : Hid (∀ W, Grew w W → Calls Tryz.prog 38 #[ptr C'] W fun e w' => e = .returned load0 ∧ Grew W w') := Lib.hid fun W hW => rclu_load (hd.grew hW) (by omega)
  have HE1 : Hid (∀ W, Grew w W → Calls Tryz.prog 28 #[ptr C] W fun e w' => e = .returned (.bool true) ∧ Grew W w') := Lib.hid fun W hW => clu_even (h.grew hW) (by omega)
  have HE2 : Hid (∀ W, Grew w W → Calls Tryz.prog 39 #[ptr C'] W fun e w' => e = .returned (.bool true) ∧ Grew W w') := Lib.hid fun W hW => rclu_even (hd.grew hW) (by omega)
  have HNC := Lib.hid hnc
  have HNN := Lib.hid hn
  have HQQ := Lib.hid hq
  clear h hd hnc hn hq
  go_enter Tryz.func8, Tryz.ntmps8
  go_wp2_with fail
  refine wp_region_plus (by kernel_rfl) (by kernel_rfl) ?_
  repeat (go_big_quiet_step ((first
    | (go_at_call 29; exact Calls.grew_of (HRP.out _ (by repeat (first | with_reducible exact HG.out | with_reducible exact Grew.refl _ | with_reducible assumption | with_reducible apply Grew.plus | with_reducible apply Grew.drewN | with_reducible apply Grew.drew | with_reducible apply Grew.alloc | with_reducible refine Grew.setCell ?_ (by simp [go_sem]; try omega) _))))
    | (go_at_call 26; first | with_reducible exact Calls.grew_of (HRM.out _ (by repeat (first | with_reducible exact HG.out | with_reducible exact Grew.refl _ | with_reducible assumption | with_reducible apply Grew.plus | with_reducible apply Grew.drewN | with_reducible apply Grew.drew | with_reducible apply Grew.alloc | with_reducible refine Grew.setCell ?_ (by simp [go_sem]; try omega) _))) | with_reducible exact Calls.grew_of (HRN.out _ (by repeat (first | with_reducible exact HG.out | with_reducible exact Grew.refl _ | with_reducible assumption | with_reducible apply Grew.plus | with_reducible apply Grew.drewN | with_reducible apply Grew.drew | with_reducible apply Grew.alloc | with_reducible refine Grew.setCell ?_ (by simp [go_sem]; try omega) _)))))))
  refine wpQuiet_nil ?_
  intro _ hw'
  obtain ⟨nx, rfl⟩ := hw'
  go_wp2_with fail
  go_loopw [3] (fun i wr => ∃ k : Nat, k ≤ n ∧ i = .int .i64 k ∧ Grew w wr) (fun i _ => n - (intOf i).toNat)
  case atStart => exact ⟨0, by omega, rfl, by repeat (first | with_reducible exact HG.out | with_reducible exact Grew.refl _ | with_reducible assumption | with_reducible apply Grew.plus | with_reducible apply Grew.drewN | with_reducible apply Grew.drew | with_reducible apply Grew.alloc | with_reducible refine Grew.setCell ?_ (by simp [go_sem]; try omega) _)⟩
  case round =>
    obtain ⟨k, hk, rfl, hg⟩ := hrel
    have HG := Lib.hid hg
    by_cases hlt : k < n
    · have HWk : Hid (Grew w wr) := Lib.hid hg
      obtain ⟨R, hR⟩ : ∃ R, rs[k]? = some R := ⟨_, List.getElem?_eq_getElem (by rw [HNN.out]; exact hlt)⟩
      obtain ⟨Q, hQ⟩ : ∃ Q, qs[k]? = some Q := ⟨_, List.getElem?_eq_getElem (by rw [HQQ.out]; exact hlt)⟩
      have h2 := HD.out wr hg
      have d4 : wr.cell? ⟨C', 4, none⟩ = some (.slice a' n cap') := by rw [← HQQ.out]; exact (World.own_cell h2.c 4 _ rfl).1
      obtain ⟨b, off, rfl, hbr, hc'⟩ := ptrs_at h2.row (by rw [HQQ.out]; omega)
      have d1 := hc' k Q hQ
      have vr0 : wr.cell? ⟨V, 0, none⟩ = some (ptr C) := by rw [World.cell?_of_block (w := w) (hg.block V lV)]; exact v0
      have vr1 : wr.cell? ⟨V, 1, none⟩ = some (ptr C') := by rw [World.cell?_of_block (w := w) (hg.block V lV)]; exact v1
      have lV2 := World.block_lt_of_cell? wr _ vr0
      have lC2 := World.block_lt_of_cell? wr _ d4
      obtain ⟨L, M, T, Bi, Bb, I, D, S, Bh, hr⟩ := (HE.out wr hg).reps k R hR
      obtain ⟨G, I', D', S', hd⟩ := h2.reps k Q hQ
      have g1 : 1 ≤ c0 := h1
      have hk4 : (k : Int) < c0 := by have := HNC.out; omega
      have HIN : Hid (∀ W, Grew wr W → Calls Tryz.prog 26 #[ptr C, .int .i64 k] W fun e w' => e = .returned (ptr R) ∧ Grew W w') := Lib.hid fun W hW => clu_replica_in (HE.out W (hg.trans hW)) k R hR
      have HRR := Lib.hid (fun W (hW : Grew wr W) => hr.grew hW)
      have HDD := Lib.hid (fun W (hW : Grew wr W) => hd.grew hW)
      have HK4 := Lib.hid hk4
      have lQ := (Array.getElem?_eq_some_iff.1 hd.r).1
      have lG := (Array.getElem?_eq_some_iff.1 hd.g).1
      have lD := (Array.getElem?_eq_some_iff.1 hd.d).1
      have q5 : wr.cell? ⟨Q, 5, none⟩ = some (ptr G) := (World.own_cell hd.r 5 _ rfl).1
      have q7 : wr.cell? ⟨Q, 7, none⟩ = some (ptr D') := (World.own_cell hd.r 7 _ rfl).1
      have q8 : wr.cell? ⟨Q, 8, none⟩ = some (.int .i64 (c1 / c0)) := (World.own_cell hd.r 8 _ rfl).1
      have g0 : wr.cell? ⟨G, 0, none⟩ = some (.int .i64 0) := (World.own_cell hd.g 0 _ rfl).1
      have g12 : wr.cell? ⟨G, 12, none⟩ = some nilS := (World.own_cell hd.g 12 _ rfl).1
      have g4 : wr.cellsAt ⟨G, 4, none⟩ 8 = some clockL := by
        have := World.cellsAt_sub (World.cellsAt_block hd.g 13 rfl) 4 8 (by decide)
        simpa [clockL] using this
      have HL : Hid (∀ W, Grew wr W → (loadRows tRounds (.pointer (some ⟨D', 2, none⟩))).run Tryz.prog W = .ok (.agg roundsL.toArray) W) := Lib.hid fun W hW => load_desk (Grew.heap hW hd.d)
      have HCk : Hid (∀ W, Grew wr W → Calls Tryz.prog 31 #[ptr R] W fun e w' => e = .returned clock0 ∧ Grew W w') := Lib.hid fun W hW => rep_clock (hr.grew hW)
      have HFr : Hid (∀ W, Grew wr W → Calls Tryz.prog 33 #[ptr R] W fun e w' => e = .returned (.bool false) ∧ Grew W w') := Lib.hid fun W hW => rep_frozen (hr.grew hW) h1 h8 (by omega) hk4
      have HFd : Hid (∀ W, Grew wr W → Calls Tryz.prog 34 #[ptr D'] W fun e w' => e = .returned (.bool false) ∧ Grew W w') := Lib.hid fun W hW => ddesk_frozen (hd.grew hW) h1 h8 (by omega) hk4
      have HRr : Hid (∀ W, Grew wr W → Calls Tryz.prog 35 #[ptr R] W fun e w' => e = .returned rounds0 ∧ Grew W w') := Lib.hid fun W hW => rep_rounds (hr.grew hW) h1 h8 (by omega) hk4
      have eg1 := clock3_guard
      have eg2 := clock_neq
      have eg3 := rounds3_guard
      have eg4 := rounds_neq
      clear hk4 hr hd hg h2 hc' v0 v1 hR hQ
      generalize clock0 = V1 at *
      generalize clockL = L1 at *
      generalize rounds0 = V2 at *
      generalize roundsL = L2 at *
      go_wp2_with (go_at_call 26; refine (HIN.out _ (by repeat (first | with_reducible exact HG.out | with_reducible exact Grew.refl _ | with_reducible assumption | with_reducible apply Grew.plus | with_reducible apply Grew.drewN | with_reducible apply Grew.drew | with_reducible apply Grew.alloc | with_reducible refine Grew.setCell ?_ (by simp [go_sem]; try omega) _))).mono ?_; rintro e w' ⟨rfl, gx, rfl⟩)
      have hl := fun x => HL.out ((wr.plus gx).plus x) (by repeat (first | with_reducible exact HG.out | with_reducible exact Grew.refl _ | with_reducible assumption | with_reducible apply Grew.plus | with_reducible apply Grew.drewN | with_reducible apply Grew.drew | with_reducible apply Grew.alloc | with_reducible refine Grew.setCell ?_ (by simp [go_sem]; try omega) _))
      simp only [List.append_eq, List.cons_append, List.nil_append]
      refine wp_region_plus (by kernel_rfl) (by kernel_rfl) ?_
      repeat (first
        | (go_big_quiet_want; refine quiet_load_rounds (D := D') (L := L2) (.tmp 125) (by rfl) (by rfl) (fun W hW => by obtain ⟨x, rfl⟩ := hW; exact hl x) ?_; simp only [Act.put, List.setIfInBounds_toArray, List.set_cons_zero, List.set_cons_succ]; go_big_quiet_on)
        | (go_big_quiet_want; refine quiet_neq (.tmp 88) (.tmp 95) (by rfl) (by rfl) (by rfl) eg1 eg2 ?_; simp only [Act.put, List.setIfInBounds_toArray, List.set_cons_zero, List.set_cons_succ]; go_big_quiet_on)
        | (go_big_quiet_want; refine quiet_neq (.tmp 119) (.tmp 126) (by rfl) (by rfl) (by rfl) eg3 eg4 ?_; simp only [Act.put, List.setIfInBounds_toArray, List.set_cons_zero, List.set_cons_succ]; go_big_quiet_on)
        | go_big_quiet_step ((first
          | (go_at_call 30; exact Calls.grew_of (sameg (rep_epoch (HRR.out _ (by repeat (first | with_reducible exact HG.out | with_reducible exact Grew.refl _ | with_reducible assumption | with_reducible apply Grew.plus | with_reducible apply Grew.drewN | with_reducible apply Grew.drew | with_reducible apply Grew.alloc | with_reducible refine Grew.setCell ?_ (by simp [go_sem]; try omega) _))))))
          | (go_at_call 31; exact Calls.grew_of (HCk.out _ (by repeat (first | with_reducible exact HG.out | with_reducible exact Grew.refl _ | with_reducible assumption | with_reducible apply Grew.plus | with_reducible apply Grew.drewN | with_reducible apply Grew.drew | with_reducible apply Grew.alloc | with_reducible refine Grew.setCell ?_ (by simp [go_sem]; try omega) _))))
          | (go_at_call 32; exact Calls.grew_of (sameg (rep_credit (HRR.out _ (by repeat (first | with_reducible exact HG.out | with_reducible exact Grew.refl _ | with_reducible assumption | with_reducible apply Grew.plus | with_reducible apply Grew.drewN | with_reducible apply Grew.drew | with_reducible apply Grew.alloc | with_reducible refine Grew.setCell ?_ (by simp [go_sem]; try omega) _))))))
          | (go_at_call 33; exact Calls.grew_of (HFr.out _ (by repeat (first | with_reducible exact HG.out | with_reducible exact Grew.refl _ | with_reducible assumption | with_reducible apply Grew.plus | with_reducible apply Grew.drewN | with_reducible apply Grew.drew | with_reducible apply Grew.alloc | with_reducible refine Grew.setCell ?_ (by simp [go_sem]; try omega) _))))
          | (go_at_call 34; exact Calls.grew_of (HFd.out _ (by repeat (first | with_reducible exact HG.out | with_reducible exact Grew.refl _ | with_reducible assumption | with_reducible apply Grew.plus | with_reducible apply Grew.drewN | with_reducible apply Grew.drew | with_reducible apply Grew.alloc | with_reducible refine Grew.setCell ?_ (by simp [go_sem]; try omega) _))))
          | (go_at_call 35; exact Calls.grew_of (HRr.out _ (by repeat (first | with_reducible exact HG.out | with_reducible exact Grew.refl _ | with_reducible assumption | with_reducible apply Grew.plus | with_reducible apply Grew.drewN | with_reducible apply Grew.drew | with_reducible apply Grew.alloc | with_reducible refine Grew.setCell ?_ (by simp [go_sem]; try omega) _))))
          | (go_at_call 37; exact Calls.grew_of (rep_elements (HRR.out _ (by repeat (first | with_reducible exact HG.out | with_reducible exact Grew.refl _ | with_reducible assumption | with_reducible apply Grew.plus | with_reducible apply Grew.drewN | with_reducible apply Grew.drew | with_reducible apply Grew.alloc | with_reducible refine Grew.setCell ?_ (by simp [go_sem]; try omega) _)))))
          | (go_at_call 36; exact Calls.grew_of (elements_nil _)))))
      refine wpQuiet_nil ?_
      intro _ hw'
      obtain ⟨nx2, rfl⟩ := hw'
      clear hl
      go_wp2_with fail
      go_roundw
      case rel => exact ⟨k + 1, by omega, by go_num, by repeat (first | with_reducible exact HG.out | with_reducible exact Grew.refl _ | with_reducible assumption | with_reducible apply Grew.plus | with_reducible apply Grew.drewN | with_reducible apply Grew.drew | with_reducible apply Grew.alloc | with_reducible refine Grew.setCell ?_ (by simp [go_sem]; try omega) _)⟩
      case measure => simp [intOf]; omega
    · have vr0 : wr.cell? ⟨V, 0, none⟩ = some (ptr C) := by rw [World.cell?_of_block (w := w) (hg.block V lV)]; exact v0
      have vr1 : wr.cell? ⟨V, 1, none⟩ = some (ptr C') := by rw [World.cell?_of_block (w := w) (hg.block V lV)]; exact v1
      have h2 := HD.out wr hg
      have d4 : wr.cell? ⟨C', 4, none⟩ = some (.slice a' n cap') := by rw [← HQQ.out]; exact (World.own_cell h2.c 4 _ rfl).1
      have d5 : wr.cell? ⟨C', 5, none⟩ = some (ptr B') := (World.own_cell h2.c 5 _ rfl).1
      have b2 : wr.cell? ⟨B', 2, none⟩ = some nilS := (World.own_cell h2.b 2 _ rfl).1
      have lV2 := World.block_lt_of_cell? wr _ vr0
      have lC2 := World.block_lt_of_cell? wr _ d4
      have lB2 := World.block_lt_of_cell? wr _ b2
      have el1 := load_guard
      have el2 := load_eql
      clear h2 hg v0 v1
      generalize load0 = V3 at *
      go_wp2_with fail
      refine wp_region_plus (by kernel_rfl) (by kernel_rfl) ?_
      repeat (first
        | (go_big_quiet_want; refine quiet_bin (.tmp 165) (.tmp 170) (by rfl) (by rfl) (by rfl) el1 el2 ?_; simp only [Act.put, List.setIfInBounds_toArray, List.set_cons_zero, List.set_cons_succ]; go_big_quiet_on)
        | go_big_quiet_step ((first
          | (go_at_call 10; exact Calls.grew_of (sameg (clu_bag (HE.out _ (by repeat (first | with_reducible exact HG.out | with_reducible exact Grew.refl _ | with_reducible assumption | with_reducible apply Grew.plus | with_reducible apply Grew.drewN | with_reducible apply Grew.drew | with_reducible apply Grew.alloc | with_reducible refine Grew.setCell ?_ (by simp [go_sem]; try omega) _))))))
          | (go_at_call 11; exact Calls.grew_of (sameg (bag_len (HE.out _ (by repeat (first | with_reducible exact HG.out | with_reducible exact Grew.refl _ | with_reducible assumption | with_reducible apply Grew.plus | with_reducible apply Grew.drewN | with_reducible apply Grew.drew | with_reducible apply Grew.alloc | with_reducible refine Grew.setCell ?_ (by simp [go_sem]; try omega) _))))))
          | (go_at_call 12; exact Calls.grew_of (HL1.out _ (by repeat (first | with_reducible exact HG.out | with_reducible exact Grew.refl _ | with_reducible assumption | with_reducible apply Grew.plus | with_reducible apply Grew.drewN | with_reducible apply Grew.drew | with_reducible apply Grew.alloc | with_reducible refine Grew.setCell ?_ (by simp [go_sem]; try omega) _))))
          | (go_at_call 38; exact Calls.grew_of (HL2.out _ (by repeat (first | with_reducible exact HG.out | with_reducible exact Grew.refl _ | with_reducible assumption | with_reducible apply Grew.plus | with_reducible apply Grew.drewN | with_reducible apply Grew.drew | with_reducible apply Grew.alloc | with_reducible refine Grew.setCell ?_ (by simp [go_sem]; try omega) _))))
          | (go_at_call 28; exact Calls.grew_of (HE1.out _ (by repeat (first | with_reducible exact HG.out | with_reducible exact Grew.refl _ | with_reducible assumption | with_reducible apply Grew.plus | with_reducible apply Grew.drewN | with_reducible apply Grew.drew | with_reducible apply Grew.alloc | with_reducible refine Grew.setCell ?_ (by simp [go_sem]; try omega) _))))
          | (go_at_call 39; exact Calls.grew_of (HE2.out _ (by repeat (first | with_reducible exact HG.out | with_reducible exact Grew.refl _ | with_reducible assumption | with_reducible apply Grew.plus | with_reducible apply Grew.drewN | with_reducible apply Grew.drew | with_reducible apply Grew.alloc | with_reducible refine Grew.setCell ?_ (by simp [go_sem]; try omega) _)))))))
      refine wpQuiet_nil ?_
      intro _ hw'
      obtain ⟨nx2, rfl⟩ := hw'
      go_wp2_with fail
      go_ret
      exact ⟨rfl, by repeat (first | with_reducible exact HG.out | with_reducible exact Grew.refl _ | with_reducible assumption | with_reducible apply Grew.plus | with_reducible apply Grew.drewN | with_reducible apply Grew.drew | with_reducible apply Grew.alloc | with_reducible refine Grew.setCell ?_ (by simp [go_sem]; try omega) _)⟩
end
end Go.Proofs.YthekgpchjonboaaGreatDoor
