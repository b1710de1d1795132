/- Walk: a new replica tells what the document's tells. -/
import Derived.Test.YtlhldjfonidmgaaGreatDoorRepE
namespace Go.Proofs.YtlhldjfonidmgaaGreatDoor
open Go.RowKit
set_option linter.unusedSimpArgs false
set_option linter.unusedVariables false
theorem sameg {P : Program} {f : FuncId} {a : Array Value} {v : Value} {w : World} (h : Calls P f a w fun e w' => e = .returned v ∧ w = w') : Calls P f a w fun e w' => e = .returned v ∧ Grew w w' :=
  h.mono fun e w' ⟨h1, h2⟩ => ⟨h1, by rw [← h2]; exact Grew.refl w⟩
def clock0 : Value := .agg zClock.cells
def clockL : List Value := [.int .i64 0, .int .i64 0, .int .i64 0, .int .i64 0, .int .i64 0, .int .i64 0, .int .i64 0, .int .i64 0]
def roundsL : List Value := noRounds.toList
theorem clock_guard (W : World) : (eqGuard .neq 57 (.tmp 42) (.tmp 49) clock0 (.agg clockL.toArray)).run Tryz.prog W = .ok () W := Ab.prun_run (by kernel_rfl) W
theorem clock_neq (W : World) : (binOp .neq 57 clock0 (.agg clockL.toArray)).run Tryz.prog W = .ok (.bool false) W := Ab.prun_run (by kernel_rfl) W
theorem rounds_guard (W : World) : (eqGuard .neq tRounds (.tmp 73) (.tmp 80) rounds0 (.agg roundsL.toArray)).run Tryz.prog W = .ok () W := Ab.prun_run (by kernel_rfl) W
theorem rounds_neq (W : World) : (binOp .neq tRounds rounds0 (.agg roundsL.toArray)).run Tryz.prog W = .ok (.bool false) W := Ab.prun_run (by kernel_rfl) W
theorem load_desk {W : World} {D : Nat} {n s : Value} (hD : W.heap[D]? = some (.cells (#[n, s] ++ noRounds) tRDesk (0, 0))) : (loadRows tRounds (.pointer (some ⟨D, 2, none⟩))).run Tryz.prog W = .ok (.agg roundsL.toArray) W := by
  have h := run_loadAt_rows (P := Tryz.prog) tRounds ⟨D, 2, none⟩ W
  rw [h]
  have hc : W.cellsAt ⟨D, 2, none⟩ 144 = some roundsL := by
    have := World.cellsAt_sub (World.cellsAt_block hD 146 (by kernel_rfl)) 2 144 (by decide)
    refine this.trans ?_
    kernel_rfl
  have h1 : (isAgg tRounds).run Tryz.prog W = .ok true W := Ab.prun_run (by kernel_rfl) W
  have h2 : (sizeOf tRounds).run Tryz.prog W = .ok 144 W := Ab.prun_run (by kernel_rfl) W
  rw [h1]
  simp only [Result.andThen_ok, if_true, h2, hc]
theorem quiet_load_rounds {o : Oper} {a : Act} {C : World → Prop} {K : Act → Prop} {D : Nat} {L : List Value} (x : Operand) (ho : o.op = .load tRounds x) (hx : a.eval x = .pointer (some ⟨D, 2, none⟩)) (hl : ∀ W, C W → (loadRows tRounds (.pointer (some ⟨D, 2, none⟩))).run Tryz.prog W = .ok (.agg L.toArray) W)
    (hk : K (a.put o.dst (.agg L.toArray))) : o.quiet Tryz.prog a C K :=
  ⟨.agg L.toArray, fun W hW => by
    have hl := hl W hW
    unfold loadRows at hl
    have : (execOp a.eval o).run Tryz.prog W = .ok (.value (.agg L.toArray)) W := by
      simp only [execOp, ho, hx, Sem.run_bind, hl, Result.andThen_ok]
      rfl
    unfold Oper.quietAt
    rw [this]
    exact ⟨rfl, rfl⟩, hk⟩
theorem quiet_neq {o : Oper} {a : Act} {C : World → Prop} {K : Act → Prop} {t ty : TypeId} {v u : Value} (x y : Operand) (ho : o.op = .binOp .neq t x y ty) (hx : a.eval x = v) (hy : a.eval y = u) (hg : ∀ W, (eqGuard .neq t x y v u).run Tryz.prog W = .ok () W) (hb : ∀ W, (binOp .neq t v u).run Tryz.prog W = .ok (.bool false) W)
    (hk : K (a.put o.dst (.bool false))) : o.quiet Tryz.prog a C K :=
  ⟨.bool false, fun W hW => by
    have : (execOp a.eval o).run Tryz.prog W = .ok (.value (.bool false)) W := by
      simp only [execOp, ho, hx, hy, Sem.run_bind, hg, hb, Result.andThen_ok]
      rfl
    unfold Oper.quietAt
    rw [this]
    exact ⟨rfl, rfl⟩, hk⟩
section
variable {w : World} {R L M T Bi Bb I D S Bh Q G I' D' S' V A B : Nat} {c0 c1 c2 c3 s : Int}
set_option maxRecDepth 100000 in
set_option maxHeartbeats 1000000 in
theorem world_same (v0 : w.cell? ⟨V, 0, none⟩ = some (.slice (some ⟨A, 0, none⟩) 1 1)) (v1 : w.cell? ⟨V, 1, none⟩ = some (.slice (some ⟨B, 0, none⟩) 1 1)) (a0 : w.cell? ⟨A, 0, none⟩ = some (ptr R)) (b0 : w.cell? ⟨B, 0, none⟩ = some (ptr Q))
    (h : ERep w R L M T Bi Bb I D S Bh c0 c1 c2 c3 s) (hd : DRep w Q G I' D' S' c0 c1 c2 c3 s) (h1 : 1 ≤ c0) (h2 : c0 ≤ 8) (h3 : 0 ≤ s) (h4 : s < c0) :
    Calls Tryz.prog 14 #[ptr V, .int .i64 0] w fun e w' => e = .returned (.bool true) ∧ Grew w w' := by
  have lV : V < w.heap.size := World.block_lt_of_cell? w _ v0
  have lA : A < w.heap.size := World.block_lt_of_cell? w _ a0
  have lB : B < w.heap.size := World.block_lt_of_cell? w _ b0
  have lQ := (Array.getElem?_eq_some_iff.1 hd.r).1
  have lG := (Array.getElem?_eq_some_iff.1 hd.g).1
  have lD := (Array.getElem?_eq_some_iff.1 hd.d).1
  have lS := (Array.getElem?_eq_some_iff.1 hd.st).1
  have q5 : w.cell? ⟨Q, 5, none⟩ = some (ptr G) := (World.own_cell hd.r 5 _ rfl).1
  have q7 : w.cell? ⟨Q, 7, none⟩ = some (ptr D') := (World.own_cell hd.r 7 _ rfl).1
  have q8 : w.cell? ⟨Q, 8, none⟩ = some (.int .i64 (c1 / c0)) := (World.own_cell hd.r 8 _ rfl).1
  have q9 : w.cell? ⟨Q, 9, none⟩ = some (ptr S') := (World.own_cell hd.r 9 _ rfl).1
  have g0 : w.cell? ⟨G, 0, none⟩ = some (.int .i64 0) := (World.own_cell hd.g 0 _ rfl).1
  have g12 : w.cell? ⟨G, 12, none⟩ = some nilS := (World.own_cell hd.g 12 _ rfl).1
  have g4 : w.cellsAt ⟨G, 4, none⟩ 8 = some clockL := by
    have := World.cellsAt_sub (World.cellsAt_block hd.g 13 rfl) 4 8 (by decide)
    simpa [clockL] using this
  have s0 : w.cell? ⟨S', 0, none⟩ = some nilS := (World.own_cell hd.st 0 _ rfl).1
  have s1 : w.cell? ⟨S', 1, none⟩ = some nilS := (World.own_cell hd.st 1 _ rfl).1
  have HE := Lib.hid (fun W (hW : Grew w W) => h.grew hW)
  have HD := Lib.hid (fun W (hW : Grew w W) => hd.grew hW)
  have HL : Hid (∀ W, Grew w W → (loadRows tRounds (.pointer (some ⟨D', 2, none⟩))).run Tryz.prog W = .ok (.agg roundsL.toArray) W) := Lib.hid fun W hW => load_desk (Grew.heap hW hd.d)
  have HC : Hid (∀ W, Grew w W → Calls Tryz.prog 44 #[ptr R] W fun e w' => e = .returned clock0 ∧ Grew W w') := Lib.hid fun W hW => rep_clock (h.grew hW)
  have eg1 := clock_guard
  have eg2 := clock_neq
  have eg3 := rounds_guard
  have eg4 := rounds_neq
  clear h hd
  generalize clock0 = V1 at *
  generalize clockL = L1 at *
  have HRr : Hid (∀ W, Grew w W → Calls Tryz.prog 47 #[ptr R] W fun e w' => e = .returned rounds0 ∧ Grew W w') := Lib.hid fun W hW => rep_rounds (HE.out W hW) h1 h2 h3 h4
  generalize rounds0 = V2 at *
  generalize roundsL = L2 at *
  go_enter Tryz.func14, Tryz.ntmps14
  go_wp2
  refine wp_region_plus (by kernel_rfl) (by kernel_rfl) ?_
  repeat (go_big_quiet_step ((first | fail)))
  refine wpQuiet_nil ?_
  intro _ hw'
  obtain ⟨nx, rfl⟩ := hw'
  go_wp2_with (go_at_call 42; refine (rep_depth (HE.out _ (by repeat (first | with_reducible exact HG.out | with_reducible exact Grew.refl _ | with_reducible assumption | with_reducible apply Grew.plus | with_reducible apply Grew.drewN | with_reducible apply Grew.drew | with_reducible apply Grew.alloc | with_reducible refine Grew.setCell ?_ (by simp [go_sem]; try omega) _)))).mono ?_; rintro e w' ⟨rfl, gx, rfl⟩)
  have hl := fun x => HL.out (((w.plus nx).plus gx).plus x) (by repeat (first | with_reducible exact HG.out | with_reducible exact Grew.refl _ | with_reducible assumption | with_reducible apply Grew.plus | with_reducible apply Grew.drewN | with_reducible apply Grew.drew | with_reducible apply Grew.alloc | with_reducible refine Grew.setCell ?_ (by simp [go_sem]; try omega) _))
  simp only [List.append_eq, List.cons_append, List.nil_append]
  refine wp_region_plus (by kernel_rfl) (by kernel_rfl) ?_
  repeat (first
    | (go_big_quiet_want; refine quiet_load_rounds (D := D') (L := L2) (.tmp 79) (by rfl) (by rfl) (fun W hW => by obtain ⟨x, rfl⟩ := hW; exact hl x) ?_; simp only [Act.put, List.setIfInBounds_toArray, List.set_cons_zero, List.set_cons_succ]; go_big_quiet_on)
    | (go_big_quiet_want; refine quiet_neq (.tmp 73) (.tmp 80) (by rfl) (by rfl) (by rfl) eg3 eg4 ?_; simp only [Act.put, List.setIfInBounds_toArray, List.set_cons_zero, List.set_cons_succ]; go_big_quiet_on)
    | go_big_quiet_step ((first | (go_at_call 43; exact Calls.grew_of (sameg (rep_epoch (HE.out _ (by repeat (first | with_reducible exact HG.out | with_reducible exact Grew.refl _ | with_reducible assumption | with_reducible apply Grew.plus | with_reducible apply Grew.drewN | with_reducible apply Grew.drew | with_reducible apply Grew.alloc | with_reducible refine Grew.setCell ?_ (by simp [go_sem]; try omega) _)))))) | (go_at_call 44; exact Calls.grew_of (HC.out _ (by repeat (first | with_reducible exact HG.out | with_reducible exact Grew.refl _ | with_reducible assumption | with_reducible apply Grew.plus | with_reducible apply Grew.drewN | with_reducible apply Grew.drew | with_reducible apply Grew.alloc | with_reducible refine Grew.setCell ?_ (by simp [go_sem]; try omega) _)))) | (go_at_call 10; exact Calls.grew_of (sameg (rep_credit (HE.out _ (by repeat (first | with_reducible exact HG.out | with_reducible exact Grew.refl _ | with_reducible assumption | with_reducible apply Grew.plus | with_reducible apply Grew.drewN | with_reducible apply Grew.drew | with_reducible apply Grew.alloc | with_reducible refine Grew.setCell ?_ (by simp [go_sem]; try omega) _)))))) | (go_at_call 45; exact Calls.grew_of (rep_frozen (HE.out _ (by repeat (first | with_reducible exact HG.out | with_reducible exact Grew.refl _ | with_reducible assumption | with_reducible apply Grew.plus | with_reducible apply Grew.drewN | with_reducible apply Grew.drew | with_reducible apply Grew.alloc | with_reducible refine Grew.setCell ?_ (by simp [go_sem]; try omega) _))) h1 h2 h3 h4)) | (go_at_call 46; exact Calls.grew_of (ddesk_frozen (HD.out _ (by repeat (first | with_reducible exact HG.out | with_reducible exact Grew.refl _ | with_reducible assumption | with_reducible apply Grew.plus | with_reducible apply Grew.drewN | with_reducible apply Grew.drew | with_reducible apply Grew.alloc | with_reducible refine Grew.setCell ?_ (by simp [go_sem]; try omega) _))) h1 h2 h3 h4)) | (go_at_call 47; exact Calls.grew_of (HRr.out _ (by repeat (first | with_reducible exact HG.out | with_reducible exact Grew.refl _ | with_reducible assumption | with_reducible apply Grew.plus | with_reducible apply Grew.drewN | with_reducible apply Grew.drew | with_reducible apply Grew.alloc | with_reducible refine Grew.setCell ?_ (by simp [go_sem]; try omega) _)))) | (go_at_call 48; exact Calls.grew_of (rep_cursor (HE.out _ (by repeat (first | with_reducible exact HG.out | with_reducible exact Grew.refl _ | with_reducible assumption | with_reducible apply Grew.plus | with_reducible apply Grew.drewN | with_reducible apply Grew.drew | with_reducible apply Grew.alloc | with_reducible refine Grew.setCell ?_ (by simp [go_sem]; try omega) _))))) | (go_at_call 49; exact Calls.grew_of (drep_where (HD.out _ (by repeat (first | with_reducible exact HG.out | with_reducible exact Grew.refl _ | with_reducible assumption | with_reducible apply Grew.plus | with_reducible apply Grew.drewN | with_reducible apply Grew.drew | with_reducible apply Grew.alloc | with_reducible refine Grew.setCell ?_ (by simp [go_sem]; try omega) _))))))))
  refine wpQuiet_nil ?_
  intro _ hw'
  obtain ⟨nx2, rfl⟩ := hw'
  clear hl
  go_wp2_with (go_at_call 50; refine (rep_elements (HE.out _ (by repeat (first | with_reducible exact HG.out | with_reducible exact Grew.refl _ | with_reducible assumption | with_reducible apply Grew.plus | with_reducible apply Grew.drewN | with_reducible apply Grew.drew | with_reducible apply Grew.alloc | with_reducible refine Grew.setCell ?_ (by simp [go_sem]; try omega) _)))).mono ?_; rintro e w' ⟨rfl, gx, rfl⟩)
  refine wp_region_plus (by kernel_rfl) (by kernel_rfl) ?_
  repeat (go_big_quiet_step ((first | (go_at_call 51; exact Calls.grew_of (elements_nil _)) | (go_at_call 52; exact Calls.grew_of (sameg (rep_len (HE.out _ (by repeat (first | with_reducible exact HG.out | with_reducible exact Grew.refl _ | with_reducible assumption | with_reducible apply Grew.plus | with_reducible apply Grew.drewN | with_reducible apply Grew.drew | with_reducible apply Grew.alloc | with_reducible refine Grew.setCell ?_ (by simp [go_sem]; try omega) _)))))) | (go_at_call 53; exact Calls.grew_of (rep_live (HE.out _ (by repeat (first | with_reducible exact HG.out | with_reducible exact Grew.refl _ | with_reducible assumption | with_reducible apply Grew.plus | with_reducible apply Grew.drewN | with_reducible apply Grew.drew | with_reducible apply Grew.alloc | with_reducible refine Grew.setCell ?_ (by simp [go_sem]; try omega) _))))) | (go_at_call 54; exact Calls.grew_of (drep_live (HD.out _ (by repeat (first | with_reducible exact HG.out | with_reducible exact Grew.refl _ | with_reducible assumption | with_reducible apply Grew.plus | with_reducible apply Grew.drewN | with_reducible apply Grew.drew | with_reducible apply Grew.alloc | with_reducible refine Grew.setCell ?_ (by simp [go_sem]; try omega) _))))))))
  refine wpQuiet_nil ?_
  intro _ hw'
  obtain ⟨nx, rfl⟩ := hw'
  go_wp2_with (go_at_call 55; refine (spoil_nil _).mono ?_; rintro e w' ⟨rfl, gx, rfl⟩)
  refine wp_region_plus (by kernel_rfl) (by kernel_rfl) ?_
  repeat (go_big_quiet_step ((first | (go_at_call 51; exact Calls.grew_of (elements_nil _)) | (go_at_call 50; exact Calls.grew_of (rep_elements (HE.out _ (by repeat (first | with_reducible exact HG.out | with_reducible exact Grew.refl _ | with_reducible assumption | with_reducible apply Grew.plus | with_reducible apply Grew.drewN | with_reducible apply Grew.drew | with_reducible apply Grew.alloc | with_reducible refine Grew.setCell ?_ (by simp [go_sem]; try omega) _))))))))
  refine wpQuiet_nil ?_
  intro _ hw'
  obtain ⟨nx, rfl⟩ := hw'
  go_wp2_with fail
  go_ret
  exact ⟨rfl, by repeat (first | with_reducible exact HG.out | with_reducible exact Grew.refl _ | with_reducible assumption | with_reducible apply Grew.plus | with_reducible apply Grew.drewN | with_reducible apply Grew.drew | with_reducible apply Grew.alloc | with_reducible refine Grew.setCell ?_ (by simp [go_sem]; try omega) _)⟩
end
end Go.Proofs.YtlhldjfonidmgaaGreatDoor
