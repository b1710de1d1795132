/- Walks: rounds of a new replica; where the document's replica stands. -/
import Derived.Test.YthekgpchjonboaaGreatDoorRepD
namespace Go.Proofs.YthekgpchjonboaaGreatDoor
open Go.RowKit
set_option linter.unusedSimpArgs false
set_option linter.unusedVariables false
abbrev tRounds : TypeId := 104
theorem setCells_id {W : World} {B : Nat} : ∀ (vs : List Value) (o : Nat), (∀ (j : Nat) (v : Value), vs[j]? = some v → W.cell? ⟨B, o + j, none⟩ = some v) → W.setCells B o vs = W
  | [], o, h => rfl
  | v :: vs, o, h => by
    show (W.setCell ⟨B, o, none⟩ v).setCells B (o + 1) vs = W
    have h0 : W.cell? ⟨B, o, none⟩ = some v := h 0 v rfl
    rw [setCell_id h0]
    exact setCells_id vs (o + 1) (fun j u hj => by rw [Nat.add_assoc, Nat.add_comm 1 j]; exact h (j + 1) u hj)
theorem noRounds_size : noRounds.size = 144 := by kernel_rfl
theorem store_rounds {W : World} {B : Nat} (hB : W.heap[B]? = some (.cells noRounds tRounds (0, 0))) : (Instr.storeAt tRounds (.pointer (some ⟨B, 0, none⟩)) rounds0).run Tryz.prog W = .ok () W := by
  have key : ∀ j, j < 144 → W.cell? ⟨B, j, none⟩ = some (.int .i64 0) ∧ W.frozen? ⟨B, j, none⟩ = false := fun j hj =>
    World.own_cell hB j _ (by unfold noRounds; simp [hj])
  have h := run_storeAt_mid (P := Tryz.prog) W B 0 tRounds noRounds (fun j hj => by
    rw [noRounds_size] at hj
    obtain ⟨h1, h2⟩ := key j hj
    rw [Nat.zero_add]
    exact ⟨by rw [h1]; rfl, h2⟩) (by kernel_rfl) (by kernel_rfl)
  refine h.trans (congrArg (Result.ok ()) (setCells_id _ _ fun j v hv => ?_))
  have hj : j < noRounds.toList.length := by
    rcases Nat.lt_or_ge j noRounds.toList.length with h | h
    · exact h
    · rw [List.getElem?_eq_none h] at hv; cases hv
  rw [Array.length_toList, noRounds_size] at hj
  have : v = .int .i64 0 := by
    rw [show noRounds.toList = List.replicate 144 (Value.int .i64 0) from by unfold noRounds; exact Array.toList_replicate, List.getElem?_replicate, if_pos hj] at hv
    exact (Option.some.inj hv).symm
  rw [Nat.zero_add, this]
  exact (key j hj).1
theorem load_rounds {W : World} {B : Nat} (hB : W.heap[B]? = some (.cells noRounds tRounds (0, 0))) : (loadVar tRounds ⟨B, 0, none⟩).run Tryz.prog W = .ok rounds0 W := by
  have h := run_loadAt_rows (P := Tryz.prog) tRounds ⟨B, 0, none⟩ W
  have e : (loadRows tRounds (.pointer (some ⟨B, 0, none⟩))).run Tryz.prog W = (loadVar tRounds ⟨B, 0, none⟩).run Tryz.prog W := by
    simp only [loadRows, Instr.loadAt, Instr.sureAddr, Sem.run_bind, Sem.run_pure, Result.andThen_ok]
  rw [e] at h
  rw [h]
  have hc : W.cellsAt ⟨B, 0, none⟩ 144 = some noRounds.toList := World.cellsAt_block hB 144 (by kernel_rfl)
  have h1 : (isAgg tRounds).run Tryz.prog W = .ok true W := Ab.prun_run (by kernel_rfl) W
  have h2 : (sizeOf tRounds).run Tryz.prog W = .ok 144 W := Ab.prun_run (by kernel_rfl) W
  rw [h1]
  simp only [Result.andThen_ok, if_true, h2, hc]
  rfl
theorem wpList_store_rounds {ops : Array Oper} {rest : List Oper} {op : Oper} {a : Act} {w : World} {Q : Exit → Act → World → Prop} (hgd : op.guard = none) (x y : Operand) (ho : op.op = .store tRounds x y)
    (B : Nat) (hx : a.eval x = .pointer (some ⟨B, 0, none⟩)) (hy : a.eval y = rounds0) (hB : w.heap[B]? = some (.cells noRounds tRounds (0, 0)))
    (h : wpList Tryz.prog ops Q rest (a.put op.dst undef) w) : wpList Tryz.prog ops Q (op :: rest) a w := by
  refine wpList_plain hgd fun _ hK => ?_
  unfold Oper.wp execOp
  simp only [ho, hx, hy, Sem.run_bind, store_rounds hB, Result.andThen_ok]
  exact hK _ _ h
section
variable {w : World} {R L M T Bi Bb I D S Bh : Nat} {c0 c1 c2 c3 s : Int}
theorem zeros_rounds : Tryz.zeroCells104 = noRounds := by kernel_rfl
theorem rep_rounds (h : ERep w R L M T Bi Bb I D S Bh c0 c1 c2 c3 s) (h1 : 1 ≤ c0) (h2 : c0 ≤ 8) (h3 : 0 ≤ s) (h4 : s < c0) : Calls Tryz.prog 35 #[ptr R] w fun e w' => e = .returned rounds0 ∧ Grew w w' := by
  have r8 : w.cell? ⟨R, 8, none⟩ = some (ptr D) := h.c 8 _ rfl
  have hR := h.lt
  have HD := Lib.hid (fun W (hW : Grew w W) => desk_any rounds_all h1 h2 h3 h4 (Grew.heap hW h.d))
  clear h
  have hB : ∀ (x : More), ((w.alloc (.cells noRounds tRounds)).plus x).heap[w.heap.size]? = some (.cells noRounds tRounds (0, 0)) := fun x => Grew.heap ((Grew.refl _).plus x) (heap_alloc_at _ _ _ rfl)
  have hld := fun x => load_rounds (hB x)
  have HBB := Lib.hid hB
  clear hB
  go_enter Tryz.func35, Tryz.ntmps35
  go_wp2_with fail
  rw [zeros_rounds]
  refine (HD.out _ (by repeat (first | with_reducible exact HG.out | with_reducible exact Grew.refl _ | with_reducible assumption | with_reducible apply Grew.plus | with_reducible apply Grew.drewN | with_reducible apply Grew.drew | with_reducible apply Grew.alloc | with_reducible refine Grew.setCell ?_ (by simp [go_sem]; try omega) _))).mono ?_
  rintro e w' ⟨rfl, gx, rfl⟩
  go_wp2_with (refine wpList_store_rounds (by rfl) (.tmp 2) (.tmp 7) (by rfl) w.heap.size (by rfl) (by rfl) (HBB.out _) ?_)
  have hl := hld gx
  exact bodyPost_ret (v := rounds0) (by simp [results, Tryz.results35, Sem.run_bind, Sem.run_pure, asAddr, Act.put, hl]) rfl ⟨rfl, by repeat (first | with_reducible exact HG.out | with_reducible exact Grew.refl _ | with_reducible assumption | with_reducible apply Grew.plus | with_reducible apply Grew.drewN | with_reducible apply Grew.drew | with_reducible apply Grew.alloc | with_reducible refine Grew.setCell ?_ (by simp [go_sem]; try omega) _)⟩
theorem DRep.grew {w' : World} {Q G : Nat} (h : DRep w Q G I D S c0 c1 c2 c3 s) (hg : Grew w w') : DRep w' Q G I D S c0 c1 c2 c3 s := ⟨Grew.heap hg h.r, Grew.heap hg h.g, Grew.heap hg h.d, Grew.heap hg h.st⟩
theorem ddesk_frozen {Q G : Nat} (h : DRep w Q G I D S c0 c1 c2 c3 s) (h1 : 1 ≤ c0) (h2 : c0 ≤ 8) (h3 : 0 ≤ s) (h4 : s < c0) : Calls Tryz.prog 34 #[ptr D] w fun e w' => e = .returned (.bool false) ∧ Grew w w' := rdesk_any rfrozen_all h1 h2 h3 h4 h.d
end
end Go.Proofs.YthekgpchjonboaaGreatDoor
