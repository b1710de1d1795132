/- Texts of this proof, merged (printed by wip/pmerge.py out of SameB). -/
import Derived.Test.YtnhmekdnfinmiaaGreatDoorQ8
/- Walks: two replicas' parts, held against one another. -/
namespace Go.Proofs.YtnhmekdnfinmiaaGreatDoor
open Go.RowKit Go.Par
set_option linter.unusedSimpArgs false
set_option linter.unusedVariables false
theorem rounds_same (zs : List Nat) (hz : zs.length = 144) (W : World) : (Op.equalIn 10000 33 (.agg (arr zs)) (.agg (arr zs))).run Tryz.prog W = .ok true W :=
  self_agg 9990 10 33 (by kernel_rfl) W (arr zs) (by rw [arr_size, hz]; kernel_rfl) (by simp [arr]) (by simp [isAgg, run_underlying (P := Tryz.prog) Tryz.underlying33])
section
variable {W : World} {B : Nat} {h : List Value} {zs : List Nat} {t : List Value} {ty : TypeId}
theorem pc_row (hb : W.heap[B]? = some (.cells (pcells h zs t) ty (0, 0))) (hh : h.length = 9) (hz : zs.length = 144) (ht : t.length = 7) : W.cellsAt ⟨B, 9, none⟩ 144 = some (arr zs).toList := by
  have := World.cellsAt_sub (World.cellsAt_block hb 160 (pc_size hh hz ht)) 9 144 (by decide)
  refine this.trans ?_
  congr 1
  simp only [pcells, arr]
  rw [List.drop_left' hh, List.take_left' (by simp [hz])]
theorem range_of {o n : Nat} {cs : List Value} (h : W.cellsAt ⟨B, o, none⟩ n = some cs) : W.rangeAt B o cs := fun j v hv => by
  have hl : cs.length = n := (World.cellsAt_some h).1
  obtain ⟨hj, -⟩ := List.getElem?_eq_some_iff.1 hv
  rw [World.cellsAt_cell h j (by omega)]
  exact hv
theorem _root_.Go.World.rangeAt.plus {o : Nat} {cs : List Value} (h : W.rangeAt B o cs) (x : More) (hB : B < W.heap.size) : (W.plus x).rangeAt B o cs := fun j v hv => by
  rw [((Grew.refl W).plus x).cell hB]; exact h j v hv
theorem pc_first (hb : W.heap[B]? = some (.cells (pcells h zs t) ty (0, 0))) (hh : h.length = 9) (hz : zs.length = 144) (ht : t.length = 7) : W.cellsAt ⟨B, 0, none⟩ 4 = some (h.take 4) := by
  have := World.cellsAt_sub (World.cellsAt_block hb 160 (pc_size hh hz ht)) 0 4 (by decide)
  refine this.trans ?_
  congr 1
  simp only [pcells, List.drop_zero]
  rw [List.take_append_of_le_length (by omega)]
theorem pc_last (hb : W.heap[B]? = some (.cells (pcells h zs t) ty (0, 0))) (hh : h.length = 9) (hz : zs.length = 144) (ht : t.length = 7) : W.cellsAt ⟨B, 155, none⟩ 4 = some ((t.drop 2).take 4) := by
  have := World.cellsAt_sub (World.cellsAt_block hb 160 (pc_size hh hz ht)) 155 4 (by decide)
  refine this.trans ?_
  congr 2
  simp only [pcells]
  rw [show 155 = h.length + ((zs.map fun n : Nat => Value.int .i64 n).length + 2) by simp [hh, hz], ← List.drop_drop, List.drop_left, ← List.drop_drop, List.drop_left]
end
theorem HistsAt.grew {w w' : World} {v : Value} {xs : List (List PChange)} (h : HistsAt w v xs) (hg : Grew w w') : HistsAt w' v xs := by
  obtain ⟨a4, c4, v4, f4, i4, j4, k4, l4⟩ := h
  exact ⟨a4, c4, v4, f4, i4, j4, k4.grew hg, l4.grew hg⟩
theorem OutsIn.grew {w w' : World} {v : Value} {self : Nat} {xs : List POut} (h : OutsIn w v self xs) (hg : Grew w w') : OutsIn w' v self xs := by
  obtain ⟨a6, c6, os, f6, i6, j6, k6, l6, m6⟩ := h
  exact ⟨a6, c6, os, f6, i6, j6, k6.grew hg, l6.grew hg, m6⟩
set_option maxRecDepth 1000000 in
set_option maxHeartbeats 4000000 in
theorem same_eq {u v : Value} {x : PParts} {w : World} (hu : PartsV w u x) (hv : PartsV w v x) : Calls Tryz.prog 10 #[u, v] w fun e w' => e = .returned (.bool true) ∧ Grew w w' := by
  obtain ⟨b1, f1, h1, d1, u1, o1, rfl, hz, hb1, hf1, hh1, hd1, hu1, ho1⟩ := hu
  obtain ⟨b2, f2, h2, d2, u2, o2, rfl, -, hb2, hf2, hh2, hd2, hu2, ho2⟩ := hv
  have HQ := Lib.hid (rounds_same _ hz)
  obtain ⟨c0, c1, c2, c3, self, epoch, base, acts, held, rounds, done, undone, front, ⟨ep, rp, nb⟩, out⟩ := x
  simp only at hz hb1 hf1 hh1 hd1 hu1 ho1 hb2 hf2 hh2 hd2 hu2 ho2
  simp only
  generalize rz rounds = zs at *
  have EB : Hid (∀ W, Grew w W → Calls Tryz.prog 32 #[b1, b2] W fun e w' => e = .returned (.bool true) ∧ Grew W w') := Lib.hid fun W hW => by
    obtain ⟨ar, cp, rfl, i1, j1, k1⟩ := hb1; obtain ⟨ar', cp', rfl, i2, j2, k2⟩ := hb2
    have := els_eq ar ar' cp cp' (base.map elD) W (k1.grew hW) (k2.grew hW) (by simpa using i1) (by simpa using i2) j1 j2
    simpa using this
  have EF : Hid (∀ W, Grew w W → Calls Tryz.prog 33 #[f1, f2] W fun e w' => e = .returned (.bool true) ∧ Grew W w') := Lib.hid fun W hW => by
    obtain ⟨ar, cp, rfl, i1, j1, k1⟩ := hf1; obtain ⟨ar', cp', rfl, i2, j2, k2⟩ := hf2
    have := acts_eq ar ar' cp cp' (acts.map actD) W (k1.grew hW) (k2.grew hW) (by simpa using i1) (by simpa using i2) j1 j2
    simpa using this
  have EH : Hid (∀ W, Grew w W → Calls Tryz.prog 33 #[h1, h2] W fun e w' => e = .returned (.bool true) ∧ Grew W w') := Lib.hid fun W hW => by
    obtain ⟨ar, cp, rfl, i1, j1, k1⟩ := hh1; obtain ⟨ar', cp', rfl, i2, j2, k2⟩ := hh2
    have := acts_eq ar ar' cp cp' (held.map actD) W (k1.grew hW) (k2.grew hW) (by simpa using i1) (by simpa using i2) j1 j2
    simpa using this
  have ED : Hid (∀ W, Grew w W → Calls Tryz.prog 35 #[d1, d2] W fun e w' => e = .returned (.bool true) ∧ Grew W w') := Lib.hid fun W hW => hists_eq done W (hd1.grew hW) (hd2.grew hW)
  have EU : Hid (∀ W, Grew w W → Calls Tryz.prog 35 #[u1, u2] W fun e w' => e = .returned (.bool true) ∧ Grew W w') := Lib.hid fun W hW => hists_eq undone W (hu1.grew hW) (hu2.grew hW)
  have EO : Hid (∀ W, Grew w W → Calls Tryz.prog 34 #[o1, o2] W fun e w' => e = .returned (.bool true) ∧ Grew W w') := Lib.hid fun W hW => parcels_eq self out W (ho1.grew hW) (ho2.grew hW)
  obtain ⟨ba1, bc1, rfl, -⟩ := hb1
  obtain ⟨ba2, bc2, rfl, -⟩ := hb2
  obtain ⟨fa1, fc1, rfl, -⟩ := hf1
  obtain ⟨fa2, fc2, rfl, -⟩ := hf2
  obtain ⟨ha1, hc1, rfl, -⟩ := hh1
  obtain ⟨ha2, hc2, rfl, -⟩ := hh2
  obtain ⟨da1, dc1, _, rfl, -⟩ := hd1
  obtain ⟨da2, dc2, _, rfl, -⟩ := hd2
  obtain ⟨ua1, uc1, _, rfl, -⟩ := hu1
  obtain ⟨ua2, uc2, _, rfl, -⟩ := hu2
  obtain ⟨oa1, oc1, _, rfl, -⟩ := ho1
  obtain ⟨oa2, oc2, _, rfl, -⟩ := ho2
  obtain ⟨p1, hp1⟩ : ∃ p, p = (pcells [.int .i64 c0, .int .i64 c1, .int .i64 c2, .int .i64 c3, .int .i64 self, .int .i64 epoch, .slice ba1 base.length bc1, .slice fa1 acts.length fc1, .slice ha1 held.length hc1] zs [.slice da1 done.length dc1, .slice ua1 undone.length uc1, .bool front, .int .i64 ep, .int .i64 rp, .int .i64 nb, .slice oa1 out.length oc1]) := ⟨_, rfl⟩
  rw [← hp1]
  obtain ⟨p2, hp2⟩ : ∃ p, p = (pcells [.int .i64 c0, .int .i64 c1, .int .i64 c2, .int .i64 c3, .int .i64 self, .int .i64 epoch, .slice ba2 base.length bc2, .slice fa2 acts.length fc2, .slice ha2 held.length hc2] zs [.slice da2 done.length dc2, .slice ua2 undone.length uc2, .bool front, .int .i64 ep, .int .i64 rp, .int .i64 nb, .slice oa2 out.length oc2]) := ⟨_, rfl⟩
  rw [← hp2]
  have HP1 := Lib.hid hp1
  have HP2 := Lib.hid hp2
  have HZ := Lib.hid hz
  clear hp1 hp2 hz
  go_enter Tryz.func10, Tryz.ntmps10
  go_upto_region 1 with fail
  have e1 : ((w.alloc (.cells p1 41)).alloc (.cells p2 41)).heap[w.heap.size]? = some (.cells p1 41 (0, 0)) := by
    rw [heap_alloc_past _ _ _ (by rw [alloc_size1]; omega)]; exact heap_alloc_new w _
  have e2 : ((w.alloc (.cells p1 41)).alloc (.cells p2 41)).heap[w.heap.size + 1]? = some (.cells p2 41 (0, 0)) := heap_alloc_at _ _ _ (by rw [alloc_size1])
  have hg : Grew w ((w.alloc (.cells p1 41)).alloc (.cells p2 41)) := ((Grew.refl w).alloc _).alloc _
  have l1 : w.heap.size < ((w.alloc (.cells p1 41)).alloc (.cells p2 41)).heap.size := by simp only [alloc_size1]; omega
  have l2 : w.heap.size + 1 < ((w.alloc (.cells p1 41)).alloc (.cells p2 41)).heap.size := by simp only [alloc_size1]; omega
  generalize ((w.alloc (.cells p1 41)).alloc (.cells p2 41)) = W1 at *
  generalize w.heap.size = B1 at *
  generalize hB2 : B1 + 1 = B2 at *
  clear hB2
  have HG := Lib.hid hg
  clear hg
  rw [HP1.out] at e1
  rw [HP2.out] at e2
  clear HP1 HP2
  have r10 : W1.cellsAt ⟨B1, 0, none⟩ 4 = some [.int .i64 c0, .int .i64 c1, .int .i64 c2, .int .i64 c3] := pc_first e1 rfl HZ.out rfl
  have r19 := pc_row e1 rfl HZ.out rfl
  have r1l : W1.cellsAt ⟨B1, 155, none⟩ 4 = some [.bool front, .int .i64 ep, .int .i64 rp, .int .i64 nb] := pc_last e1 rfl HZ.out rfl
  have k1_4 : W1.cell? ⟨B1, 4, none⟩ = some (.int .i64 self) := (World.own_cell e1 4 _ (pc_get_head 4 (by simp))).1
  have k1_5 : W1.cell? ⟨B1, 5, none⟩ = some (.int .i64 epoch) := (World.own_cell e1 5 _ (pc_get_head 5 (by simp))).1
  have k1_6 : W1.cell? ⟨B1, 6, none⟩ = some (.slice ba1 base.length bc1) := (World.own_cell e1 6 _ (pc_get_head 6 (by simp))).1
  have k1_7 : W1.cell? ⟨B1, 7, none⟩ = some (.slice fa1 acts.length fc1) := (World.own_cell e1 7 _ (pc_get_head 7 (by simp))).1
  have k1_8 : W1.cell? ⟨B1, 8, none⟩ = some (.slice ha1 held.length hc1) := (World.own_cell e1 8 _ (pc_get_head 8 (by simp))).1
  have k1_153 : W1.cell? ⟨B1, 153, none⟩ = some (.slice da1 done.length dc1) := (World.own_cell e1 153 _ (pc_get_tail rfl HZ.out 0 (by simp))).1
  have k1_154 : W1.cell? ⟨B1, 154, none⟩ = some (.slice ua1 undone.length uc1) := (World.own_cell e1 154 _ (pc_get_tail rfl HZ.out 1 (by simp))).1
  have k1_159 : W1.cell? ⟨B1, 159, none⟩ = some (.slice oa1 out.length oc1) := (World.own_cell e1 159 _ (pc_get_tail rfl HZ.out 6 (by simp))).1
  have r20 : W1.cellsAt ⟨B2, 0, none⟩ 4 = some [.int .i64 c0, .int .i64 c1, .int .i64 c2, .int .i64 c3] := pc_first e2 rfl HZ.out rfl
  have r29 := pc_row e2 rfl HZ.out rfl
  have r2l : W1.cellsAt ⟨B2, 155, none⟩ 4 = some [.bool front, .int .i64 ep, .int .i64 rp, .int .i64 nb] := pc_last e2 rfl HZ.out rfl
  have k2_4 : W1.cell? ⟨B2, 4, none⟩ = some (.int .i64 self) := (World.own_cell e2 4 _ (pc_get_head 4 (by simp))).1
  have k2_5 : W1.cell? ⟨B2, 5, none⟩ = some (.int .i64 epoch) := (World.own_cell e2 5 _ (pc_get_head 5 (by simp))).1
  have k2_6 : W1.cell? ⟨B2, 6, none⟩ = some (.slice ba2 base.length bc2) := (World.own_cell e2 6 _ (pc_get_head 6 (by simp))).1
  have k2_7 : W1.cell? ⟨B2, 7, none⟩ = some (.slice fa2 acts.length fc2) := (World.own_cell e2 7 _ (pc_get_head 7 (by simp))).1
  have k2_8 : W1.cell? ⟨B2, 8, none⟩ = some (.slice ha2 held.length hc2) := (World.own_cell e2 8 _ (pc_get_head 8 (by simp))).1
  have k2_153 : W1.cell? ⟨B2, 153, none⟩ = some (.slice da2 done.length dc2) := (World.own_cell e2 153 _ (pc_get_tail rfl HZ.out 0 (by simp))).1
  have k2_154 : W1.cell? ⟨B2, 154, none⟩ = some (.slice ua2 undone.length uc2) := (World.own_cell e2 154 _ (pc_get_tail rfl HZ.out 1 (by simp))).1
  have k2_159 : W1.cell? ⟨B2, 159, none⟩ = some (.slice oa2 out.length oc2) := (World.own_cell e2 159 _ (pc_get_tail rfl HZ.out 6 (by simp))).1
  clear e1 e2
  generalize arr zs = rr at *
  have hrl : rr.toList.length = 144 := (World.cellsAt_some r19).1
  have G := Lib.hid (And.intro (range_of r19) (And.intro (range_of r29) hrl))
  clear r19 r29 hrl
  go_wp2_with fail
  refine wp_load_mid 33 (.tmp 25) (by rfl) B1 9 (by rfl) rr.toList _ G.out.1 Tryz.underlying33 rfl (by rw [G.out.2.2]; exact info_rounds) ?_
  go_wp2_with fail
  refine wp_load_mid 33 (.tmp 27) (by rfl) B2 9 (by rfl) rr.toList _ G.out.2.1 Tryz.underlying33 rfl (by rw [G.out.2.2]; exact info_rounds) ?_
  have hq := HQ.out
  go_wp2_with (first
    | (go_at_call 32; refine (EB.out _ (by repeat (first | with_reducible exact HG.out | with_reducible exact Grew.refl _ | with_reducible assumption | with_reducible apply Grew.plus | with_reducible apply Grew.drewN | with_reducible apply Grew.drew | with_reducible apply Grew.alloc | with_reducible refine Grew.setCell ?_ (by simp [go_sem]; try omega) _))).mono ?_; rintro e w' ⟨rfl, gx, rfl⟩)
    | (go_at_call 33; (first | (with_reducible refine (EF.out _ (by repeat (first | with_reducible exact HG.out | with_reducible exact Grew.refl _ | with_reducible assumption | with_reducible apply Grew.plus | with_reducible apply Grew.drewN | with_reducible apply Grew.drew | with_reducible apply Grew.alloc | with_reducible refine Grew.setCell ?_ (by simp [go_sem]; try omega) _))).mono ?_) | (with_reducible refine (EH.out _ (by repeat (first | with_reducible exact HG.out | with_reducible exact Grew.refl _ | with_reducible assumption | with_reducible apply Grew.plus | with_reducible apply Grew.drewN | with_reducible apply Grew.drew | with_reducible apply Grew.alloc | with_reducible refine Grew.setCell ?_ (by simp [go_sem]; try omega) _))).mono ?_)); rintro e w' ⟨rfl, gx, rfl⟩)
    | (go_at_call 34; refine (EO.out _ (by repeat (first | with_reducible exact HG.out | with_reducible exact Grew.refl _ | with_reducible assumption | with_reducible apply Grew.plus | with_reducible apply Grew.drewN | with_reducible apply Grew.drew | with_reducible apply Grew.alloc | with_reducible refine Grew.setCell ?_ (by simp [go_sem]; try omega) _))).mono ?_; rintro e w' ⟨rfl, gx, rfl⟩)
    | (go_at_call 35; (first | (with_reducible refine (ED.out _ (by repeat (first | with_reducible exact HG.out | with_reducible exact Grew.refl _ | with_reducible assumption | with_reducible apply Grew.plus | with_reducible apply Grew.drewN | with_reducible apply Grew.drew | with_reducible apply Grew.alloc | with_reducible refine Grew.setCell ?_ (by simp [go_sem]; try omega) _))).mono ?_) | (with_reducible refine (EU.out _ (by repeat (first | with_reducible exact HG.out | with_reducible exact Grew.refl _ | with_reducible assumption | with_reducible apply Grew.plus | with_reducible apply Grew.drewN | with_reducible apply Grew.drew | with_reducible apply Grew.alloc | with_reducible refine Grew.setCell ?_ (by simp [go_sem]; try omega) _))).mono ?_)); rintro e w' ⟨rfl, gx, rfl⟩))
  go_ret
  exact ⟨rfl, by repeat (first | with_reducible exact HG.out | with_reducible exact Grew.refl _ | with_reducible assumption | with_reducible apply Grew.plus | with_reducible apply Grew.drewN | with_reducible apply Grew.drew | with_reducible apply Grew.alloc | with_reducible refine Grew.setCell ?_ (by simp [go_sem]; try omega) _)⟩
end Go.Proofs.YtnhmekdnfinmiaaGreatDoor
