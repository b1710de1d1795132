/- Walks: New of both clusters, of a configuration that fits. -/
import Derived.Test.YthekgpchjonboaaGreatDoorCluA
namespace Go.Proofs.YthekgpchjonboaaGreatDoor
open Go.RowKit
set_option linter.unusedSimpArgs false
set_option linter.unusedVariables false
theorem own_neC {w : World} {base : Nat} {e : TypeId} {size n : Nat} {v : Value} {xs : List Value} (h : w.ownsRow base e size v n xs) (q : Nat) (hq : q < base) : v.ownBlock ≠ some q := fun e => by have := (h.lt q e).1; omega
theorem bag_new (w : World) : Calls Tryz.prog 15 #[.int .i64 4096] w fun e w' => ∃ B, e = .returned (.tuple #[ptr B, .nilIface]) ∧ Grew w w' ∧ w'.heap[B]? = some (.cells #[.int .i64 4096, .int .i64 0, nilS, .int .i64 0, .int .i64 0, .int .i64 0, .int .i64 0] tBag (0, 0)) := by
  go_enter Tryz.func15, Tryz.ntmps15
  go_wp2
  go_ret2
  exact ⟨_, rfl, by repeat (first | with_reducible exact HG.out | with_reducible exact Grew.refl _ | with_reducible assumption | with_reducible apply Grew.plus | with_reducible apply Grew.drewN | with_reducible apply Grew.drew | with_reducible apply Grew.alloc | with_reducible refine Grew.setCell ?_ (by simp [go_sem]; try omega) _), heap_alloc_at _ _ _ rfl⟩
theorem rbag_new (w : World) : Calls Tryz.prog 18 #[.int .i64 4096] w fun e w' => ∃ B, e = .returned (.tuple #[ptr B, no0]) ∧ Grew w w' ∧ w'.heap[B]? = some (.cells #[.int .i64 4096, .int .i64 1, nilS, .int .i64 0, .int .i64 0, .int .i64 0, .int .i64 0] tDBag (0, 0)) := by
  go_enter Tryz.func18, Tryz.ntmps18
  go_wp2
  exact bodyPost_ret (v := .tuple #[ptr (w.heap.size + 1), no0]) (by simp [results, Tryz.results18, go_sem]) rfl ⟨_, rfl, by repeat (first | with_reducible exact HG.out | with_reducible exact Grew.refl _ | with_reducible assumption | with_reducible apply Grew.plus | with_reducible apply Grew.drewN | with_reducible apply Grew.drew | with_reducible apply Grew.alloc | with_reducible refine Grew.setCell ?_ (by simp [go_sem]; try omega) _), heap_alloc_at _ _ _ (by simp [go_sem])⟩
set_option maxRecDepth 100000 in
set_option maxHeartbeats 1000000 in
theorem clu_new (w : World) (c0 c1 c2 c3 : Int) (h0 : 1 ≤ c0) (h0' : c0 ≤ 8) (h1 : 0 ≤ c1) (h1' : c1 ≤ 65536) (h2 : 1 ≤ c2) (h2' : c2 ≤ 256) (h3 : 0 ≤ c3) (h3' : c3 ≤ 256) :
    Calls Tryz.prog 4 #[.agg #[.int .i64 c0, .int .i64 c1, .int .i64 c2, .int .i64 c3]] w fun e w' => ∃ C B m a cap rs, e = .returned (.tuple #[ptr C, .nilIface]) ∧ Grew w w' ∧ ECl w' C B m a cap rs c0 c1 c2 c3 := by
  have RN := Lib.hid (fun W s hs hs' => rep_new W c0 c1 c2 c3 s h0 h0' h1 h1' h2 h2' h3 h3' hs hs')
  have hmm := @run_makeMap Tryz.prog
  have m1 : min c0 8 = c0 := by omega
  have m2 : max 1 c0 = c0 := by omega
  go_enter Tryz.func4, Tryz.ntmps4
  go_wp2_with fail
  clear hmm
  have HZ := Lib.hid h0'
  go_loopw [15] (fun i wr => ∃ (k : Nat) (a : Option Addr) (cap : Nat) (rs : List Nat), (k : Int) ≤ c0 ∧ i = .int .i64 k ∧ rs.length = k ∧ Grew w wr ∧ wr.ownsRow (w.heap.size + 3) tPRep 1 (.slice a k cap) k (ptrs rs) ∧ wr.heap[w.heap.size + 1 + 1]? = some (.cells #[.slice a k cap, .pointer none, nilS, .map (some (w.heap.size + 1))] tCl (0, 0)) ∧ wr.heap[w.heap.size]? = some (.cells #[.int .i64 c0, .int .i64 c1, .int .i64 c2, .int .i64 c3] 23 (0, 0)) ∧ wr.heap[w.heap.size + 1]? = some (.map #[] 0) ∧ EReps wr rs c0 c1 c2 c3) (fun i _ => 8 - (intOf i).toNat)
  case atStart =>
    refine ⟨0, none, 0, [], by omega, rfl, rfl, by repeat (first | with_reducible exact HG.out | with_reducible exact Grew.refl _ | with_reducible assumption | with_reducible apply Grew.plus | with_reducible apply Grew.drewN | with_reducible apply Grew.drew | with_reducible apply Grew.alloc | with_reducible refine Grew.setCell ?_ (by simp [go_sem]; try omega) _), World.ownsRow_nil _ _ _ _, heap_alloc_at _ _ _ (by simp [h1a]), ?_, ?_, EReps.nil⟩
    · exact Grew.heap (((Grew.refl _).alloc _).alloc _) (heap_alloc_at _ _ _ rfl)
    · exact Grew.heap ((Grew.refl _).alloc _) (heap_alloc_at _ _ _ (by simp [h1a]))
  case round =>
    obtain ⟨k, a, cap, rs, hk, rfl, hlen, hg, hown, hC, hcfg, hm, hr⟩ := hrel
    have HO := Lib.hid hown
    have HR := Lib.hid hr
    have HG := Lib.hid hg
    have HC := Lib.hid hC
    have HF := Lib.hid hcfg
    have HM := Lib.hid hm
    have k1 := World.cellsAt_block hcfg 4 rfl
    have hsz := (Array.getElem?_eq_some_iff.1 hC).1
    clear hown hr hg hC hcfg hm
    by_cases hlt : (k : Int) < c0
    · go_wp2_with (first
        | (go_at_call 13; refine (RN.out _ _ (by omega) hlt).mono ?_; rintro e w1 ⟨R, L, M, T, Bi, Bb, I, D, S, Bh, rfl, hg1, hr1⟩; have hC1 := Grew.heap hg1 HC.out; obtain ⟨q0, f0⟩ : w1.cell? ⟨w.heap.size + 1 + 1, 0, none⟩ = some (.slice a k cap) ∧ w1.frozen? ⟨w.heap.size + 1 + 1, 0, none⟩ = false := World.own_cell hC1 0 _ rfl; have HG1 := Lib.hid hg1; have HR1 := Lib.hid hr1; have HC1 := Lib.hid hC1; clear hg1 hr1 hC1 k1)
        | (at_builtin; refine wpList_app (by rfl) (.tmp 32) (.tmp 34) 50 (by rfl) elPRep (w.heap.size + 3) _ k (ptrs rs) (by rfl) (HO.out.grew (HG1.out.alloc _)) _ 1 1 #[ptr R] tPRep (by rfl) (heap_alloc_at _ _ _ (by simp [go_sem])) (by rfl) (by intro u hu; simp at hu; subst hu; rfl) (by omega) (by omega) (by unfold maxLen; omega) w ((HG.out.trans HG1.out).alloc _) (by omega) (by have := HG1.out.size; simp [go_sem]; omega) ?_; intro g c2 w2 hg2 hown2 hkeep2 hsz2 hat2; have hC2 := World.kept_block hkeep2 (Grew.heap ((Grew.refl w1).alloc _) HC1.out) (own_neC HO.out _ (by omega)); obtain ⟨q2, f2⟩ : w2.cell? ⟨w.heap.size + 1 + 1, 0, none⟩ = some (.slice a k cap) ∧ w2.frozen? ⟨w.heap.size + 1 + 1, 0, none⟩ = false := World.own_cell hC2 0 _ rfl; have HC2 := Lib.hid hC2; have HF2 := Lib.hid (World.kept_block hkeep2 (Grew.heap (HG1.out.alloc _) HF.out) (own_neC HO.out _ (by omega))); have HM2 := Lib.hid (World.kept_block hkeep2 (Grew.heap (HG1.out.alloc _) HM.out) (own_neC HO.out _ (by omega))); have HR2 := Lib.hid (((HR.out.grew HG1.out).push (by rw [hlen]; exact HR1.out)).keptBut ((KeptBut.of_grew ((Grew.refl w1).alloc _)).trans (KeptBut.of_row (by simp) (HO.out.grew (HG1.out.alloc _)) hkeep2))); have hown3 : w2.ownsRow (w.heap.size + 3) tPRep 1 (.slice (some ⟨g, 0, none⟩) (k + 1) c2) (k + 1) (ptrs (rs ++ [R])) := (by rw [ptrs_push]; exact hown2); have HO2 := Lib.hid hown3; have HG2 := Lib.hid hg2; have HS2 := Lib.hid hsz2; clear hC2 hown2 hown3 hkeep2 hg2 hat2 hsz2 q0 f0))
      go_roundw
      case rel =>
        refine ⟨k + 1, some ⟨g, 0, none⟩, c2, rs ++ [R], by omega, by go_num, by simp [hlen], HG2.out.setCell (by simp only []; omega) _, HO2.out.setOther (own_neC HO2.out _ (by omega)) _, World.own_set2 HC2.out 0 _ _ rfl, ?_, ?_, HR2.out.keptBut (KeptBut.of_set (by simp) HC2.out _)⟩
        · rw [World.block_setCell _ _ _ _ (show w.heap.size ≠ w.heap.size + 1 + 1 by omega)]; exact HF2.out
        · rw [World.block_setCell _ _ _ _ (show w.heap.size + 1 ≠ w.heap.size + 1 + 1 by omega)]; exact HM2.out
      case measure => simp [intOf]; omega
    · have hkc : (k : Int) = c0 := by omega
      go_wp2_with (go_at_call 15; refine (bag_new _).mono ?_; rintro e w1 ⟨B, rfl, hg1, hb1⟩; have hC1 := Grew.heap hg1 HC.out; obtain ⟨q1, f1⟩ : w1.cell? ⟨w.heap.size + 1 + 1, 1, none⟩ = some (.pointer none) ∧ w1.frozen? ⟨w.heap.size + 1 + 1, 1, none⟩ = false := World.own_cell hC1 1 _ rfl; have HG1 := Lib.hid hg1; have HB1 := Lib.hid hb1; have HC1 := Lib.hid hC1; clear hg1 hb1 hC1 k1)
      have hcp := HO.out.caps
      have hbC : B ≠ w.heap.size + 1 + 1 := fun e => by have h1 := HB1.out; rw [e, HC1.out] at h1; injection h1 with h1; injection h1 with _ h1 _; exact absurd h1 (by decide)
      go_ret2
      refine ⟨w.heap.size + 1 + 1, B, w.heap.size + 1, a, cap, rs, rfl, (HG.out.trans HG1.out).setCell (by simp only []; omega) _, ?_⟩
      refine ⟨by rw [hlen]; exact World.own_set2 HC1.out 1 _ _ rfl, ?_, ?_, ((HO.out.grew HG1.out).setOther (own_neC HO.out _ (by omega)) _).cin, by rw [hlen]; exact hcp, by rw [hlen]; exact hkc, (HR.out.grew HG1.out).keptBut (KeptBut.of_set (by simp) HC1.out _)⟩
      · rw [World.block_setCell _ _ _ _ (show w.heap.size + 1 ≠ w.heap.size + 1 + 1 by omega)]; exact Grew.heap HG1.out HM.out
      · rw [World.block_setCell _ _ _ _ hbC]; exact HB1.out
end Go.Proofs.YthekgpchjonboaaGreatDoor
