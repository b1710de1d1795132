/- Walks: New of the document's cluster, of a configuration that fits. -/
import Derived.Test.YthekgpchjonboaaGreatDoorCluB
namespace Go.Proofs.YthekgpchjonboaaGreatDoor
open Go.RowKit
set_option linter.unusedSimpArgs false
set_option linter.unusedVariables false
set_option maxRecDepth 100000 in
set_option maxHeartbeats 1000000 in
theorem rclu_new (w : World) (c0 c1 c2 c3 : Int) (h0 : 1 ≤ c0) (h0' : c0 ≤ 8) (h1 : 0 ≤ c1) (h1' : c1 ≤ 65536) (h2 : 1 ≤ c2) (h2' : c2 ≤ 256) (h3 : 0 ≤ c3) (h3' : c3 ≤ 256) :
    Calls Tryz.prog 5 #[.agg #[.int .i64 c0, .int .i64 c1, .int .i64 c2, .int .i64 c3]] w fun e w' => ∃ C B a cap rs, e = .returned (.tuple #[ptr C, no0]) ∧ Grew w w' ∧ DCl w' C B a cap rs c0 c1 c2 c3 := by
  have RN := Lib.hid (fun W s hs hs' => ref16_new W c0 c1 c2 c3 s h0 h0' h1 h1' h2 h2' h3 h3' hs hs')
  go_enter Tryz.func5, Tryz.ntmps5
  go_wp2_with (go_at_call 16; refine (RN.out _ 0 (by omega) (by omega)).mono ?_; rintro e w1 ⟨Q, G, I, D, S, rfl, hg1, hr1⟩; have hcf := Grew.heap hg1 (Grew.heap ((Grew.refl _).alloc _) (heap_alloc_at w (.cells #[.int .i64 c0, .int .i64 c1, .int .i64 c2, .int .i64 c3] 23) _ rfl)); have hno := Grew.heap hg1 (heap_alloc_at _ _ _ rfl); have k1 := World.cellsAt_block hcf 4 rfl; have HG1 := Lib.hid hg1; have HCF := Lib.hid hcf; have HNO := Lib.hid hno; clear hg1 hr1 hcf hno)
  have HGW := Lib.hid (show Grew w w1 from Grew.trans (by repeat (first | with_reducible exact HG.out | with_reducible exact Grew.refl _ | with_reducible assumption | with_reducible apply Grew.plus | with_reducible apply Grew.drewN | with_reducible apply Grew.drew | with_reducible apply Grew.alloc | with_reducible refine Grew.setCell ?_ (by simp [go_sem]; try omega) _)) HG1.out)
  have hss : w.heap.size + 1 < w1.heap.size := by have := HG1.out.size; simp [h1a] at this; omega
  have HN1 := Lib.hid (show w1.heap[w.heap.size + 1]? = some (.cells #[.int .i64 0, .slice none 0 0, .slice none 0 0] 33 (0, 0)) by have := HNO.out; rwa [h1a] at this)
  have HZ := Lib.hid h0'
  clear k1
  go_loopw [7] (fun i wr => ∃ (k : Nat) (a : Option Addr) (cap : Nat) (rs : List Nat), (k : Int) ≤ c0 ∧ i = .int .i64 k ∧ rs.length = k ∧ Grew w wr ∧ wr.ownsRow (w1.heap.size + 2) tPDRep 1 (.slice a k cap) k (ptrs rs) ∧ wr.heap[w1.heap.size + 1]? = some (.cells #[.int .i64 c0, .int .i64 c1, .int .i64 c2, .int .i64 c3, .slice a k cap, .pointer none, nilS, nilS] tDCl (0, 0)) ∧ wr.heap[w.heap.size]? = some (.cells #[.int .i64 c0, .int .i64 c1, .int .i64 c2, .int .i64 c3] 23 (0, 0)) ∧ wr.heap[w.heap.size + 1]? = some (.cells #[.int .i64 0, .slice none 0 0, .slice none 0 0] 33 (0, 0)) ∧ wr.heap[w1.heap.size]? = some (.cells #[.int .i64 0, .slice none 0 0, .slice none 0 0] 33 (0, 0)) ∧ DReps wr rs c0 c1 c2 c3) (fun i _ => 8 - (intOf i).toNat)
  case atStart =>
    refine ⟨0, none, 0, [], by omega, rfl, rfl, (HGW.out.alloc _).alloc _, World.ownsRow_nil _ _ _ _, heap_alloc_at _ _ _ (by simp [h1a]), ?_, ?_, ?_, DReps.nil⟩
    · exact Grew.heap (((Grew.refl _).alloc _).alloc _) HCF.out
    · exact Grew.heap (((Grew.refl _).alloc _).alloc _) HN1.out
    · exact Grew.heap ((Grew.refl _).alloc _) (heap_alloc_at _ _ _ rfl)
  case round =>
    obtain ⟨k, a, cap, rs, hk, rfl, hlen, hg, hown, hC, hcfg, hn1, hn2, hr⟩ := hrel
    have HO := Lib.hid hown
    have HR := Lib.hid hr
    have HG := Lib.hid hg
    have HC := Lib.hid hC
    have HF := Lib.hid hcfg
    have HM := Lib.hid hn1
    have HM2 := Lib.hid hn2
    have k1 := World.cellsAt_block hcfg 4 rfl
    have k0 : wr.cell? ⟨w.heap.size, 0, none⟩ = some (.int .i64 c0) := (World.own_cell hcfg 0 _ rfl).1
    have hsz := (Array.getElem?_eq_some_iff.1 hC).1
    clear hown hr hg hC hcfg hn1 hn2
    by_cases hlt : (k : Int) < c0
    · go_wp2_with (first
        | (go_at_call 16; refine (RN.out _ _ (by omega) hlt).mono ?_; rintro e w2 ⟨Q, G, I, D, S, rfl, hg1, hr1⟩; have hC1 := Grew.heap hg1 HC.out; obtain ⟨q0, f0⟩ : w2.cell? ⟨w1.heap.size + 1, 4, none⟩ = some (.slice a k cap) ∧ w2.frozen? ⟨w1.heap.size + 1, 4, none⟩ = false := World.own_cell hC1 4 _ rfl; have hz2 : w1.heap.size + 1 < w2.heap.size := (Array.getElem?_eq_some_iff.1 hC1).1; have HG2 := Lib.hid hg1; have HR1 := Lib.hid hr1; have HC1 := Lib.hid hC1; clear hg1 hr1 hC1 k1 k0)
        | (at_builtin; refine wpList_app (by rfl) (.tmp 39) (.tmp 41) 64 (by rfl) elPDRep (w1.heap.size + 2) _ k (ptrs rs) (by rfl) (HO.out.grew ((HG2.out.alloc _).alloc _)) _ 1 1 #[ptr Q] tPDRep (by rfl) (heap_alloc_at _ _ _ (by simp [go_sem])) (by rfl) (by intro u hu; simp at hu; subst hu; rfl) (by omega) (by omega) (by unfold maxLen; omega) w (((HG.out.trans HG2.out).alloc _).alloc _) (by omega) (by simp [go_sem]; omega) ?_; intro g c2 w3 hg3 hown3 hkeep3 hsz3 hat3; have hC3 := World.kept_block hkeep3 (Grew.heap (((Grew.refl w2).alloc _).alloc _) HC1.out) (own_neC HO.out _ (by omega)); obtain ⟨q3, f3⟩ : w3.cell? ⟨w1.heap.size + 1, 4, none⟩ = some (.slice a k cap) ∧ w3.frozen? ⟨w1.heap.size + 1, 4, none⟩ = false := World.own_cell hC3 4 _ rfl; have HC3 := Lib.hid hC3; have HF3 := Lib.hid (World.kept_block hkeep3 (Grew.heap ((HG2.out.alloc _).alloc _) HF.out) (own_neC HO.out _ (by omega))); have HM3 := Lib.hid (World.kept_block hkeep3 (Grew.heap ((HG2.out.alloc _).alloc _) HM.out) (own_neC HO.out _ (by omega))); have HN3 := Lib.hid (World.kept_block hkeep3 (Grew.heap ((HG2.out.alloc _).alloc _) HM2.out) (own_neC HO.out _ (by omega))); have HR3 := Lib.hid (((HR.out.grew HG2.out).push (by rw [hlen]; exact HR1.out)).keptBut ((KeptBut.of_grew (((Grew.refl w2).alloc _).alloc _)).trans (KeptBut.of_row (by simp) (HO.out.grew ((HG2.out.alloc _).alloc _)) hkeep3))); have hown4 : w3.ownsRow (w1.heap.size + 2) tPDRep 1 (.slice (some ⟨g, 0, none⟩) (k + 1) c2) (k + 1) (ptrs (rs ++ [Q])) := (by rw [ptrs_push]; exact hown3); have HO3 := Lib.hid hown4; have HG3 := Lib.hid hg3; clear hC3 hown3 hown4 hkeep3 hg3 hat3 hsz3 q0 f0))
      go_roundw
      case rel =>
        refine ⟨k + 1, some ⟨g, 0, none⟩, c2, rs ++ [Q], by omega, by go_num, by simp [hlen], HG3.out.setCell (by simp only []; omega) _, HO3.out.setOther (own_neC HO3.out _ (by omega)) _, World.own_set2 HC3.out 4 _ _ rfl, ?_, ?_, ?_, HR3.out.keptBut (KeptBut.of_set (by simp) HC3.out _)⟩
        · rw [World.block_setCell _ _ _ _ (show w.heap.size ≠ w1.heap.size + 1 by omega)]; exact HF3.out
        · rw [World.block_setCell _ _ _ _ (show w.heap.size + 1 ≠ w1.heap.size + 1 by omega)]; exact HM3.out
        · rw [World.block_setCell _ _ _ _ (show w1.heap.size ≠ w1.heap.size + 1 by omega)]; exact HN3.out
      case measure => simp [intOf]; omega
    · have hkc : (k : Int) = c0 := by omega
      go_wp2_with (go_at_call 18; refine (rbag_new _).mono ?_; rintro e w2 ⟨B, rfl, hg1, hb1⟩; have hC1 := Grew.heap hg1 HC.out; obtain ⟨q1, f1⟩ : w2.cell? ⟨w1.heap.size + 1, 5, none⟩ = some (.pointer none) ∧ w2.frozen? ⟨w1.heap.size + 1, 5, none⟩ = false := World.own_cell hC1 5 _ rfl; have HG2 := Lib.hid hg1; have HB1 := Lib.hid hb1; have HC1 := Lib.hid hC1; clear hg1 hb1 hC1 k1 k0)
      have hcp := HO.out.caps
      have hbC : B ≠ w1.heap.size + 1 := fun e => by have h1 := HB1.out; rw [e, HC1.out] at h1; injection h1 with h1; injection h1 with _ h1 _; exact absurd h1 (by decide)
      have hD : DCl (w2.setCell ⟨w1.heap.size + 1, 5, none⟩ (ptr B)) (w1.heap.size + 1) B a cap rs c0 c1 c2 c3 := by
        refine ⟨by rw [hlen]; exact World.own_set2 HC1.out 5 _ _ rfl, ?_, ((HO.out.grew HG2.out).setOther (own_neC HO.out _ (by omega)) _).cin, by rw [hlen]; exact hcp, by rw [hlen]; exact hkc, (HR.out.grew HG2.out).keptBut (KeptBut.of_set (by simp) HC1.out _)⟩
        rw [World.block_setCell _ _ _ _ hbC]; exact HB1.out
      have hgD : Grew w (w2.setCell ⟨w1.heap.size + 1, 5, none⟩ (ptr B)) := (HG.out.trans HG2.out).setCell (by simp only []; omega) _
      have hb3 : (w2.setCell ⟨w1.heap.size + 1, 5, none⟩ (ptr B)).heap[w.heap.size + 1]? = some (.cells #[.int .i64 0, .slice none 0 0, .slice none 0 0] 33 (0, 0)) := by
        rw [World.block_setCell _ _ _ _ (show w.heap.size + 1 ≠ w1.heap.size + 1 by omega)]; exact Grew.heap HG2.out HM.out
      have hb5 : (w2.setCell ⟨w1.heap.size + 1, 5, none⟩ (ptr B)).heap[w1.heap.size]? = some (.cells #[.int .i64 0, .slice none 0 0, .slice none 0 0] 33 (0, 0)) := by
        rw [World.block_setCell _ _ _ _ (show w1.heap.size ≠ w1.heap.size + 1 by omega)]; exact Grew.heap HG2.out HM2.out
      generalize (w2.setCell ⟨w1.heap.size + 1, 5, none⟩ (ptr B)) = w3 at *
      have HD := Lib.hid hD
      have HGD := Lib.hid hgD
      have hl3 := (Array.getElem?_eq_some_iff.1 hb3).1
      have hl5 := (Array.getElem?_eq_some_iff.1 hb5).1
      have HB3 := Lib.hid hb3
      obtain ⟨n0, m0⟩ := World.own_cell hb3 0 _ rfl
      obtain ⟨n1, m1⟩ := World.own_cell hb3 1 _ rfl
      obtain ⟨n2, m2⟩ := World.own_cell hb3 2 _ rfl
      have l5 := World.cellsAt_block hb5 3 rfl
      simp only [List.getElem_toArray, List.getElem_cons_zero, List.getElem_cons_succ] at n0 n1 n2
      clear hD hgD hb3 hb5 q1 f1
      refine wp_region_plus_tail 3 (by kernel_rfl) (by kernel_rfl) ?_
      simp only [List.take_succ_cons, List.take_zero, List.drop_succ_cons, List.drop_zero]
      repeat (go_big_quiet_step ((first | fail)))
      refine wpQuiet_nil ?_
      intro _ hw'
      obtain ⟨nx, rfl⟩ := hw'
      go_wp2_with fail
      rw [setCell_id n0, setCell_id n1, setCell_id n2]
      exact bodyPost_ret (v := .tuple #[ptr (w1.heap.size + 1), no0]) (by simp [results, Tryz.results5, go_sem, n0, n1, n2]) rfl ⟨_, rfl, HGD.out.plus nx, B, a, cap, rs, HD.out.grew ((Grew.refl _).plus nx)⟩
end Go.Proofs.YthekgpchjonboaaGreatDoor
