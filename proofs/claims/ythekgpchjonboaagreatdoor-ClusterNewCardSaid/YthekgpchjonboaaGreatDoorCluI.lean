/- The walk of the law ClusterNew, joined. -/
import Derived.Test.YthekgpchjonboaaGreatDoorCluH
import Derived.Test.YthekgpchjonboaaGreatDoorAbM19
namespace Go.Proofs.YthekgpchjonboaaGreatDoor
open Go.RowKit
set_option linter.unusedSimpArgs false
set_option linter.unusedVariables false
theorem refused_two {S : Nat → Addr} {w : World} (hS : Sents S w) {l c l' c' : ByteArray} {i i' : Int} {v : Value} (he : ErrAt S w (.fault l c i (.fault l' c' i' (.reason 1))) v) (a b : Option Addr) (cp : Nat) (ha : CellsIn w a (linkCells [(l, c, i), (l', c', i')])) (hb : CellsIn w b (nats [1])) (hc : 2 ≤ cp) (hm : cp ≤ 9223372036854775807) :
    Calls Tryz.prog 6 #[v, noV 1 a 2 cp b 1 1] w fun x w' => x = .returned (.bool true) ∧ Grew w w' := by
  have hn : numOf 1 = 1 := by unfold numOf; rw [if_pos (by decide)]
  have e1 : (Err.fault l c i (.fault l' c' i' (.reason 1))).code = 1 := by
    show ((Err.fault l c i (.fault l' c' i' (.reason 1))).walk codeF 99).1 = 1
    rw [Err.walk, Err.walk, Err.walk, hn]
    simp [codeF]
  have e2 : (Err.fault l c i (.fault l' c' i' (.reason 1))).codes = [1] := by
    show ((Err.fault l c i (.fault l' c' i' (.reason 1))).walk codesF []).1 = [1]
    rw [Err.walk, Err.walk, Err.walk, hn]
    simp [codesF]
  have e3 : (Err.fault l c i (.fault l' c' i' (.reason 1))).chain = [(l, c, i), (l', c', i')] := by rw [Err.chain, Err.chain, Err.chain]
  have h := refused_some hS he (by rw [Err.size, Err.size, Err.size]; omega) (by simp) (by rw [e1]; omega) a b cp 1 (by rw [e3]; exact ha) (by rw [e2]; exact hb) (by rw [e3]; exact hc) (by rw [e2]; simp) hm (by decide)
  rw [e1, e2, e3] at h
  exact h
set_option maxRecDepth 100000 in
set_option maxHeartbeats 1000000 in
theorem clusterNew_bad {S0 : Nat → Addr} {w : World} (hS : Sents S0 w) (c0 c1 c2 c3 : Int) (h : ¬ Fits0 c0 c1 c2 c3 0) :
    Calls Tryz.prog 3 #[.agg #[.int .i64 c0, .int .i64 c1, .int .i64 c2, .int .i64 c3]] w fun e w' => e = .returned (.bool true) ∧ Grew w w' := by
  have NW := Lib.hid (fun W (hW : Grew w W) => clu_wrong (hS.grew hW) c0 c1 c2 c3 h)
  have RN := Lib.hid (fun W => rclu_wrong (w := W) c0 c1 c2 c3 h)
  have HS := Lib.hid (fun W (hW : Grew w W) => hS.grew hW)
  clear h hS
  go_enter Tryz.func3, Tryz.ntmps3
  go_wp2_with fail
  refine (NW.out _ (by repeat (first | with_reducible exact HG.out | with_reducible exact Grew.refl _ | with_reducible assumption | with_reducible apply Grew.plus | with_reducible apply Grew.drewN | with_reducible apply Grew.drew | with_reducible apply Grew.alloc | with_reducible refine Grew.setCell ?_ (by simp [go_sem]; try omega) _))).mono ?_
  rintro e w1 ⟨v, rfl, he, hg1⟩
  have hc1 : w1.heap[w.heap.size]? = some (.cells #[.int .i64 c0, .int .i64 c1, .int .i64 c2, .int .i64 c3] 23 (0, 0)) := Grew.heap hg1 (heap_alloc_at _ _ _ rfl)
  have k1 := World.cellsAt_block hc1 4 rfl
  have HE := Lib.hid he
  have HG1 := Lib.hid (show Grew w w1 from Grew.trans (by repeat (first | with_reducible exact HG.out | with_reducible exact Grew.refl _ | with_reducible assumption | with_reducible apply Grew.plus | with_reducible apply Grew.drewN | with_reducible apply Grew.drew | with_reducible apply Grew.alloc | with_reducible refine Grew.setCell ?_ (by simp [go_sem]; try omega) _)) hg1)
  clear hc1 he hg1
  go_wp2_with fail
  refine (RN.out _).mono ?_
  rintro e w2 ⟨ar, cp, b5, rfl, h1, h2, h3, h4, hg2⟩
  have HC := Lib.hid h1
  have HN := Lib.hid h4
  have HG2 := Lib.hid hg2
  clear h1 h4 hg2 k1
  go_wp2_with fail
  refine (refused_two (HS.out _ (HG1.out.trans (HG2.out.trans (by repeat (first | with_reducible exact HG.out | with_reducible exact Grew.refl _ | with_reducible assumption | with_reducible apply Grew.plus | with_reducible apply Grew.drewN | with_reducible apply Grew.drew | with_reducible apply Grew.alloc | with_reducible refine Grew.setCell ?_ (by simp [go_sem]; try omega) _))))) (HE.out.grew (HG2.out.trans (by repeat (first | with_reducible exact HG.out | with_reducible exact Grew.refl _ | with_reducible assumption | with_reducible apply Grew.plus | with_reducible apply Grew.drewN | with_reducible apply Grew.drew | with_reducible apply Grew.alloc | with_reducible refine Grew.setCell ?_ (by simp [go_sem]; try omega) _)))) ar b5 cp (HC.out.grew (by repeat (first | with_reducible exact HG.out | with_reducible exact Grew.refl _ | with_reducible assumption | with_reducible apply Grew.plus | with_reducible apply Grew.drewN | with_reducible apply Grew.drew | with_reducible apply Grew.alloc | with_reducible refine Grew.setCell ?_ (by simp [go_sem]; try omega) _))) (HN.out.grew (by repeat (first | with_reducible exact HG.out | with_reducible exact Grew.refl _ | with_reducible assumption | with_reducible apply Grew.plus | with_reducible apply Grew.drewN | with_reducible apply Grew.drew | with_reducible apply Grew.alloc | with_reducible refine Grew.setCell ?_ (by simp [go_sem]; try omega) _))) h2 h3).mono ?_
  rintro e w' ⟨rfl, gx, rfl⟩
  go_wp2_with fail
  refine (wakes19 _).mono ?_
  rintro e w' ⟨rfl, gy, rfl⟩
  go_wp2_with fail
  go_ret
  exact ⟨rfl, HG1.out.trans (HG2.out.trans (by repeat (first | with_reducible exact HG.out | with_reducible exact Grew.refl _ | with_reducible assumption | with_reducible apply Grew.plus | with_reducible apply Grew.drewN | with_reducible apply Grew.drew | with_reducible apply Grew.alloc | with_reducible refine Grew.setCell ?_ (by simp [go_sem]; try omega) _)))⟩
set_option maxRecDepth 100000 in
set_option maxHeartbeats 1000000 in
theorem clusterNew_good {w : World} (c0 c1 c2 c3 : Int) (h0 : 1 ≤ c0) (h0' : c0 ≤ 8) (h1 : 0 ≤ c1) (h1' : c1 ≤ 65536) (h2 : 1 ≤ c2) (h2' : c2 ≤ 256) (h3 : 0 ≤ c3) (h3' : c3 ≤ 256) :
    Calls Tryz.prog 3 #[.agg #[.int .i64 c0, .int .i64 c1, .int .i64 c2, .int .i64 c3]] w fun e w' => e = .returned (.bool true) ∧ Grew w w' := by
  have heqL : ∀ W, (Op.equalIn 10000 tLoad (.agg #[.int .i64 0, .int .i64 0]) (.agg #[.int .i64 0, .int .i64 0])).run Tryz.prog W = .ok true W := fun W => Ab.prun_run (by kernel_rfl) W
  have NW := Lib.hid (fun W => clu_new W c0 c1 c2 c3 h0 h0' h1 h1' h2 h2' h3 h3')
  have RN := Lib.hid (fun W => rclu_new W c0 c1 c2 c3 h0 h0' h1 h1' h2 h2' h3 h3')
  have RF := Lib.hid (fun W => rfit W c0 c1 c2 c3 0 h0 h0' h1 h1' h2 h2' h3 h3' (by omega) (by omega))
  have H08 := Lib.hid (And.intro h0 h0')
  clear h0 h0' h1 h1' h2 h2' h3 h3'
  go_enter Tryz.func3, Tryz.ntmps3
  go_wp2_with fail
  refine (NW.out _).mono ?_
  rintro e w1 ⟨C, B, m, a, cap, rs, rfl, hg1, hr⟩
  have hc1 : w1.heap[w.heap.size]? = some (.cells #[.int .i64 c0, .int .i64 c1, .int .i64 c2, .int .i64 c3] 23 (0, 0)) := Grew.heap hg1 (heap_alloc_at _ _ _ rfl)
  have k1 := World.cellsAt_block hc1 4 rfl
  have HR := Lib.hid hr
  have HG1 := Lib.hid (show Grew w w1 from Grew.trans (by repeat (first | with_reducible exact HG.out | with_reducible exact Grew.refl _ | with_reducible assumption | with_reducible apply Grew.plus | with_reducible apply Grew.drewN | with_reducible apply Grew.drew | with_reducible apply Grew.alloc | with_reducible refine Grew.setCell ?_ (by simp [go_sem]; try omega) _)) hg1)
  have HC1 := Lib.hid hc1
  clear hc1 hr hg1
  go_wp2_with fail
  refine (RN.out _).mono ?_
  rintro e w2 ⟨C', B', a', cap', qs, rfl, hg2, hd⟩
  have hc2 := Grew.heap hg2 HC1.out
  have k1 := World.cellsAt_block hc2 4 rfl
  have lc2 := (Array.getElem?_eq_some_iff.1 hc2).1
  have HG2 := Lib.hid hg2
  have HD := Lib.hid hd
  clear hg2 hd hc2
  go_wp2_with fail
  refine (refused_none none none 0 0 0 0 _).mono ?_
  rintro e w' ⟨rfl, gx, rfl⟩
  go_wp2_with fail
  have hg8 : Grew w2 (((w2.alloc (.cells #[.int .i64 0, .slice none 0 0, .slice none 0 0] 33)).plus gx).alloc (.cells #[ptr C, ptr C'] 40)) := by repeat (first | with_reducible exact HG.out | with_reducible exact Grew.refl _ | with_reducible assumption | with_reducible apply Grew.plus | with_reducible apply Grew.drewN | with_reducible apply Grew.drew | with_reducible apply Grew.alloc | with_reducible refine Grew.setCell ?_ (by simp [go_sem]; try omega) _)
  have hV : (((w2.alloc (.cells #[.int .i64 0, .slice none 0 0, .slice none 0 0] 33)).plus gx).alloc (.cells #[ptr C, ptr C'] 40)).heap[w2.heap.size + 1 + gx.blocks.size]? = some (.cells #[ptr C, ptr C'] 40 (0, 0)) := heap_alloc_at _ _ _ (by simp [go_sem])
  generalize (((w2.alloc (.cells #[.int .i64 0, .slice none 0 0, .slice none 0 0] 33)).plus gx).alloc (.cells #[ptr C, ptr C'] 40)) = W8 at *
  generalize w2.heap.size + 1 + gx.blocks.size = V at *
  have hc8 := Grew.heap (HG2.out.trans hg8) HC1.out
  have lc8 := (Array.getElem?_eq_some_iff.1 hc8).1
  have k4 := World.cellsAt_block hc8 4 rfl
  have HE := Lib.hid (fun W (hW : Grew W8 W) => (HR.out.grew (HG2.out.trans hg8)).grew hW)
  have hn0 : 0 < rs.length := by have := HR.out.len; have := H08.out.1; omega
  have HLd : Hid (∀ W, Grew W8 W → Calls Tryz.prog 12 #[ptr C] W fun e w' => e = .returned (.agg #[.int .i64 0, .int .i64 0]) ∧ Grew W w') := Lib.hid fun W hW => clu_load (HE.out W hW) hn0
  have PS := pair_same (World.own_cell hV 0 _ rfl).1 (World.own_cell hV 1 _ rfl).1 (HR.out.grew (HG2.out.trans hg8)) (HD.out.grew hg8) H08.out.1 H08.out.2
  have HG8 := Lib.hid (HG1.out.trans (HG2.out.trans hg8))
  clear hg8 hV hc8 hn0 k1
  refine PS.mono ?_
  rintro e w' ⟨rfl, gy, rfl⟩
  clear PS
  go_wp2_with (first
    | (go_at_call 9; refine (RF.out _).mono ?_; rintro e w' ⟨rfl, gx1, rfl⟩)
    | (go_at_call 10; refine (clu_bag (HE.out _ (by repeat (first | with_reducible exact HG.out | with_reducible exact Grew.refl _ | with_reducible assumption | with_reducible apply Grew.plus | with_reducible apply Grew.drewN | with_reducible apply Grew.drew | with_reducible apply Grew.alloc | with_reducible refine Grew.setCell ?_ (by simp [go_sem]; try omega) _)))).mono ?_; rintro e w' ⟨rfl, rfl⟩)
    | (go_at_call 11; refine (bag_len (HE.out _ (by repeat (first | with_reducible exact HG.out | with_reducible exact Grew.refl _ | with_reducible assumption | with_reducible apply Grew.plus | with_reducible apply Grew.drewN | with_reducible apply Grew.drew | with_reducible apply Grew.alloc | with_reducible refine Grew.setCell ?_ (by simp [go_sem]; try omega) _)))).mono ?_; rintro e w' ⟨rfl, rfl⟩)
    | (go_at_call 12; refine (HLd.out _ (by repeat (first | with_reducible exact HG.out | with_reducible exact Grew.refl _ | with_reducible assumption | with_reducible apply Grew.plus | with_reducible apply Grew.drewN | with_reducible apply Grew.drew | with_reducible apply Grew.alloc | with_reducible refine Grew.setCell ?_ (by simp [go_sem]; try omega) _))).mono ?_; rintro e w' ⟨rfl, gx2, rfl⟩)
    | (go_at_call 7; refine (wakes19 _).mono ?_; rintro e w' ⟨rfl, gx3, rfl⟩))
  go_ret
  exact ⟨rfl, HG8.out.trans (by repeat (first | with_reducible exact HG.out | with_reducible exact Grew.refl _ | with_reducible assumption | with_reducible apply Grew.plus | with_reducible apply Grew.drewN | with_reducible apply Grew.drew | with_reducible apply Grew.alloc | with_reducible refine Grew.setCell ?_ (by simp [go_sem]; try omega) _))⟩
theorem clusterNew_walk {S0 : Nat → Addr} {w : World} (hS : Sents S0 w) (c0 c1 c2 c3 : Int) :
    Calls Tryz.prog 3 #[.agg #[.int .i64 c0, .int .i64 c1, .int .i64 c2, .int .i64 c3]] w fun e w' => e = .returned (.bool true) ∧ Grew w w' := by
  by_cases h : Fits0 c0 c1 c2 c3 0
  · obtain ⟨h0, h1, h2, h3, h4, h5, h6, h7, h8, h9⟩ := h
    exact clusterNew_good c0 c1 c2 c3 h0 h1 h2 h3 h4 h5 h6 h7
  · exact clusterNew_bad hS c0 c1 c2 c3 h
end Go.Proofs.YthekgpchjonboaaGreatDoor
