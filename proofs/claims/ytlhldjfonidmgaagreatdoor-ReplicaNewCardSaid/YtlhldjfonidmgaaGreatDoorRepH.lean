/- The walk of the law ReplicaNew, joined. -/
import Derived.Test.YtlhldjfonidmgaaGreatDoorRepG
namespace Go.Proofs.YtlhldjfonidmgaaGreatDoor
open Go.RowKit
set_option linter.unusedSimpArgs false
set_option linter.unusedVariables false
theorem refused_one1 {S : Nat → Addr} {w : World} (hS : Sents S w) {l c : ByteArray} {i : Int} {v : Value} (he : ErrAt S w (.fault l c i (.reason 1)) v) (a b : Option Addr) (cp : Nat) (ha : CellsIn w a (linkCells [(l, c, i)])) (hb : CellsIn w b (nats [1])) (hc : 1 ≤ cp) (hm : cp ≤ 9223372036854775807) :
    Calls Tryz.prog 8 #[v, noV 1 a 1 cp b 1 1] w fun x w' => x = .returned (.bool true) ∧ Grew w w' := by
  have hn : numOf 1 = 1 := by unfold numOf; rw [if_pos (by decide)]
  have e1 : (Err.fault l c i (.reason 1)).code = 1 := by
    show ((Err.fault l c i (.reason 1)).walk codeF 99).1 = 1
    rw [Err.walk, Err.walk, hn]
    simp [codeF]
  have e2 : (Err.fault l c i (.reason 1)).codes = [1] := by
    show ((Err.fault l c i (.reason 1)).walk codesF []).1 = [1]
    rw [Err.walk, Err.walk, hn]
    simp [codesF]
  have e3 : (Err.fault l c i (.reason 1)).chain = [(l, c, i)] := by rw [Err.chain, Err.chain]
  have h := refused_some hS he (by rw [Err.size, Err.size]; omega) (by simp) (by rw [e1]; omega) a b cp 1 (by rw [e3]; exact ha) (by rw [e2]; exact hb) (by rw [e3]; exact hc) (by rw [e2]; simp) hm (by decide)
  rw [e1, e2, e3] at h
  exact h
set_option maxRecDepth 100000 in
set_option maxHeartbeats 1000000 in
theorem replicaNew_bad {S0 : Nat → Addr} {w : World} (hS : Sents S0 w) (c0 c1 c2 c3 s : Int) (h : ¬ (1 ≤ c0 ∧ c0 ≤ 8 ∧ 0 ≤ c1 ∧ c1 ≤ 65536 ∧ 1 ≤ c2 ∧ c2 ≤ 256 ∧ 0 ≤ c3 ∧ c3 ≤ 256 ∧ 0 ≤ s ∧ s < c0)) :
    Calls Tryz.prog 3 #[.agg #[.int .i64 c0, .int .i64 c1, .int .i64 c2, .int .i64 c3], .int .i64 s] w fun e w' => e = .returned (.bool true) ∧ Grew w w' := by
  have NW := Lib.hid (fun W (hW : Grew w W) => new_wrong (hS.grew hW) c0 c1 c2 c3 s h)
  have RN := Lib.hid (fun W => rnew_wrong (w := W) c0 c1 c2 c3 s h)
  have HS := Lib.hid (fun W (hW : Grew w W) => hS.grew hW)
  clear h hS
  go_enter Tryz.func3, Tryz.ntmps3
  go_wp2_with fail
  refine (NW.out _ (by repeat (first | with_reducible exact HG.out | with_reducible exact Grew.refl _ | with_reducible assumption | with_reducible apply Grew.plus | with_reducible apply Grew.drewN | with_reducible apply Grew.drew | with_reducible apply Grew.alloc | with_reducible refine Grew.setCell ?_ (by simp [go_sem]; try omega) _))).mono ?_
  rintro e w1 ⟨v, rfl, he, hg1⟩
  have hc1 : w1.heap[w.heap.size]? = some (.cells #[.int .i64 c0, .int .i64 c1, .int .i64 c2, .int .i64 c3] 23 (0, 0)) := Grew.heap hg1 (heap_alloc_at _ _ _ rfl)
  have k1 := World.cellsAt_block hc1 4 rfl
  have HE := Lib.hid he
  have HG1 := Lib.hid (show Grew w w1 from Grew.trans (by repeat (first | with_reducible exact HG.out | with_reducible exact Grew.refl _ | with_reducible assumption | with_reducible apply Grew.plus | with_reducible apply Grew.drewN | with_reducible apply Grew.drew | with_reducible apply Grew.alloc | with_reducible refine Grew.setCell ?_ (by simp [go_sem]; try omega) _)) hg1)
  clear hc1 he hg1
  go_wp2_with fail
  refine (RN.out _).mono ?_
  rintro e w2 ⟨ar, cp, b5, rfl, h1, h2, h3, h4, hg2⟩
  have HC := Lib.hid h1
  have HN := Lib.hid h4
  have HG2 := Lib.hid hg2
  clear h1 h4 hg2 k1
  go_wp2_with fail
  refine (refused_one1 (HS.out _ (HG1.out.trans (HG2.out.trans (by repeat (first | with_reducible exact HG.out | with_reducible exact Grew.refl _ | with_reducible assumption | with_reducible apply Grew.plus | with_reducible apply Grew.drewN | with_reducible apply Grew.drew | with_reducible apply Grew.alloc | with_reducible refine Grew.setCell ?_ (by simp [go_sem]; try omega) _))))) (HE.out.grew (HG2.out.trans (by repeat (first | with_reducible exact HG.out | with_reducible exact Grew.refl _ | with_reducible assumption | with_reducible apply Grew.plus | with_reducible apply Grew.drewN | with_reducible apply Grew.drew | with_reducible apply Grew.alloc | with_reducible refine Grew.setCell ?_ (by simp [go_sem]; try omega) _)))) ar b5 cp (HC.out.grew (by repeat (first | with_reducible exact HG.out | with_reducible exact Grew.refl _ | with_reducible assumption | with_reducible apply Grew.plus | with_reducible apply Grew.drewN | with_reducible apply Grew.drew | with_reducible apply Grew.alloc | with_reducible refine Grew.setCell ?_ (by simp [go_sem]; try omega) _))) (HN.out.grew (by repeat (first | with_reducible exact HG.out | with_reducible exact Grew.refl _ | with_reducible assumption | with_reducible apply Grew.plus | with_reducible apply Grew.drewN | with_reducible apply Grew.drew | with_reducible apply Grew.alloc | with_reducible refine Grew.setCell ?_ (by simp [go_sem]; try omega) _))) h2 h3).mono ?_
  rintro e w' ⟨rfl, gx, rfl⟩
  go_wp2_with fail
  refine (wakes16 _).mono ?_
  rintro e w' ⟨rfl, gy, rfl⟩
  go_wp2_with fail
  go_ret
  exact ⟨rfl, HG1.out.trans (HG2.out.trans (by repeat (first | with_reducible exact HG.out | with_reducible exact Grew.refl _ | with_reducible assumption | with_reducible apply Grew.plus | with_reducible apply Grew.drewN | with_reducible apply Grew.drew | with_reducible apply Grew.alloc | with_reducible refine Grew.setCell ?_ (by simp [go_sem]; try omega) _)))⟩
set_option maxRecDepth 100000 in
set_option maxHeartbeats 1000000 in
theorem replicaNew_good {w : World} (c0 c1 c2 c3 s : Int) (h0 : 1 ≤ c0) (h0' : c0 ≤ 8) (h1 : 0 ≤ c1) (h1' : c1 ≤ 65536) (h2 : 1 ≤ c2) (h2' : c2 ≤ 256) (h3 : 0 ≤ c3) (h3' : c3 ≤ 256) (hs : 0 ≤ s) (hs' : s < c0) :
    Calls Tryz.prog 3 #[.agg #[.int .i64 c0, .int .i64 c1, .int .i64 c2, .int .i64 c3], .int .i64 s] w fun e w' => e = .returned (.bool true) ∧ Grew w w' := by
  have NW := Lib.hid (fun W => rep_new W c0 c1 c2 c3 s h0 h0' h1 h1' h2 h2' h3 h3' hs hs')
  have RN := Lib.hid (fun W => ref16_new W c0 c1 c2 c3 s h0 h0' h1 h1' h2 h2' h3 h3' hs hs')
  go_enter Tryz.func3, Tryz.ntmps3
  go_wp2_with fail
  refine (NW.out _).mono ?_
  rintro e w1 ⟨R, L, M, T, Bi, Bb, I, D, S, Bh, rfl, hg1, hr⟩
  have hc1 : w1.heap[w.heap.size]? = some (.cells #[.int .i64 c0, .int .i64 c1, .int .i64 c2, .int .i64 c3] 23 (0, 0)) := Grew.heap hg1 (heap_alloc_at _ _ _ rfl)
  have k1 := World.cellsAt_block hc1 4 rfl
  have HR := Lib.hid hr
  have HG1 := Lib.hid (show Grew w w1 from Grew.trans (by repeat (first | with_reducible exact HG.out | with_reducible exact Grew.refl _ | with_reducible assumption | with_reducible apply Grew.plus | with_reducible apply Grew.drewN | with_reducible apply Grew.drew | with_reducible apply Grew.alloc | with_reducible refine Grew.setCell ?_ (by simp [go_sem]; try omega) _)) hg1)
  have HC1 := Lib.hid hc1
  clear hc1 hr hg1
  go_wp2_with fail
  refine (RN.out _).mono ?_
  rintro e w2 ⟨Q, G, I', D', S', rfl, hg2, hd⟩
  have HG2 := Lib.hid hg2
  have HD := Lib.hid hd
  clear hg2 hd k1
  go_wp2_with fail
  refine (refused_none none none 0 0 0 0 _).mono ?_
  rintro e w' ⟨rfl, gx, rfl⟩
  go_wp2_with fail
  have hg8 : Grew w2 (((((w2.alloc (.cells #[.int .i64 0, .slice none 0 0, .slice none 0 0] 33)).plus gx).alloc (.cells #[ptr R] 24)).alloc (.cells #[ptr Q] 29)).alloc (.cells #[.slice (some ⟨w2.heap.size + 1 + gx.blocks.size, 0, none⟩) 1 1, .slice (some ⟨w2.heap.size + 1 + gx.blocks.size + 1, 0, none⟩) 1 1, .slice none 0 0] 43)) := by repeat (first | with_reducible exact HG.out | with_reducible exact Grew.refl _ | with_reducible assumption | with_reducible apply Grew.plus | with_reducible apply Grew.drewN | with_reducible apply Grew.drew | with_reducible apply Grew.alloc | with_reducible refine Grew.setCell ?_ (by simp [go_sem]; try omega) _)
  have hV : (((((w2.alloc (.cells #[.int .i64 0, .slice none 0 0, .slice none 0 0] 33)).plus gx).alloc (.cells #[ptr R] 24)).alloc (.cells #[ptr Q] 29)).alloc (.cells #[.slice (some ⟨w2.heap.size + 1 + gx.blocks.size, 0, none⟩) 1 1, .slice (some ⟨w2.heap.size + 1 + gx.blocks.size + 1, 0, none⟩) 1 1, .slice none 0 0] 43)).heap[w2.heap.size + 1 + gx.blocks.size + 1 + 1]? = some (.cells #[.slice (some ⟨w2.heap.size + 1 + gx.blocks.size, 0, none⟩) 1 1, .slice (some ⟨w2.heap.size + 1 + gx.blocks.size + 1, 0, none⟩) 1 1, .slice none 0 0] 43 (0, 0)) := heap_alloc_at _ _ _ (by simp [go_sem])
  have hA : (((((w2.alloc (.cells #[.int .i64 0, .slice none 0 0, .slice none 0 0] 33)).plus gx).alloc (.cells #[ptr R] 24)).alloc (.cells #[ptr Q] 29)).alloc (.cells #[.slice (some ⟨w2.heap.size + 1 + gx.blocks.size, 0, none⟩) 1 1, .slice (some ⟨w2.heap.size + 1 + gx.blocks.size + 1, 0, none⟩) 1 1, .slice none 0 0] 43)).heap[w2.heap.size + 1 + gx.blocks.size]? = some (.cells #[ptr R] 24 (0, 0)) := Grew.heap (((Grew.refl _).alloc _).alloc _) (heap_alloc_at _ _ _ (by simp [go_sem]))
  have hB : (((((w2.alloc (.cells #[.int .i64 0, .slice none 0 0, .slice none 0 0] 33)).plus gx).alloc (.cells #[ptr R] 24)).alloc (.cells #[ptr Q] 29)).alloc (.cells #[.slice (some ⟨w2.heap.size + 1 + gx.blocks.size, 0, none⟩) 1 1, .slice (some ⟨w2.heap.size + 1 + gx.blocks.size + 1, 0, none⟩) 1 1, .slice none 0 0] 43)).heap[w2.heap.size + 1 + gx.blocks.size + 1]? = some (.cells #[ptr Q] 29 (0, 0)) := Grew.heap ((Grew.refl _).alloc _) (heap_alloc_at _ _ _ (by simp [go_sem]))
  generalize (((((w2.alloc (.cells #[.int .i64 0, .slice none 0 0, .slice none 0 0] 33)).plus gx).alloc (.cells #[ptr R] 24)).alloc (.cells #[ptr Q] 29)).alloc (.cells #[.slice (some ⟨w2.heap.size + 1 + gx.blocks.size, 0, none⟩) 1 1, .slice (some ⟨w2.heap.size + 1 + gx.blocks.size + 1, 0, none⟩) 1 1, .slice none 0 0] 43)) = W8 at *
  generalize w2.heap.size + 1 + gx.blocks.size + 1 + 1 = V at *
  generalize w2.heap.size + 1 + gx.blocks.size + 1 = B at *
  generalize w2.heap.size + 1 + gx.blocks.size = A at *
  have hc8 := Grew.heap (HG2.out.trans hg8) HC1.out
  have lc8 := (Array.getElem?_eq_some_iff.1 hc8).1
  have k4 := World.cellsAt_block hc8 4 rfl
  have k0 := (World.own_cell hc8 0 _ rfl).1
  have k1 := (World.own_cell hc8 1 _ rfl).1
  simp only [List.getElem_toArray, List.getElem_cons_zero, List.getElem_cons_succ] at k0 k1
  have HE := Lib.hid (fun W (hW : Grew W8 W) => (HR.out.grew (HG2.out.trans hg8)).grew hW)
  have SM := Lib.hid (fun W (hW : Grew W8 W) => world_same (World.own_cell (Grew.heap hW hV) 0 _ rfl).1 (World.own_cell (Grew.heap hW hV) 1 _ rfl).1 (World.own_cell (Grew.heap hW hA) 0 _ rfl).1 (World.own_cell (Grew.heap hW hB) 0 _ rfl).1 (HE.out W hW) ((HD.out.grew hg8).grew hW) h0 h0' hs hs')
  have HG8 := Lib.hid (HG1.out.trans (HG2.out.trans hg8))
  clear hg8 hV hA hB hc8
  refine wp_region_plus (by kernel_rfl) (by kernel_rfl) ?_
  repeat (go_big_quiet_step ((first | (go_at_call 10; exact Calls.grew_of (sameg (rep_credit (HE.out _ (by repeat (first | with_reducible exact HG.out | with_reducible exact Grew.refl _ | with_reducible assumption | with_reducible apply Grew.plus | with_reducible apply Grew.drewN | with_reducible apply Grew.drew | with_reducible apply Grew.alloc | with_reducible refine Grew.setCell ?_ (by simp [go_sem]; try omega) _)))))) | (go_at_call 11; exact Calls.grew_of (rep_config (HE.out _ (by repeat (first | with_reducible exact HG.out | with_reducible exact Grew.refl _ | with_reducible assumption | with_reducible apply Grew.plus | with_reducible apply Grew.drewN | with_reducible apply Grew.drew | with_reducible apply Grew.alloc | with_reducible refine Grew.setCell ?_ (by simp [go_sem]; try omega) _))))) | (go_at_call 12; exact Calls.grew_of (sameg (rep_self (HE.out _ (by repeat (first | with_reducible exact HG.out | with_reducible exact Grew.refl _ | with_reducible assumption | with_reducible apply Grew.plus | with_reducible apply Grew.drewN | with_reducible apply Grew.drew | with_reducible apply Grew.alloc | with_reducible refine Grew.setCell ?_ (by simp [go_sem]; try omega) _)))))) | (go_at_call 13; exact Calls.grew_of (rep_view (HE.out _ (by repeat (first | with_reducible exact HG.out | with_reducible exact Grew.refl _ | with_reducible assumption | with_reducible apply Grew.plus | with_reducible apply Grew.drewN | with_reducible apply Grew.drew | with_reducible apply Grew.alloc | with_reducible refine Grew.setCell ?_ (by simp [go_sem]; try omega) _))))) | (go_at_call 14; exact Calls.grew_of (SM.out _ (by repeat (first | with_reducible exact HG.out | with_reducible exact Grew.refl _ | with_reducible assumption | with_reducible apply Grew.plus | with_reducible apply Grew.drewN | with_reducible apply Grew.drew | with_reducible apply Grew.alloc | with_reducible refine Grew.setCell ?_ (by simp [go_sem]; try omega) _)))) | (go_at_call 9; exact Calls.grew_of (wakes16 _)))))
  refine wpQuiet_nil ?_
  intro _ hw'
  obtain ⟨nx, rfl⟩ := hw'
  go_wp2_with fail
  go_ret
  exact ⟨rfl, HG8.out.trans (by repeat (first | with_reducible exact HG.out | with_reducible exact Grew.refl _ | with_reducible assumption | with_reducible apply Grew.plus | with_reducible apply Grew.drewN | with_reducible apply Grew.drew | with_reducible apply Grew.alloc | with_reducible refine Grew.setCell ?_ (by simp [go_sem]; try omega) _))⟩
end Go.Proofs.YtlhldjfonidmgaaGreatDoor
