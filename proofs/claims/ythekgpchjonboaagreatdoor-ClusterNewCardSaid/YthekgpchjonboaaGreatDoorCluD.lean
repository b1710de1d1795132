/- Walks: New of both clusters, of a configuration that does not fit. -/
import Derived.Test.YthekgpchjonboaaGreatDoorCluC
namespace Go.Proofs.YthekgpchjonboaaGreatDoor
open Go.RowKit
set_option linter.unusedSimpArgs false
set_option linter.unusedVariables false
def bClu : ByteArray := ⟨#[99, 108, 117, 115, 116, 101, 114]⟩
abbrev Fits0 (c0 c1 c2 c3 s : Int) : Prop := 1 ≤ c0 ∧ c0 ≤ 8 ∧ 0 ≤ c1 ∧ c1 ≤ 65536 ∧ 1 ≤ c2 ∧ c2 ≤ 256 ∧ 0 ≤ c3 ∧ c3 ≤ 256 ∧ 0 ≤ s ∧ s < c0
set_option maxRecDepth 100000 in
set_option maxHeartbeats 1000000 in
theorem clu_wrong {S0 : Nat → Addr} {w : World} (hS : Sents S0 w) (c0 c1 c2 c3 : Int) (h : ¬ Fits0 c0 c1 c2 c3 0) :
    Calls Tryz.prog 4 #[.agg #[.int .i64 c0, .int .i64 c1, .int .i64 c2, .int .i64 c3]] w fun e w' => ∃ v, e = .returned (.tuple #[.pointer none, v]) ∧ ErrAt S0 w' (.fault bClu bNew (-1) (.fault bRep bNew 0 (.reason 1))) v ∧ Grew w w' := by
  have NW := Lib.hid (fun W (hW : Grew w W) => new_wrong (hS.grew hW) c0 c1 c2 c3 0 h)
  have hmm := @run_makeMap Tryz.prog
  obtain ⟨n, hn, hn1⟩ : ∃ n, max 1 (min c0 8) = n ∧ 0 < n := ⟨_, rfl, by omega⟩
  clear h
  go_enter Tryz.func4, Tryz.ntmps4
  go_wp2_with fail
  clear hmm
  have hcf : (((w.alloc (.cells #[.int .i64 c0, .int .i64 c1, .int .i64 c2, .int .i64 c3] 23)).alloc (.map #[] 0)).alloc (.cells #[.slice none 0 0, .pointer none, .slice none 0 0, .map (some (w.heap.size + 1))] tCl)).heap[w.heap.size]? = some (.cells #[.int .i64 c0, .int .i64 c1, .int .i64 c2, .int .i64 c3] 23 (0, 0)) := Grew.heap (((Grew.refl _).alloc _).alloc _) (heap_alloc_at _ _ _ rfl)
  have k1 := World.cellsAt_block hcf 4 rfl
  refine wp_loop_rounds 1 ?_
  rw [rounds_succ]
  go_wp2_with fail
  refine (NW.out _ (by repeat (first | with_reducible exact HG.out | with_reducible exact Grew.refl _ | with_reducible assumption | with_reducible apply Grew.plus | with_reducible apply Grew.drewN | with_reducible apply Grew.drew | with_reducible apply Grew.alloc | with_reducible refine Grew.setCell ?_ (by simp [go_sem]; try omega) _))).mono ?_
  rintro e w1 ⟨v, rfl, he, hg1⟩
  have HE := Lib.hid he
  have HG1 := Lib.hid (show Grew w w1 from Grew.trans (by repeat (first | with_reducible exact HG.out | with_reducible exact Grew.refl _ | with_reducible assumption | with_reducible apply Grew.plus | with_reducible apply Grew.drewN | with_reducible apply Grew.drew | with_reducible apply Grew.alloc | with_reducible refine Grew.setCell ?_ (by simp [go_sem]; try omega) _)) hg1)
  cases he with
  | @fault l c i e v b hc ht =>
    clear hg1 hc ht k1
    go_wp2_with (go_at_call 14; refine (new_any _ _ _ _ _ _).mono ?_; rintro e w' ⟨rfl, rfl⟩)
    go_ret2
    exact ⟨_, rfl, .fault (heap_alloc_at _ _ _ rfl) (HE.out.grew ((Grew.refl _).alloc _)), HG1.out.alloc _⟩
set_option maxRecDepth 100000 in
set_option maxHeartbeats 1000000 in
theorem rclu_wrong {w : World} (c0 c1 c2 c3 : Int) (h : ¬ Fits0 c0 c1 c2 c3 0) :
    Calls Tryz.prog 5 #[.agg #[.int .i64 c0, .int .i64 c1, .int .i64 c2, .int .i64 c3]] w fun e w' => ∃ ar cp b, e = .returned (.tuple #[.pointer none, noV 1 ar 2 cp b 1 1]) ∧ CellsIn w' ar (linkCells [(bClu, bNew, -1), (bRep, bNew, 0)]) ∧ 2 ≤ cp ∧ cp ≤ 9223372036854775807 ∧ CellsIn w' b (nats [1]) ∧ Grew w w' := by
  have RN := Lib.hid (fun W => rnew_wrong (w := W) c0 c1 c2 c3 0 h)
  clear h
  go_enter Tryz.func5, Tryz.ntmps5
  go_wp2_with fail
  refine (RN.out _).mono ?_
  rintro e w1 ⟨ar, cp, b, rfl, h1, h2, h3, h4, hg1⟩
  have hn : ar ≠ none := by
    obtain ⟨b', off, ha, _⟩ := h1 (by simp [linkCells, linkRow])
    rw [ha]; simp
  have hno := Grew.heap hg1 (heap_alloc_at _ _ _ rfl)
  have HNO := Lib.hid hno
  have HG1 := Lib.hid (show Grew w w1 from Grew.trans (by repeat (first | with_reducible exact HG.out | with_reducible exact Grew.refl _ | with_reducible assumption | with_reducible apply Grew.plus | with_reducible apply Grew.drewN | with_reducible apply Grew.drew | with_reducible apply Grew.alloc | with_reducible refine Grew.setCell ?_ (by simp [go_sem]; try omega) _)) hg1)
  have hss : w.heap.size + 1 < w1.heap.size := by have := hg1.size; simp [h1a] at this; omega
  have H1 := Lib.hid h1
  have H4 := Lib.hid h4
  clear hno h1 h4 hg1
  go_wp2_with fail
  refine (wrap_some bClu bNew (-1) 1 (by omega) [(bRep, bNew, max 0 (-1))] ar b cp 1 1 _ (H1.out.grew (by repeat (first | with_reducible exact HG.out | with_reducible exact Grew.refl _ | with_reducible assumption | with_reducible apply Grew.plus | with_reducible apply Grew.drewN | with_reducible apply Grew.drew | with_reducible apply Grew.alloc | with_reducible refine Grew.setCell ?_ (by simp [go_sem]; try omega) _))) (fun e => absurd e hn) (by simp)).mono ?_
  rintro e w2 ⟨ar2, cp2, rfl, hown, hg2⟩
  have hown : w2.ownsRow (w1.alloc (.cells #[.int .i64 1, .slice ar 1 cp, .slice b 1 1] 33)).heap.size 133 3 (.slice ar2 2 cp2) 2 (linkCells [(bClu, bNew, -1), (bRep, bNew, 0)]) := hown
  obtain ⟨xa, xc, hxe, hx1, hx2, hin, hxb, _⟩ := hown.rd
  cases hxe
  rw [h1a] at hxb
  have hg3 : Grew w1 w2 := ((Grew.refl w1).alloc _).trans hg2
  have hno2 : w2.heap[w.heap.size + 1]? = some (.cells #[.int .i64 0, .slice none 0 0, .slice none 0 0] 33 (0, 0)) := by
    have := Grew.heap hg3 HNO.out
    rwa [h1a] at this
  have hR : w.heap.size + 1 < w2.heap.size := (Array.getElem?_eq_some_iff.1 hno2).1
  have h4 := H4.out.grew hg3
  have hbR : ∀ q, b = some q → q.block ≠ w.heap.size + 1 := fun q hq e => by
    obtain ⟨b', off, hb', _, hc⟩ := h4.at' (by simp [nats])
    rw [hq] at hb'
    cases hb'
    have hc0 := hc 0 (by simp [nats])
    simp only at e
    rw [e, Nat.add_zero] at hc0
    simp only [World.cell?, hno2] at hc0
    rcases off with _ | _ | _ | off <;> simp [nats] at hc0
  obtain ⟨n0, m0⟩ := World.own_cell hno2 0 _ rfl
  obtain ⟨n1, m1⟩ := World.own_cell hno2 1 _ rfl
  obtain ⟨n2, m2⟩ := World.own_cell hno2 2 _ rfl
  have k1 := World.own_setCell (i := 0) hno2 (.int .i64 1)
  have k2 := World.own_setCell (i := 1) k1 (.slice ar2 2 cp2)
  have k3 := World.own_setCell (i := 2) k2 (.slice b 1 1)
  have f0 := (World.own_cell k3 0 (.int .i64 1) rfl).1
  have f1 := (World.own_cell k3 1 (.slice ar2 2 cp2) rfl).1
  have f2 := (World.own_cell k3 2 (.slice b 1 1) rfl).1
  have c5 := hin.keepB (w' := ((w2.setCell ⟨w.heap.size + 1, 0, none⟩ (.int .i64 1)).setCell ⟨w.heap.size + 1, 1, none⟩ (.slice ar2 2 cp2)).setCell ⟨w.heap.size + 1, 2, none⟩ (.slice b 1 1)) (fun q hq _ => set3_other _ _ _ _ _ _ (fun e => by have := (hxb q hq).1; omega))
  have c6 := h4.keepB (w' := ((w2.setCell ⟨w.heap.size + 1, 0, none⟩ (.int .i64 1)).setCell ⟨w.heap.size + 1, 1, none⟩ (.slice ar2 2 cp2)).setCell ⟨w.heap.size + 1, 2, none⟩ (.slice b 1 1)) (fun q hq _ => set3_other _ _ _ _ _ _ (fun e => hbR q hq e))
  have hwR : w.heap.size ≤ w.heap.size + 1 := by omega
  have hg6 : Grew w w2 := HG1.out.trans hg3
  have HX := Lib.hid (And.intro c5 (And.intro c6 hg6))
  clear k1 k2 k3 c5 c6 hno2 hg6 hg3 h4 hbR hin hxb hown hg2
  go_wp2_with fail
  obtain ⟨c5, c6, hg6⟩ := HX.out
  exact bodyPost_ret (v := .tuple #[.pointer none, noV 1 ar2 2 cp2 b 1 1]) (by simp [results, Tryz.results5, go_sem, f0, f1, f2]) rfl ⟨ar2, cp2, b, rfl, c5, hx1, hx2, c6, ((hg6.setCell (p := ⟨w.heap.size + 1, 0, none⟩) hwR _).setCell (p := ⟨w.heap.size + 1, 1, none⟩) hwR _).setCell (p := ⟨w.heap.size + 1, 2, none⟩) hwR _⟩
end Go.Proofs.YthekgpchjonboaaGreatDoor
