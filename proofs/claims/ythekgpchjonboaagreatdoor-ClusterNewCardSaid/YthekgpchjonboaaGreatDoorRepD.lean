/- Walks: the document's replica, new; what it tells; keep's comparisons of nothing. -/
import Derived.Test.YthekgpchjonboaaGreatDoorRepC
import Derived.Test.YthekgpchjonboaaGreatDoorErrS
import Derived.Deep.RegionHeld3
import Derived.IntWalk
namespace Go.Proofs.YthekgpchjonboaaGreatDoor
open Go.RowKit
set_option linter.unusedSimpArgs false
set_option linter.unusedVariables false
abbrev no0 : Value := .agg #[.int .i64 0, .slice none 0 0, .slice none 0 0]
abbrev tRLog : TypeId := 88
abbrev tRDesk : TypeId := 107
abbrev tRInbox : TypeId := 128
abbrev tRStack : TypeId := 131
abbrev tRRep : TypeId := 99
theorem conc {f : FuncId} {xs : List Value} {v : Value} (h : Ab.kruns0 Tryz.prog f 4000 xs v = true) (w : World) : Calls Tryz.prog f ⟨xs⟩ w fun e w' => e = .returned v ∧ Grew w w' := Ab.kruns0_calls zeros_okC mixed_okC h w
theorem of_nil (w : World) : Calls Tryz.prog 71 #[nilS] w fun e w' => e = .returned (.tuple #[nilS, no0]) ∧ Grew w w' := conc (xs := [nilS]) (by kernel_rfl) w
theorem elements_nil (w : World) : Calls Tryz.prog 36 #[nilS, nilS] w fun e w' => e = .returned (.bool true) ∧ Grew w w' := conc (xs := [nilS, nilS]) (by kernel_rfl) w
abbrev rlogRow : Array Value := #[.int .i64 0, nilS, nilS, nilS, .int .i64 0, .int .i64 0, .int .i64 0, .int .i64 0, .int .i64 0, .int .i64 0, .int .i64 0, .int .i64 0, nilS]
theorem ref8_new (w : World) : Calls Tryz.prog 45 #[.int .i64 0, nilS] w fun e w' => ∃ G, e = .returned (.tuple #[ptr G, no0]) ∧ Grew w w' ∧ w'.heap[G]? = some (.cells rlogRow tRLog (0, 0)) := by
  go_enter Tryz.func45, Tryz.ntmps45
  go_wp2_with (go_at_call 71; refine (of_nil _).mono ?_; rintro e w' ⟨rfl, gx, rfl⟩)
  exact bodyPost_ret (v := .tuple #[ptr (w.heap.size + 1 + gx.blocks.size + 1), no0]) (by simp [results, Tryz.results45, go_sem]) rfl ⟨_, rfl, by repeat (first | with_reducible exact HG.out | with_reducible exact Grew.refl _ | with_reducible assumption | with_reducible apply Grew.plus | with_reducible apply Grew.drewN | with_reducible apply Grew.drew | with_reducible apply Grew.alloc | with_reducible refine Grew.setCell ?_ (by simp [go_sem]; try omega) _), heap_alloc_at _ _ _ (by simp [go_sem])⟩
theorem rdesk_cells (a b : Value) : (Tryz.zeroCells107.setIfInBounds 0 a).setIfInBounds 1 b = #[a, b] ++ noRounds := by kernel_rfl
theorem ref12_new (n s : Int) (h0 : 1 ≤ n) (h1 : n ≤ 8) (h2 : 0 ≤ s) (h3 : s < n) (w : World) : Calls Tryz.prog 46 #[.int .i64 n, .int .i64 s] w fun e w' => ∃ D, e = .returned (.tuple #[ptr D, no0]) ∧ Grew w w' ∧ w'.heap[D]? = some (.cells (#[.int .i64 n, .int .i64 s] ++ noRounds) tRDesk (0, 0)) := by
  have g0 : decide (n < 1) = false := by simpa using h0
  have g1 : decide (8 < n) = false := by simpa using h1
  have g2 : decide (s < 0) = false := by simpa using h2
  have g3 : decide (n ≤ s) = false := by simpa using h3
  go_enter Tryz.func46, Tryz.ntmps46
  go_wp2
  rw [rdesk_cells]
  exact bodyPost_ret (v := .tuple #[ptr (w.heap.size + 1), no0]) (by simp [results, Tryz.results46, go_sem]) rfl ⟨_, rfl, by repeat (first | with_reducible exact HG.out | with_reducible exact Grew.refl _ | with_reducible assumption | with_reducible apply Grew.plus | with_reducible apply Grew.drewN | with_reducible apply Grew.drew | with_reducible apply Grew.alloc | with_reducible refine Grew.setCell ?_ (by simp [go_sem]; try omega) _), heap_alloc_at _ _ _ (by simp [go_sem])⟩
noncomputable def allRDesks (f : FuncId) (v : Value) : Bool := (List.range 8).all fun i => (List.range (i + 1)).all fun j => Ab.kruns1 Tryz.prog f 400 (deskRow (.ofNat (i + 1)) (.ofNat j)) tRDesk v
theorem rfrozen_all : allRDesks 34 (.bool false) = true := by kernel_rfl
theorem rdesk_any {f : FuncId} {v : Value} (ha : allRDesks f v = true) {n s : Int} (h1 : 1 ≤ n) (h2 : n ≤ 8) (h3 : 0 ≤ s) (h4 : s < n) {w : World} {D : Nat} (hw : w.heap[D]? = some (.cells (#[.int .i64 n, .int .i64 s] ++ noRounds) tRDesk (0, 0))) :
    Calls Tryz.prog f #[ptr D] w fun e w' => e = .returned v ∧ Grew w w' := by
  have h := List.all_eq_true.1 ha (n - 1).toNat (by simp; omega)
  have h := List.all_eq_true.1 h s.toNat (by simp; omega)
  refine Ab.kruns1_calls zeros_okC mixed_okC h (w := w) (D := D) ?_
  rw [hw]
  have e1 : Int.ofNat ((n - 1).toNat + 1) = n := by show (((n - 1).toNat + 1 : Nat) : Int) = n; omega
  have e2 : Int.ofNat s.toNat = s := by show ((s.toNat : Nat) : Int) = s; omega
  rw [e1, e2]
  rfl
theorem rfit (w : World) (c0 c1 c2 c3 s : Int) (h0 : 1 ≤ c0) (h0' : c0 ≤ 8) (h1 : 0 ≤ c1) (h1' : c1 ≤ 65536) (h2 : 1 ≤ c2) (h2' : c2 ≤ 256) (h3 : 0 ≤ c3) (h3' : c3 ≤ 256) (hs : 0 ≤ s) (hs' : s < c0) :
    Calls Tryz.prog 9 #[.agg #[.int .i64 c0, .int .i64 c1, .int .i64 c2, .int .i64 c3], .int .i64 s] w fun e w' => e = .returned (.bool true) ∧ Grew w w' := by
  go_enter Tryz.func9, Tryz.ntmps9
  go_wp2
  go_ret
  exact ⟨rfl, by repeat (first | with_reducible exact HG.out | with_reducible exact Grew.refl _ | with_reducible assumption | with_reducible apply Grew.plus | with_reducible apply Grew.drewN | with_reducible apply Grew.drew | with_reducible apply Grew.alloc | with_reducible refine Grew.setCell ?_ (by simp [go_sem]; try omega) _)⟩
/-- The document's replica, new. -/
structure DRep (w : World) (Q G I D S : Nat) (c0 c1 c2 c3 s : Int) : Prop where
  r : w.heap[Q]? = some (.cells #[.int .i64 c0, .int .i64 c1, .int .i64 c2, .int .i64 c3, .int .i64 s, ptr G, ptr I, ptr D, .int .i64 (c1 / c0), ptr S, .bool true, .int .i64 0, .int .i64 0, .int .i64 0, nilS] tRRep (0, 0))
  g : w.heap[G]? = some (.cells rlogRow tRLog (0, 0))
  d : w.heap[D]? = some (.cells (#[.int .i64 c0, .int .i64 s] ++ noRounds) tRDesk (0, 0))
  st : w.heap[S]? = some (.cells #[nilS, nilS] tRStack (0, 0))
theorem setCell_id {w : World} {a : Addr} {v : Value} (h : w.cell? a = some v) : w.setCell a v = w := by
  unfold World.cell? at h
  split at h
  · rename_i c t fr hb
    split at h
    · cases h
    · rename_i hs
      have : (w.heap.modify a.block fun
        | .cells c elem frozen => .cells (if a.spot.isSome then c else c.setIfInBounds a.off v) elem frozen
        | o => o) = w.heap := by
        apply Array.ext
        · simp
        · intro i h1 h2
          rw [Array.getElem_modify]
          split
          · rename_i hi
            subst hi
            have hb2 : w.heap[a.block] = .cells c t fr := by
              rw [Array.getElem?_eq_getElem h2] at hb
              exact Option.some.inj hb
            rw [hb2]
            show Obj.cells (c.setIfInBounds a.off v) t fr = Obj.cells c t fr
            congr 1
            apply Array.ext
            · simp
            · intro j j1 j2
              rw [Array.getElem_setIfInBounds]
              split
              · rename_i hj
                subst hj
                rw [Array.getElem?_eq_getElem j2] at h
                exact (Option.some.inj h).symm
              · rfl
          · rfl
      show { w with heap := _ } = w
      exact congrArg (fun z => { w with heap := z }) this
  · cases h
set_option maxRecDepth 100000 in
set_option maxHeartbeats 1000000 in
theorem ref16_new (w : World) (c0 c1 c2 c3 s : Int) (h0 : 1 ≤ c0) (h0' : c0 ≤ 8) (h1 : 0 ≤ c1) (h1' : c1 ≤ 65536) (h2 : 1 ≤ c2) (h2' : c2 ≤ 256) (h3 : 0 ≤ c3) (h3' : c3 ≤ 256) (hs : 0 ≤ s) (hs' : s < c0) :
    Calls Tryz.prog 16 #[.agg #[.int .i64 c0, .int .i64 c1, .int .i64 c2, .int .i64 c3], .int .i64 s] w fun e w' => ∃ Q G I D S, e = .returned (.tuple #[ptr Q, no0]) ∧ Grew w w' ∧ DRep w' Q G I D S c0 c1 c2 c3 s := by
  have RF := Lib.hid (fun W => rfit W c0 c1 c2 c3 s h0 h0' h1 h1' h2 h2' h3 h3' hs hs')
  have RD := Lib.hid (fun W => ref12_new c0 s h0 h0' hs hs' W)
  go_enter Tryz.func16, Tryz.ntmps16
  go_wp2_with (go_at_call 9; refine (RF.out _).mono ?_; rintro e w' ⟨rfl, gx, rfl⟩)
  refine (ref8_new _).mono ?_
  rintro e w1 ⟨G, rfl, hg1, hG⟩
  have hgc : Grew (w.alloc (.cells #[.int .i64 c0, .int .i64 c1, .int .i64 c2, .int .i64 c3] 23)) w1 := Grew.trans (by repeat (first | with_reducible exact HG.out | with_reducible exact Grew.refl _ | with_reducible assumption | with_reducible apply Grew.plus | with_reducible apply Grew.drewN | with_reducible apply Grew.drew | with_reducible apply Grew.alloc | with_reducible refine Grew.setCell ?_ (by simp [go_sem]; try omega) _)) hg1
  have hgn : Grew ((w.alloc (.cells #[.int .i64 c0, .int .i64 c1, .int .i64 c2, .int .i64 c3] 23)).alloc (.cells #[.int .i64 0, .slice none 0 0, .slice none 0 0] 33)) w1 := Grew.trans (by repeat (first | with_reducible exact HG.out | with_reducible exact Grew.refl _ | with_reducible assumption | with_reducible apply Grew.plus | with_reducible apply Grew.drewN | with_reducible apply Grew.drew | with_reducible apply Grew.alloc | with_reducible refine Grew.setCell ?_ (by simp [go_sem]; try omega) _)) hg1
  have hc1 : w1.heap[w.heap.size]? = some (.cells #[.int .i64 c0, .int .i64 c1, .int .i64 c2, .int .i64 c3] 23 (0, 0)) := Grew.heap hgc (heap_alloc_at _ _ _ rfl)
  have hn1 : w1.heap[w.heap.size + 1]? = some (.cells #[.int .i64 0, .slice none 0 0, .slice none 0 0] 33 (0, 0)) := Grew.heap hgn (heap_alloc_at _ _ _ (by simp [h1a]))
  have HG1 := Lib.hid (show Grew w w1 from Grew.trans (by repeat (first | with_reducible exact HG.out | with_reducible exact Grew.refl _ | with_reducible assumption | with_reducible apply Grew.plus | with_reducible apply Grew.drewN | with_reducible apply Grew.drew | with_reducible apply Grew.alloc | with_reducible refine Grew.setCell ?_ (by simp [go_sem]; try omega) _)) hg1)
  have HG := Lib.hid hG
  have k0 := World.own_cell hc1 0 _ rfl
  have k1 := World.own_cell hc1 1 _ rfl
  have hs1 : w.heap.size + 1 < w1.heap.size := (Array.getElem?_eq_some_iff.1 hn1).1
  have hs0 : w.heap.size < w1.heap.size := by omega
  have HC1 := Lib.hid hc1
  have HN1 := Lib.hid hn1
  clear hg1 hG hgc hgn hc1 hn1
  go_wp2_with fail
  refine (RD.out _).mono ?_
  rintro e w2 ⟨D, rfl, hg2, hD⟩
  have hg2 : Grew w1 w2 := Grew.trans (by repeat (first | with_reducible exact HG.out | with_reducible exact Grew.refl _ | with_reducible assumption | with_reducible apply Grew.plus | with_reducible apply Grew.drewN | with_reducible apply Grew.drew | with_reducible apply Grew.alloc | with_reducible refine Grew.setCell ?_ (by simp [go_sem]; try omega) _)) hg2
  have hc2 := Grew.heap hg2 HC1.out
  have hn2 := Grew.heap hg2 HN1.out
  have HG2 := Lib.hid hg2
  have HD := Lib.hid hD
  have hs21 : w.heap.size + 1 < w2.heap.size := (Array.getElem?_eq_some_iff.1 hn2).1
  have hs20 : w.heap.size < w2.heap.size := by omega
  have HC2 := Lib.hid hc2
  have HN2 := Lib.hid hn2
  clear k0 k1 hg2 hD
  have k0 := World.own_cell hc2 0 _ rfl
  have k1 := World.own_cell hc2 1 _ rfl
  have k3 := World.own_cell hc2 3 _ rfl
  obtain ⟨n0, m0⟩ := World.own_cell hn2 0 _ rfl
  obtain ⟨n1, m1⟩ := World.own_cell hn2 1 _ rfl
  obtain ⟨n2, m2⟩ := World.own_cell hn2 2 _ rfl
  simp only [List.getElem_toArray, List.getElem_cons_zero, List.getElem_cons_succ] at n0 n1 n2
  clear hc2 hn2
  have HB : Hid (∀ W, Grew w2 W → W.cellsAt ⟨w.heap.size, 0, none⟩ 4 = some [.int .i64 c0, .int .i64 c1, .int .i64 c2, .int .i64 c3] ∧ W.cell? ⟨w.heap.size, 0, none⟩ = some (.int .i64 c0) ∧ W.cell? ⟨w.heap.size, 1, none⟩ = some (.int .i64 c1) ∧ W.cell? ⟨w.heap.size, 3, none⟩ = some (.int .i64 c3)) := Lib.hid fun W hW =>
    ⟨World.cellsAt_block (Grew.heap hW HC2.out) 4 rfl, (World.own_cell (Grew.heap hW HC2.out) 0 _ rfl).1, (World.own_cell (Grew.heap hW HC2.out) 1 _ rfl).1, (World.own_cell (Grew.heap hW HC2.out) 3 _ rfl).1⟩
  go_wp2_with fail
  have hne : w.heap.size + 1 ≠ w.heap.size := by omega
  generalize hBe : w.heap.size + 1 = B at *
  have hB1 : B < w2.heap.size + 1 := by omega
  have hB2 : B < w2.heap.size + 1 + 1 := by omega
  have hB3 : B < w2.heap.size + 1 + 1 + 1 := by omega
  have hB4 : B ≠ w2.heap.size := by omega
  have hB5 : B ≠ w2.heap.size + 1 := by omega
  have hB6 : B ≠ w2.heap.size + 1 + 1 := by omega
  have hB7 : B ≠ w2.heap.size + 1 + 1 + 1 := by omega
  have hz0 : ¬ c0 = 0 := by omega
  have hqw : IntKind.i64.wrap (c1.tdiv c0) = c1 / c0 := IntWalk.i64_quo c1 c0 (by omega)
  have hbin : binOp .quo 3 (.int .i64 c1) (.int .i64 c0) = pure (.int .i64 (c1 / c0)) := by simp [binOp, Op.intDiv, hz0, hqw]
  go_region_held3 (fun w' => w'.cellsAt ⟨w.heap.size, 0, none⟩ 4 = some [.int .i64 c0, .int .i64 c1, .int .i64 c2, .int .i64 c3] ∧ w'.cell? ⟨w.heap.size, 0, none⟩ = some (.int .i64 c0) ∧ w'.cell? ⟨w.heap.size, 1, none⟩ = some (.int .i64 c1) ∧ w'.cell? ⟨w.heap.size, 3, none⟩ = some (.int .i64 c3)) (first | (rw [setCell_id n0, setCell_id n1, setCell_id n2]; exact HB.out _ (by repeat (first | with_reducible exact HG.out | with_reducible exact Grew.refl _ | with_reducible assumption | with_reducible apply Grew.plus | with_reducible apply Grew.drewN | with_reducible apply Grew.drew | with_reducible apply Grew.alloc | with_reducible refine Grew.setCell ?_ (by simp [go_sem]; try omega) _))) | exact HB.out _ (by repeat (first | with_reducible exact HG.out | with_reducible exact Grew.refl _ | with_reducible assumption | with_reducible apply Grew.plus | with_reducible apply Grew.drewN | with_reducible apply Grew.drew | with_reducible apply Grew.alloc | with_reducible refine Grew.setCell ?_ (by simp [go_sem]; try omega) _))) (fail)
  all_goals (rw [setCell_id n0, setCell_id n1, setCell_id n2])
  · go_wp2_with fail
    exact bodyPost_ret (v := .tuple #[ptr (w2.heap.size + 1 + 1 + 1), no0]) (by simp [results, Tryz.results16, go_sem, *]) rfl ⟨_, G, _, D, _, rfl, HG1.out.trans (HG2.out.trans (by repeat (first | with_reducible exact HG.out | with_reducible exact Grew.refl _ | with_reducible assumption | with_reducible apply Grew.plus | with_reducible apply Grew.drewN | with_reducible apply Grew.drew | with_reducible apply Grew.alloc | with_reducible refine Grew.setCell ?_ (by simp [go_sem]; try omega) _))),
      ⟨Grew.heap ((Grew.refl _).drew) (heap_alloc_at _ _ _ (by simp [h1a])), Grew.heap (HG2.out.trans (by repeat (first | with_reducible exact HG.out | with_reducible exact Grew.refl _ | with_reducible assumption | with_reducible apply Grew.plus | with_reducible apply Grew.drewN | with_reducible apply Grew.drew | with_reducible apply Grew.alloc | with_reducible refine Grew.setCell ?_ (by simp [go_sem]; try omega) _))) HG.out, Grew.heap (show Grew w2 _ from by repeat (first | with_reducible exact HG.out | with_reducible exact Grew.refl _ | with_reducible assumption | with_reducible apply Grew.plus | with_reducible apply Grew.drewN | with_reducible apply Grew.drew | with_reducible apply Grew.alloc | with_reducible refine Grew.setCell ?_ (by simp [go_sem]; try omega) _)) HD.out, Grew.heap (show Grew (((w2.alloc _).alloc _).alloc (.cells #[nilS, nilS] tRStack)) _ from by repeat (first | with_reducible exact HG.out | with_reducible exact Grew.refl _ | with_reducible assumption | with_reducible apply Grew.plus | with_reducible apply Grew.drewN | with_reducible apply Grew.drew | with_reducible apply Grew.alloc | with_reducible refine Grew.setCell ?_ (by simp [go_sem]; try omega) _)) (heap_alloc_at _ _ _ (by simp [h1a]))⟩⟩
  · go_wp2_with fail
    exact bodyPost_ret (v := .tuple #[ptr (w2.heap.size + 1 + 1 + 1), no0]) (by simp [results, Tryz.results16, go_sem, *]) rfl ⟨_, G, _, D, _, rfl, HG1.out.trans (HG2.out.trans (by repeat (first | with_reducible exact HG.out | with_reducible exact Grew.refl _ | with_reducible assumption | with_reducible apply Grew.plus | with_reducible apply Grew.drewN | with_reducible apply Grew.drew | with_reducible apply Grew.alloc | with_reducible refine Grew.setCell ?_ (by simp [go_sem]; try omega) _))),
      ⟨Grew.heap ((Grew.refl _).drew) (heap_alloc_at _ _ _ (by simp [h1a])), Grew.heap (HG2.out.trans (by repeat (first | with_reducible exact HG.out | with_reducible exact Grew.refl _ | with_reducible assumption | with_reducible apply Grew.plus | with_reducible apply Grew.drewN | with_reducible apply Grew.drew | with_reducible apply Grew.alloc | with_reducible refine Grew.setCell ?_ (by simp [go_sem]; try omega) _))) HG.out, Grew.heap (show Grew w2 _ from by repeat (first | with_reducible exact HG.out | with_reducible exact Grew.refl _ | with_reducible assumption | with_reducible apply Grew.plus | with_reducible apply Grew.drewN | with_reducible apply Grew.drew | with_reducible apply Grew.alloc | with_reducible refine Grew.setCell ?_ (by simp [go_sem]; try omega) _)) HD.out, Grew.heap (show Grew ((w2.alloc _).alloc (.cells #[nilS, nilS] tRStack)) _ from by repeat (first | with_reducible exact HG.out | with_reducible exact Grew.refl _ | with_reducible assumption | with_reducible apply Grew.plus | with_reducible apply Grew.drewN | with_reducible apply Grew.drew | with_reducible apply Grew.alloc | with_reducible refine Grew.setCell ?_ (by simp [go_sem]; try omega) _)) (heap_alloc_at _ _ _ (by simp [h1a]))⟩⟩
end Go.Proofs.YthekgpchjonboaaGreatDoor
