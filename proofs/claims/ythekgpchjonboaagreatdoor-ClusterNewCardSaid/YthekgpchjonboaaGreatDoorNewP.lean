/- Walks: a new replica, of any configuration that fits. -/
import Derived.Test.YthekgpchjonboaaGreatDoorNewR
import Derived.Test.YthekgpchjonboaaGreatDoorTail
import Derived.Deep.RegionHeld3
namespace Go.Proofs.YthekgpchjonboaaGreatDoor
open Go.RowKit
set_option linter.unusedSimpArgs false
set_option linter.unusedVariables false
abbrev tRep : TypeId := 150
abbrev tInbox : TypeId := 202
abbrev tDesk : TypeId := 195
abbrev tStack : TypeId := 199

set_option maxRecDepth 100000 in
theorem history_new (w : World) : Calls Tryz.prog 66 #[.int .i64 0, nilS] w fun e w' => ∃ L M T Bi Bb, e = .returned (.tuple #[ptr L, .nilIface]) ∧ Grew w w' ∧ ELog w' L M T Bi Bb 0 ∧ w.heap.size ≤ L := by
  go_enter Tryz.func66, Tryz.ntmps66
  go_wp2_with (first
    | (go_at_call 98; refine (model_of _).mono ?_; rintro e w1 ⟨M, T, Bi, rfl, hg, hm, hM⟩; have HG := Lib.hid hg; have HM := Lib.hid hm; clear hg hm)
    | (go_at_call 99; refine (log_begin w1.heap.size 0 (.map none) nilS nilS (.int .i64 0) (.int .i64 0) (.int .i64 0) (.int .i64 0) (.int .i64 0) (.int .i64 0) (.int .i64 0) (.int .i64 0) (heap_alloc_at _ _ _ rfl) (HM.out.grew ((Grew.refl w1).alloc _))).mono ?_; rintro e w2 ⟨rfl, Bb, hl, hg2⟩; have HL := Lib.hid hl; have HG2 := Lib.hid hg2; clear hl hg2))
  go_ret2
  exact ⟨_, M, T, Bi, Bb, rfl, (HG.out.alloc _).grown HG2.out (fun k e => by cases e; exact HG.out.size), HL.out, HG.out.size⟩
theorem undo_new (w : World) : Calls Tryz.prog 67 #[] w fun e w' => e = .returned (ptr w.heap.size) ∧ w' = w.alloc (.cells #[nilS, nilS] tStack) := by
  go_enter Tryz.func67, Tryz.ntmps67
  go_wp2
  go_ret
  exact ⟨rfl, rfl⟩
theorem causal_new (m : Int) (h0 : 0 ≤ m) (h1 : m ≤ 256) (w : World) : Calls Tryz.prog 68 #[.int .i64 m] w fun e w' => e = .returned (.tuple #[ptr (w.heap.size + 1), .nilIface]) ∧ w' = (w.alloc (.map #[] 0)).alloc (.cells #[.int .i64 m, nilS, .map (some w.heap.size)] tInbox) := by
  have hmm := @run_makeMap Tryz.prog
  have g0 : decide (m < 0) = false := by simpa using h0
  go_enter Tryz.func68, Tryz.ntmps68
  go_wp2
  go_ret2
  exact ⟨rfl, rfl⟩
def noRounds : Array Value := Array.replicate 144 (.int .i64 0)
theorem desk_cells (a b : Value) : (Tryz.zeroCells195.setIfInBounds 0 a).setIfInBounds 1 b = #[a, b] ++ noRounds := by kernel_rfl
set_option maxRecDepth 100000 in
set_option maxHeartbeats 2000000 in
theorem flatten_new (n s : Int) (h0 : 1 ≤ n) (h1 : n ≤ 8) (h2 : 0 ≤ s) (h3 : s < n) (w : World) : Calls Tryz.prog 69 #[.int .i64 n, .int .i64 s] w fun e w' => e = .returned (.tuple #[ptr w.heap.size, .nilIface]) ∧ w' = w.alloc (.cells (#[.int .i64 n, .int .i64 s] ++ noRounds) tDesk) := by
  have g0 : decide (n < 1) = false := by simpa using h0
  have g1 : decide (8 < n) = false := by simpa using h1
  have g2 : decide (s < 0) = false := by simpa using h2
  have g3 : decide (n ≤ s) = false := by simpa using h3
  go_enter Tryz.func69, Tryz.ntmps69
  go_wp2
  rw [desk_cells]
  go_ret2
  exact ⟨rfl, rfl⟩
/-- The cells of a replica at an epoch's beginning. -/
abbrev repRow (c0 c1 c2 c3 s : Int) (L : Nat) (base inb : Value) (desk : Value) (st : Nat) (cr : Value) : Array Value :=
  #[.int .i64 c0, .int .i64 c1, .int .i64 c2, .int .i64 c3, .int .i64 s, ptr L, base, inb, desk, ptr st, cr, .bool true, .int .i64 0, .int .i64 0, .int .i64 0, nilS, nilS]

theorem rep_model {w : World} {R L M : Nat} (h : w.cell? ⟨R, 5, none⟩ = some (ptr L)) (hl : w.cell? ⟨L, 2, none⟩ = some (ptr M)) : Calls Tryz.prog 55 #[ptr R] w fun e w' => e = .returned (ptr M) ∧ w = w' := by
  have hm : Calls Tryz.prog 92 #[ptr L] w fun e w' => e = .returned (ptr M) ∧ w = w' := by
    go_enter Tryz.func92, Tryz.ntmps92
    go_wp2
    go_ret
    exact ⟨rfl, rfl⟩
  go_enter Tryz.func55, Tryz.ntmps55
  go_wp2_with (go_at_call 92; refine hm.mono ?_; rintro e w' ⟨rfl, rfl⟩)
  go_ret
  exact ⟨rfl, rfl⟩
theorem log_model {w : World} {L M : Nat} (hl : w.cell? ⟨L, 2, none⟩ = some (ptr M)) : Calls Tryz.prog 92 #[ptr L] w fun e w' => e = .returned (ptr M) ∧ w = w' := by
  go_enter Tryz.func92, Tryz.ntmps92
  go_wp2
  go_ret
  exact ⟨rfl, rfl⟩

set_option maxRecDepth 100000 in
theorem rep_begin {w : World} {R L M T Bi Bb : Nat} (c0 c1 c2 c3 s : Int) (b0 inb desk cr : Value) (st : Nat) (h0 : 1 ≤ c0) (h1 : 0 ≤ c1) (h1' : c1 ≤ 65536) (hr : w.heap[R]? = some (.cells (repRow c0 c1 c2 c3 s L b0 inb desk st cr) tRep (0, 0))) (hL : ELog w L M T Bi Bb 0) :
    Calls Tryz.prog 70 #[ptr R] w fun e w' => e = .returned (.tuple #[]) ∧ w'.heap[R]? = some (.cells (repRow c0 c1 c2 c3 s L nilS inb desk st (.int .i64 (c1 / c0))) tRep (0, 0)) ∧ w.grownBy w' (some R) := by
  have hRl := (Array.getElem?_eq_some_iff.1 hr).1
  have r5 : w.cell? ⟨R, 5, none⟩ = some (ptr L) := (World.own_cell hr 5 _ rfl).1
  have l2 : w.cell? ⟨L, 2, none⟩ = some (ptr M) := (World.own_cell hL.l 2 _ rfl).1
  have HM := Lib.hid hL.m
  have HR := Lib.hid hr
  go_enter Tryz.func70, Tryz.ntmps70
  go_wp2_with (first
    | (go_at_call 92; refine (log_model l2).mono ?_; rintro e w' ⟨rfl, rfl⟩)
    | (go_at_call 63; refine (model_elements HM.out).mono ?_; rintro e w1 ⟨rfl, hg⟩; have HG := Lib.hid hg; have hr1 := Grew.heap hg HR.out; obtain ⟨r6, f6⟩ : w1.cell? ⟨R, 6, none⟩ = some b0 ∧ w1.frozen? ⟨R, 6, none⟩ = false := World.own_cell hr1 6 _ rfl; have HR1 := Lib.hid hr1; clear hg hr1))
  have hr2 := World.own_set2 HR1.out 6 nilS (repRow c0 c1 c2 c3 s L nilS inb desk st cr) rfl
  have hg2 := grownBy_set (grownBy_grew (grownBy_refl w (some R)) HG.out) 6 nilS
  clear r6 f6 r5 l2
  generalize w1.setCell ⟨R, 6, none⟩ nilS = w2 at *
  have r0 : w2.cell? ⟨R, 0, none⟩ = some (.int .i64 c0) := (World.own_cell hr2 0 _ rfl).1
  have r1 : w2.cell? ⟨R, 1, none⟩ = some (.int .i64 c1) := (World.own_cell hr2 1 _ rfl).1
  have r6 : w2.cell? ⟨R, 6, none⟩ = some nilS := (World.own_cell hr2 6 _ rfl).1
  have r10 : w2.cell? ⟨R, 10, none⟩ = some cr := (World.own_cell hr2 10 _ rfl).1
  have f10 : w2.frozen? ⟨R, 10, none⟩ = false := (World.own_cell hr2 10 _ rfl).2
  have hR2 : R < w2.heap.size := (Array.getElem?_eq_some_iff.1 hr2).1
  have HR2 := Lib.hid hr2
  have HG2 := Lib.hid hg2
  clear hr2 hg2
  refine wp_region_plus_tail 19 (by kernel_rfl) (by kernel_rfl) ?_
  simp only [List.take_succ_cons, List.take_zero, List.drop_succ_cons, List.drop_zero]
  repeat (go_big_quiet_step ((first | fail)))
  refine wpQuiet_nil ?_
  intro _ hw'
  obtain ⟨nx, rfl⟩ := hw'
  go_wp2_with fail
  rw [show max 0 c1 = c1 by omega]
  go_end0
  exact ⟨rfl, Grew.heap ((Grew.refl _).plus nx) (World.own_set2 HR2.out 10 _ _ rfl), grownBy_grew (grownBy_set HG2.out 10 _) ((Grew.refl _).plus nx)⟩

/-- A new replica. -/
structure ERep (w : World) (R L M T Bi Bb I D S Bh : Nat) (c0 c1 c2 c3 s : Int) : Prop where
  r : w.heap[R]? = some (.cells (repRow c0 c1 c2 c3 s L nilS (ptr I) (ptr D) S (.int .i64 (c1 / c0))) tRep (0, 0))
  l : ELog w L M T Bi Bb 0
  i : w.heap[I]? = some (.cells #[.int .i64 c3, nilS, .map (some Bh)] tInbox (0, 0))
  h : w.heap[Bh]? = some (.map #[] 0)
  d : w.heap[D]? = some (.cells (#[.int .i64 c0, .int .i64 s] ++ noRounds) tDesk (0, 0))
  st : w.heap[S]? = some (.cells #[nilS, nilS] tStack (0, 0))

set_option maxRecDepth 100000 in
theorem rep_begun (w : World) (c0 c1 c2 c3 s : Int) (h0 : 1 ≤ c0) (h0' : c0 ≤ 8) (h1 : 0 ≤ c1) (h1' : c1 ≤ 65536) (h3 : 0 ≤ c3) (h3' : c3 ≤ 256) (hs : 0 ≤ s) (hs' : s < c0) :
    Calls Tryz.prog 42 #[.agg #[.int .i64 c0, .int .i64 c1, .int .i64 c2, .int .i64 c3], .int .i64 s, .int .i64 0, nilS] w fun e w' => ∃ R L M T Bi Bb I D S Bh, e = .returned (.tuple #[ptr R, .nilIface]) ∧ Grew w w' ∧ ERep w' R L M T Bi Bb I D S Bh c0 c1 c2 c3 s := by
  go_enter Tryz.func42, Tryz.ntmps42
  go_wp2_with (go_at_call 66; refine (history_new _).mono ?_; rintro e w1 ⟨L, M, T, Bi, Bb, rfl, hg, hl, hL⟩; have HG := Lib.hid hg; have HL := Lib.hid hl; clear hg hl)
  have hb1 : w1.heap[w.heap.size]? = some (.cells #[.int .i64 c0, .int .i64 c1, .int .i64 c2, .int .i64 c3] 23 (0, 0)) := Grew.heap HG.out (heap_alloc_at _ _ _ rfl)
  have HB : Hid (∀ W, Grew w1 W → W.cellsAt ⟨w.heap.size, 0, none⟩ 4 = some [.int .i64 c0, .int .i64 c1, .int .i64 c2, .int .i64 c3]) := fun W hW => World.cellsAt_block (Grew.heap hW hb1) 4 rfl
  have k1 := HB.out w1 (Grew.refl _)
  go_region_held3 (fun w' => w'.cellsAt ⟨w.heap.size, 0, none⟩ 4 = some [.int .i64 c0, .int .i64 c1, .int .i64 c2, .int .i64 c3]) (exact HB.out _ (by repeat (first | with_reducible exact HG.out | with_reducible exact Grew.refl _ | with_reducible assumption | with_reducible apply Grew.plus | with_reducible apply Grew.drewN | with_reducible apply Grew.drew | with_reducible apply Grew.alloc | with_reducible refine Grew.setCell ?_ (by simp [go_sem]; try omega) _))) (first | (go_at_call 67; refine (undo_new _).mono ?_; rintro e w' ⟨rfl, rfl⟩))
  clear k1
  generalize hw4 : ((w1.alloc (.cells #[nilS, nilS] tStack)).alloc (.cells #[.int .i64 c0, .int .i64 c1, .int .i64 c2, .int .i64 c3, .int .i64 s, ptr L, .slice none 0 0, .pointer none, .pointer none, ptr w1.heap.size, .int .i64 0, .bool true, .int .i64 0, .int .i64 0, .int .i64 0, .slice none 0 0, .slice none 0 0] tRep)).drew = w4
  have hg4 : Grew w1 w4 := by rw [← hw4]; exact (((Grew.refl w1).alloc _).alloc _).drew
  have hs4 : w4.heap[w1.heap.size]? = some (.cells #[nilS, nilS] tStack (0, 0)) := by
    rw [← hw4, heap_drew0, heap_alloc_past _ _ _ (by simp [h1a])]; exact heap_alloc_at _ _ _ rfl
  have hr4 : w4.heap[w1.heap.size + 1]? = some (.cells #[.int .i64 c0, .int .i64 c1, .int .i64 c2, .int .i64 c3, .int .i64 s, ptr L, .slice none 0 0, .pointer none, .pointer none, ptr w1.heap.size, .int .i64 0, .bool true, .int .i64 0, .int .i64 0, .int .i64 0, .slice none 0 0, .slice none 0 0] tRep (0, 0)) := by
    rw [← hw4, heap_drew0]; exact heap_alloc_at _ _ _ (by simp [h1a])
  clear hw4
  have hRw : w.heap.size < w1.heap.size + 1 := by have := HG.out.size; simp [h1a] at this; omega
  have hSw : w.heap.size < w1.heap.size := by have := HG.out.size; simp [h1a] at this; omega
  have hRS : w1.heap.size ≠ w1.heap.size + 1 := by omega
  have hLR : L < w1.heap.size := (Array.getElem?_eq_some_iff.1 HL.out.l).1
  have hw1 : ∀ k, k < w1.heap.size → k ≠ w1.heap.size + 1 := fun k hk => by omega
  have hG4 := Lib.hid hg4
  have HS4 := Lib.hid hs4
  have HR4 := Lib.hid hr4
  clear hs4 hr4 hg4
  have hb4 : w4.heap[w.heap.size]? = some (.cells #[.int .i64 c0, .int .i64 c1, .int .i64 c2, .int .i64 c3] 23 (0, 0)) := Grew.heap hG4.out hb1
  have HB4 := Lib.hid hb4
  have q3 : w4.cell? ⟨w.heap.size, 3, none⟩ = some (.int .i64 c3) := (World.own_cell hb4 3 _ rfl).1
  clear hb4 hb1
  generalize hS : w1.heap.size = S at *
  generalize hR : S + 1 = R at *
  have HSz := Lib.hid hS
  have HRz := Lib.hid hR
  clear hS hR
  go_wp2_with (go_at_call 68; refine (causal_new c3 h3 h3' _).mono ?_; rintro e w5 ⟨rfl, h5⟩; have hg5 : Grew w4 w5 := (by rw [h5]; exact ((Grew.refl w4).alloc _).alloc _); have hi5 : w5.heap[w4.heap.size + 1]? = some (.cells #[.int .i64 c3, nilS, .map (some w4.heap.size)] tInbox (0, 0)) := (by rw [h5]; exact heap_alloc_at _ _ _ (by simp [h1a])); have hh5 : w5.heap[w4.heap.size]? = some (.map #[] 0) := (by rw [h5, heap_alloc_past _ _ _ (by simp [h1a])]; exact heap_alloc_at _ _ _ rfl); have hr5 := Grew.heap hg5 HR4.out; obtain ⟨r7, f7⟩ : w5.cell? ⟨R, 7, none⟩ = some (.pointer none) ∧ w5.frozen? ⟨R, 7, none⟩ = false := World.own_cell hr5 7 _ rfl; have q0 : w5.cell? ⟨w.heap.size, 0, none⟩ = some (.int .i64 c0) := (World.own_cell (Grew.heap hg5 HB4.out) 0 _ rfl).1; have HI5 := Lib.hid hi5; have HH5 := Lib.hid hh5; have HR5 := Lib.hid hr5; have HG5 := Lib.hid hg5; have hne : R ≠ w.heap.size := Nat.ne_of_gt hRw; clear h5 hg5 hi5 hh5 hr5)
  have hr5 := World.own_set2 HR5.out 7 (ptr (w4.heap.size + 1)) #[.int .i64 c0, .int .i64 c1, .int .i64 c2, .int .i64 c3, .int .i64 s, ptr L, .slice none 0 0, ptr (w4.heap.size + 1), .pointer none, ptr S, .int .i64 0, .bool true, .int .i64 0, .int .i64 0, .int .i64 0, .slice none 0 0, .slice none 0 0] rfl
  have hk5 : ∀ k, k < w5.heap.size → k ≠ R → (w5.setCell ⟨R, 7, none⟩ (ptr (w4.heap.size + 1))).heap[k]? = w5.heap[k]? := fun k _ hk => World.block_setCell _ _ _ _ hk
  have hg55 : w1.grownBy (w5.setCell ⟨R, 7, none⟩ (ptr (w4.heap.size + 1))) (some R) := grownBy_set (grownBy_grew (grownBy_grew (grownBy_refl w1 _) hG4.out) HG5.out) 7 _
  have hz6 : (w5.setCell ⟨R, 7, none⟩ (ptr (w4.heap.size + 1))).heap.size = w5.heap.size := World.setCell_size ..
  clear r7 f7 q0
  generalize w5.setCell ⟨R, 7, none⟩ (ptr (w4.heap.size + 1)) = w6 at *
  refine (flatten_new c0 s h0 h0' hs hs' _).mono ?_
  rintro e w7 ⟨rfl, h7⟩
  have hg7 : Grew w6 w7 := by rw [h7]; exact (Grew.refl w6).alloc _
  have hd7 : w7.heap[w6.heap.size]? = some (.cells (#[.int .i64 c0, .int .i64 s] ++ noRounds) tDesk (0, 0)) := by rw [h7]; exact heap_alloc_at _ _ _ rfl
  have hr7 := Grew.heap hg7 hr5
  obtain ⟨r8, f8⟩ : w7.cell? ⟨R, 8, none⟩ = some (.pointer none) ∧ w7.frozen? ⟨R, 8, none⟩ = false := World.own_cell hr7 8 _ rfl
  have HR7 := Lib.hid hr7
  have HD7 := Lib.hid hd7
  have HG7 := Lib.hid hg7
  have HG55 := Lib.hid hg55
  have HK5 := Lib.hid hk5
  have HSZ6 := Lib.hid hz6
  clear hz6
  clear h7 hg7 hd7 hr7 hr5 hg55 hk5
  go_wp2_with fail
  have hr8 := World.own_set2 HR7.out 8 (ptr w6.heap.size) (repRow c0 c1 c2 c3 s L nilS (ptr (w4.heap.size + 1)) (ptr w6.heap.size) S (.int .i64 0)) rfl
  have hRS1 : w1.heap.size ≤ R := by have := HSz.out; have := HRz.out; omega
  have hR4 : R < w4.heap.size := (Array.getElem?_eq_some_iff.1 HR4.out).1
  have hR6 : w4.heap.size ≤ w6.heap.size := by
    have h1 := HG5.out.size
    have h2 := HG55.out.size
    have h3 : w6.heap.size = w5.heap.size := HSZ6.out
    omega
  have hg8 : w1.grownBy (w7.setCell ⟨R, 8, none⟩ (ptr w6.heap.size)) (some R) := grownBy_set (grownBy_grew HG55.out HG7.out) 8 _
  have hk8 : ∀ k, k < w7.heap.size → k ≠ R → (w7.setCell ⟨R, 8, none⟩ (ptr w6.heap.size)).heap[k]? = w7.heap[k]? := fun k _ hk => World.block_setCell _ _ _ _ hk
  have hz8 : (w7.setCell ⟨R, 8, none⟩ (ptr w6.heap.size)).heap.size = w7.heap.size := World.setCell_size ..
  clear r8 f8
  generalize w7.setCell ⟨R, 8, none⟩ (ptr w6.heap.size) = w8 at *
  have hG8 : Grew w1 w8 := (Grew.refl w1).grown hg8 (fun k e => by cases e; exact hRS1)
  have H8 := Lib.hid (And.intro hr8 (And.intro hk8 hz8))
  have HG8 := Lib.hid hG8
  have HG8' := Lib.hid hg8
  clear hr8 hk8 hz8 hG8 hg8 hRS1 hR4 hR6
  refine (rep_begin c0 c1 c2 c3 s nilS (ptr (w4.heap.size + 1)) (ptr w6.heap.size) (.int .i64 0) S h0 h1 h1' H8.out.1 (HL.out.grew HG8.out)).mono ?_
  rintro e w9 ⟨rfl, hr9, hg9⟩
  have HR9 := Lib.hid hr9
  have HG9 := Lib.hid hg9
  clear hr9 hg9
  go_wp2_with fail
  go_ret2
  have hRS1 : w1.heap.size ≤ R := by have := HSz.out; have := HRz.out; omega
  have hR4 : R < w4.heap.size := (Array.getElem?_eq_some_iff.1 HR4.out).1
  have hS4 : S < w4.heap.size := (Array.getElem?_eq_some_iff.1 HS4.out).1
  have g19 : Grew w1 w9 := (Grew.refl w1).grown (grownBy_trans HG8'.out HG9.out) (fun k e => by cases e; exact hRS1)
  have z56 := HSZ6.out
  have z45 := HG5.out.size
  have z67 := HG7.out.size
  have z78 := H8.out.2.2
  have keep : ∀ k o, k ≠ R → w5.heap[k]? = some o → w9.heap[k]? = some o := fun k o hk ho => by
    have hk5 := (Array.getElem?_eq_some_iff.1 ho).1
    rw [HG9.out.block k (by omega) (by simpa using hk), H8.out.2.1 k (by omega) hk, HG7.out.block k (by omega), HK5.out k hk5 hk]; exact ho
  have keep7 : ∀ k o, k ≠ R → w7.heap[k]? = some o → w9.heap[k]? = some o := fun k o hk ho => by
    have hk7 := (Array.getElem?_eq_some_iff.1 ho).1
    rw [HG9.out.block k (by omega) (by simpa using hk), H8.out.2.1 k hk7 hk]; exact ho
  exact ⟨R, L, M, T, Bi, Bb, _, _, S, _, rfl, (((Grew.refl w).alloc _).trans HG.out).trans g19, ⟨HR9.out, HL.out.grew g19, keep _ _ (by omega) HI5.out, keep _ _ (by omega) HH5.out, keep7 _ _ (by omega) HD7.out, keep _ _ (by omega) (Grew.heap HG5.out HS4.out)⟩⟩
end Go.Proofs.YthekgpchjonboaaGreatDoor
