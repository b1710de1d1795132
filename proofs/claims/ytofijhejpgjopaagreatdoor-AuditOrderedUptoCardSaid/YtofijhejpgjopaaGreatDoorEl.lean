/- Elements as plain data; walks: an element's weight, is it live; who wrote what of a list. -/
import Derived.Test.YtofijhejpgjopaaGreatDoorProg
import Derived.Test.YtofijhejpgjopaaGreatDoorRf
import Derived.Test.YtofijhejpgjopaaGreatDoorClkL
import Derived.Test.YtofijhejpgjopaaGreatDoorErrS
import Derived.IntWalk
namespace Go
open Go.RowKit
/-- An element: its ID, its character, how often it is hidden. -/
structure ElD where
  ep : Int
  rp : Int
  nb : Int
  ch : Int
  hd : Int
deriving DecidableEq
def elRow (e : ElD) : List Value := [.int .i64 e.ep, .int .i64 e.rp, .int .i64 e.nb, .int .i32 e.ch, .int .i64 e.hd]
theorem elRow_len (e : ElD) : (elRow e).length = 5 := rfl
/-- Each number fits its kind. -/
def ElD.Fits (e : ElD) : Prop := (-9223372036854775808 ≤ e.ep ∧ e.ep ≤ 9223372036854775807) ∧ (-9223372036854775808 ≤ e.rp ∧ e.rp ≤ 9223372036854775807) ∧ (-9223372036854775808 ≤ e.nb ∧ e.nb ≤ 9223372036854775807) ∧ (-2147483648 ≤ e.ch ∧ e.ch ≤ 2147483647) ∧ (-9223372036854775808 ≤ e.hd ∧ e.hd ≤ 9223372036854775807)
def ElD.live (e : ElD) : Bool := decide (e.hd ≤ 0)
def authStep (c : C8) (e : ElD) : C8 := if e.hd ≤ 0 ∧ 0 ≤ e.rp ∧ e.rp < 8 then c.set e.rp.toNat (c.get e.rp.toNat + 1) else c
def authors (l : List ElD) : C8 := l.foldl authStep ⟨0, 0, 0, 0, 0, 0, 0, 0⟩
theorem authors_snoc (l : List ElD) (e : ElD) : authors (l ++ [e]) = authStep (authors l) e := by simp [authors]
theorem C8.get_set (c : C8) (i j : Nat) (v : Int) (hi : i < 8) (hj : j < 8) : (c.set i v).get j = if i = j then v else c.get j := by
  match i, hi, j, hj with
  | 0, _, j, hj | 1, _, j, hj | 2, _, j, hj | 3, _, j, hj | 4, _, j, hj | 5, _, j, hj | 6, _, j, hj | 7, _, j, hj =>
    match j, hj with
    | 0, _ | 1, _ | 2, _ | 3, _ | 4, _ | 5, _ | 6, _ | 7, _ => rfl
theorem auth_bound : ∀ (l : List ElD) (c : C8) (n : Int), (∀ j, j < 8 → 0 ≤ c.get j ∧ c.get j ≤ n) → ∀ j, j < 8 → 0 ≤ (l.foldl authStep c).get j ∧ (l.foldl authStep c).get j ≤ n + l.length
  | [], c, n, h, j, hj => by have := h j hj; simp only [List.foldl_nil, List.length_nil]; omega
  | e :: l, c, n, h, j, hj => by
    have h2 := auth_bound l (authStep c e) (n + 1) (fun j hj => by
      unfold authStep
      split
      · rename_i hc
        rw [C8.get_set _ _ _ _ (by omega) hj]
        have h1 := h e.rp.toNat (by omega)
        have h2 := h j hj
        split <;> omega
      · have h2 := h j hj
        omega) j hj
    simp only [List.foldl_cons, List.length_cons]
    omega
theorem authors_bound (l : List ElD) (j : Nat) (hj : j < 8) : 0 ≤ (authors l).get j ∧ (authors l).get j ≤ l.length := by
  have := auth_bound l ⟨0, 0, 0, 0, 0, 0, 0, 0⟩ 0 (fun j hj => by match j, hj with | 0, _ | 1, _ | 2, _ | 3, _ | 4, _ | 5, _ | 6, _ | 7, _ => exact ⟨by decide, by decide⟩) j hj
  unfold authors; omega
theorem take_snoc' {α : Type} (l : List α) (k : Nat) (h : k < l.length) : l.take (k + 1) = l.take k ++ [l[k]] := by
  rw [List.take_succ_eq_append_getElem h]
theorem cellsAt_later {w W : World} (hg : Grew w W) {b off n : Nat} {cs : List Value} (h : w.cellsAt ⟨b, off, none⟩ n = some cs) (h0 : b < w.heap.size) : W.cellsAt ⟨b, off, none⟩ n = some cs := by
  rw [World.cellsAt_congr (w := w) n _ (fun o s => World.cell?_of_block (w := w) (hg.block b h0))]; exact h
/-- Eight numbers, stored one by one into a block of the call's own. -/
theorem set8 {w w' : World} {B : Nat} {z0 z1 z2 z3 z4 z5 z6 z7 : Value} {t : TypeId} (h : w.heap[B]? = some (.cells #[z0, z1, z2, z3, z4, z5, z6, z7] t (0, 0))) (c : C8) (hw : ((((((((w.setCell ⟨B, 0, none⟩ (.int .i64 c.x0)).setCell ⟨B, 1, none⟩ (.int .i64 c.x1)).setCell ⟨B, 2, none⟩ (.int .i64 c.x2)).setCell ⟨B, 3, none⟩ (.int .i64 c.x3)).setCell ⟨B, 4, none⟩ (.int .i64 c.x4)).setCell ⟨B, 5, none⟩ (.int .i64 c.x5)).setCell ⟨B, 6, none⟩ (.int .i64 c.x6)).setCell ⟨B, 7, none⟩ (.int .i64 c.x7)) = w') :
    w'.heap[B]? = some (.cells c.cells t (0, 0)) ∧ w.grownBy w' (some B) := by
  subst hw
  have s0 := World.own_set2 h 0 (.int .i64 c.x0) #[.int .i64 c.x0, z1, z2, z3, z4, z5, z6, z7] rfl
  have s1 := World.own_set2 s0 1 (.int .i64 c.x1) #[.int .i64 c.x0, .int .i64 c.x1, z2, z3, z4, z5, z6, z7] rfl
  have s2 := World.own_set2 s1 2 (.int .i64 c.x2) #[.int .i64 c.x0, .int .i64 c.x1, .int .i64 c.x2, z3, z4, z5, z6, z7] rfl
  have s3 := World.own_set2 s2 3 (.int .i64 c.x3) #[.int .i64 c.x0, .int .i64 c.x1, .int .i64 c.x2, .int .i64 c.x3, z4, z5, z6, z7] rfl
  have s4 := World.own_set2 s3 4 (.int .i64 c.x4) #[.int .i64 c.x0, .int .i64 c.x1, .int .i64 c.x2, .int .i64 c.x3, .int .i64 c.x4, z5, z6, z7] rfl
  have s5 := World.own_set2 s4 5 (.int .i64 c.x5) #[.int .i64 c.x0, .int .i64 c.x1, .int .i64 c.x2, .int .i64 c.x3, .int .i64 c.x4, .int .i64 c.x5, z6, z7] rfl
  have s6 := World.own_set2 s5 6 (.int .i64 c.x6) #[.int .i64 c.x0, .int .i64 c.x1, .int .i64 c.x2, .int .i64 c.x3, .int .i64 c.x4, .int .i64 c.x5, .int .i64 c.x6, z7] rfl
  have s7 := World.own_set2 s6 7 (.int .i64 c.x7) #[.int .i64 c.x0, .int .i64 c.x1, .int .i64 c.x2, .int .i64 c.x3, .int .i64 c.x4, .int .i64 c.x5, .int .i64 c.x6, .int .i64 c.x7] rfl
  exact ⟨s7, grownBy_set (grownBy_set (grownBy_set (grownBy_set (grownBy_set (grownBy_set (grownBy_set (grownBy_set (grownBy_refl w (some B)) _ _) _ _) _ _) _ _) _ _) _ _) _ _) _ _⟩
end Go
namespace Go.Proofs.YtofijhejpgjopaaGreatDoor
open Go.RowKit
set_option linter.unusedSimpArgs false
set_option linter.unusedVariables false

theorem weight_any (e0 e1 e2 ch hd : Int) (w : World) : Calls Tryz.prog 77 #[.agg #[.int .i64 e0, .int .i64 e1, .int .i64 e2, .int .i32 ch, .int .i64 hd]] w fun e w' => e = .returned (.agg #[.int .i64 (if 0 < hd then 0 else 1), .int .i64 (if 0 < hd then 0 else if ch = 10 then 1 else 0)]) ∧ Grew w w' := by
  by_cases h : 0 < hd
  · have g : decide (0 < hd) = true := by simpa using h
    rw [if_pos h, if_pos h]
    go_enter Tryz.func77, Tryz.ntmps77
    go_wp2
    exact bodyPost_ret (v := .agg #[.int .i64 0, .int .i64 0]) (by simp [results, Tryz.results77, go_sem]) rfl ⟨rfl, by repeat (first | with_reducible exact HG.out | with_reducible exact Grew.refl _ | with_reducible assumption | with_reducible apply Grew.plus | with_reducible apply Grew.drewN | with_reducible apply Grew.drew | with_reducible apply Grew.alloc | with_reducible refine Grew.setCell ?_ (by simp [go_sem]; try omega) _)⟩
  · have g : decide (0 < hd) = false := by simpa using h
    rw [if_neg h, if_neg h]
    by_cases h10 : ch = 10
    · subst h10
      go_enter Tryz.func77, Tryz.ntmps77
      go_wp2
      exact bodyPost_ret (v := .agg #[.int .i64 1, .int .i64 1]) (by simp [results, Tryz.results77, go_sem]) rfl ⟨rfl, by repeat (first | with_reducible exact HG.out | with_reducible exact Grew.refl _ | with_reducible assumption | with_reducible apply Grew.plus | with_reducible apply Grew.drewN | with_reducible apply Grew.drew | with_reducible apply Grew.alloc | with_reducible refine Grew.setCell ?_ (by simp [go_sem]; try omega) _)⟩
    · have g2 : (ch == 10) = false := by simpa using h10
      rw [if_neg h10]
      go_enter Tryz.func77, Tryz.ntmps77
      go_wp2
      exact bodyPost_ret (v := .agg #[.int .i64 1, .int .i64 0]) (by simp [results, Tryz.results77, go_sem]) rfl ⟨rfl, by repeat (first | with_reducible exact HG.out | with_reducible exact Grew.refl _ | with_reducible assumption | with_reducible apply Grew.plus | with_reducible apply Grew.drewN | with_reducible apply Grew.drew | with_reducible apply Grew.alloc | with_reducible refine Grew.setCell ?_ (by simp [go_sem]; try omega) _)⟩
theorem live_any (e0 e1 e2 ch hd : Int) (w : World) : Calls Tryz.prog 39 #[.agg #[.int .i64 e0, .int .i64 e1, .int .i64 e2, .int .i32 ch, .int .i64 hd]] w fun e w' => e = .returned (.bool (decide (hd ≤ 0))) ∧ Grew w w' := by
  have W := fun w => weight_any e0 e1 e2 ch hd w
  by_cases h : 0 < hd
  · have g : decide (hd ≤ 0) = false := by simp; omega
    simp only [if_pos h] at W
    rw [g]
    have W' := Lib.hid W
    clear W
    go_enter Tryz.func39, Tryz.ntmps39
    go_wp2_with (go_at_call 77; refine (W'.out _).mono ?_; rintro e w' ⟨rfl, gx, rfl⟩)
    go_ret
    exact ⟨rfl, by repeat (first | with_reducible exact HG.out | with_reducible exact Grew.refl _ | with_reducible assumption | with_reducible apply Grew.plus | with_reducible apply Grew.drewN | with_reducible apply Grew.drew | with_reducible apply Grew.alloc | with_reducible refine Grew.setCell ?_ (by simp [go_sem]; try omega) _)⟩
  · have g : decide (hd ≤ 0) = true := by simp; omega
    simp only [if_neg h] at W
    rw [g]
    generalize (if ch = 10 then (1 : Int) else 0) = q at W
    have W' := Lib.hid W
    clear W
    go_enter Tryz.func39, Tryz.ntmps39
    go_wp2_with (go_at_call 77; refine (W'.out _).mono ?_; rintro e w' ⟨rfl, gx, rfl⟩)
    go_ret
    exact ⟨rfl, by repeat (first | with_reducible exact HG.out | with_reducible exact Grew.refl _ | with_reducible assumption | with_reducible apply Grew.plus | with_reducible apply Grew.drewN | with_reducible apply Grew.drew | with_reducible apply Grew.alloc | with_reducible refine Grew.setCell ?_ (by simp [go_sem]; try omega) _)⟩
set_option maxRecDepth 100000 in
set_option maxHeartbeats 2000000 in
theorem authors_any (l : List ElD) (a : Option Addr) (cap : Nat) (w : World) (ha : CellsIn w a (l.flatMap elRow)) (hl : l.length ≤ 1000000000000) : Calls Tryz.prog 14 #[.slice a l.length cap] w fun e w' => e = .returned (.agg (authors l).cells) ∧ Grew w w' := by
  have HA := Lib.hid ha
  clear ha
  have h1a : ∀ (W : World) (o : Obj), (W.alloc o).heap.size = W.heap.size + 1 := fun W o => by simp [go_sem]
  go_enter Tryz.func14, Tryz.ntmps14
  go_wp2_with fail
  go_loopw [8] (fun s8 wr => ∃ k : Nat, k ≤ l.length ∧ s8 = .int .i64 k ∧ wr.heap[w.heap.size + 1]? = some (.cells (authors (l.take k)).cells 29 (0, 0)) ∧ wr.heap[w.heap.size]? = some (.cells (authors []).cells 29 (0, 0)) ∧ Grew w wr) (fun s8 _ => l.length - (intOf s8).toNat)
  case atStart => exact ⟨0, by omega, rfl, heap_alloc_at _ _ _ (by rw [h1a]), by rw [heap_alloc_past _ _ _ (by rw [h1a]; omega)]; exact heap_alloc_at _ _ _ rfl, by repeat (first | with_reducible exact HG.out | with_reducible exact Grew.refl _ | with_reducible assumption | with_reducible apply Grew.plus | with_reducible apply Grew.drewN | with_reducible apply Grew.drew | with_reducible apply Grew.alloc | with_reducible refine Grew.setCell ?_ (by simp [go_sem]; try omega) _)⟩
  case round =>
    obtain ⟨k, hk, rfl, hn, ho, hg⟩ := hrel
    by_cases hlt : k < l.length
    · obtain ⟨b, off, rfl, hbl, hrow⟩ := CellsIn.rowAt elRow 5 elRow_len (by omega) HA.out (by omega)
      have hr := hrow k hlt
      have hts := Lib.hid (take_snoc' l k hlt)
      have hbd := authors_bound (l.take k)
      have hll : (l.take k).length = k := List.length_take_of_le hk
      rw [hll] at hbd
      generalize l[k] = e at *
      obtain ⟨ep, rp, nb, ch, hd⟩ := e
      generalize hc : authors (l.take k) = c at *
      have HC := Lib.hid hc
      clear hc hll hrow
      have q := cellsAt_later hg hr hbl
      simp only [elRow] at q
      have hsz := hg.size
      have hBs : w.heap.size + 1 < wr.heap.size := (Array.getElem?_eq_some_iff.1 hn).1
      have HN := Lib.hid hn
      have HO := Lib.hid ho
      have HG := Lib.hid hg
      clear hn ho hg hr
      by_cases hA : hd ≤ 0 ∧ 0 ≤ rp ∧ rp < 8
      · obtain ⟨hA1, hA2, hA3⟩ := hA
        have hst := Lib.hid (show authStep c ⟨ep, rp, nb, ch, hd⟩ = c.set rp.toNat (c.get rp.toNat + 1) from if_pos ⟨hA1, hA2, hA3⟩)
        have hr8 : rp.toNat < 8 := by omega
        obtain ⟨n0, f0⟩ : wr.cell? ⟨w.heap.size + 1, rp.toNat, none⟩ = some (.int .i64 (c.get rp.toNat)) ∧ wr.frozen? ⟨w.heap.size + 1, rp.toNat, none⟩ = false := World.own_cell HN.out rp.toNat _ (c.cells_get rp.toNat hr8)
        have hb2 := hbd rp.toNat hr8
        have hw : IntKind.i64.wrap (c.get rp.toNat + 1) = c.get rp.toNat + 1 := IntWalk.i64_in _ (by omega)
        have d1 : decide (hd ≤ 0) = true := by simpa using hA1
        have d2 : decide (0 ≤ rp) = true := by simpa using hA2
        have d3 : decide (rp < 8) = true := by simpa using hA3
        go_wp2_with (go_at_call 39; refine (live_any _ _ _ _ _ _).mono ?_; rintro e w' ⟨rfl, gx, rfl⟩)
        have hq : Grew wr ((wr.alloc (.cells #[.int .i64 ep, .int .i64 rp, .int .i64 nb, .int .i32 ch, .int .i64 hd] 71)).plus gx) := by repeat (first | with_reducible exact HG.out | with_reducible exact Grew.refl _ | with_reducible assumption | with_reducible apply Grew.plus | with_reducible apply Grew.drewN | with_reducible apply Grew.drew | with_reducible apply Grew.alloc | with_reducible refine Grew.setCell ?_ (by simp [go_sem]; try omega) _)
        generalize (wr.alloc (.cells #[.int .i64 ep, .int .i64 rp, .int .i64 nb, .int .i32 ch, .int .i64 hd] 71)).plus gx = wq at *
        have s1 := World.own_set2 (Grew.heap hq HN.out) rp.toNat (.int .i64 (c.get rp.toNat + 1)) (c.set rp.toNat (c.get rp.toNat + 1)).cells (C8.cells_set _ _ _ hr8)
        have s2 : (wq.setCell ⟨w.heap.size + 1, rp.toNat, none⟩ (.int .i64 (c.get rp.toNat + 1))).heap[w.heap.size]? = some (.cells (authors []).cells 29 (0, 0)) := by
          rw [World.block_setCell _ _ _ _ (by simp)]; exact Grew.heap hq HO.out
        have s3 : Grew w (wq.setCell ⟨w.heap.size + 1, rp.toNat, none⟩ (.int .i64 (c.get rp.toNat + 1))) := (HG.out.trans hq).setCell (by simp) _
        go_roundw
        case rel => exact ⟨k + 1, by omega, by go_num, by rw [hts.out, authors_snoc, HC.out, hst.out]; exact s1, s2, s3⟩
        case measure => simp [intOf]; omega
      · have hst := Lib.hid (show authStep c ⟨ep, rp, nb, ch, hd⟩ = c from if_neg hA)
        have hA' : decide (hd ≤ 0) = true → decide (0 ≤ rp) = true → decide (rp < 8) = false := fun a1 a2 => by simp only [decide_eq_true_eq, decide_eq_false_iff_not] at *; exact fun a3 => hA ⟨a1, a2, a3⟩
        by_cases d1 : hd ≤ 0
        · have d1' : decide (hd ≤ 0) = true := by simpa using d1
          by_cases d2 : 0 ≤ rp
          · have d2' : decide (0 ≤ rp) = true := by simpa using d2
            have d3' : decide (rp < 8) = false := hA' d1' d2'
            clear hA hA'
            go_wp2_with (go_at_call 39; refine (live_any _ _ _ _ _ _).mono ?_; rintro e w' ⟨rfl, gx, rfl⟩)
            go_roundw
            case rel => exact ⟨k + 1, by omega, by go_num, Grew.heap (show Grew wr _ from by repeat (first | with_reducible exact HG.out | with_reducible exact Grew.refl _ | with_reducible assumption | with_reducible apply Grew.plus | with_reducible apply Grew.drewN | with_reducible apply Grew.drew | with_reducible apply Grew.alloc | with_reducible refine Grew.setCell ?_ (by simp [go_sem]; try omega) _)) (by rw [hts.out, authors_snoc, HC.out, hst.out]; exact HN.out), Grew.heap (show Grew wr _ from by repeat (first | with_reducible exact HG.out | with_reducible exact Grew.refl _ | with_reducible assumption | with_reducible apply Grew.plus | with_reducible apply Grew.drewN | with_reducible apply Grew.drew | with_reducible apply Grew.alloc | with_reducible refine Grew.setCell ?_ (by simp [go_sem]; try omega) _)) HO.out, HG.out.trans (show Grew wr _ from by repeat (first | with_reducible exact HG.out | with_reducible exact Grew.refl _ | with_reducible assumption | with_reducible apply Grew.plus | with_reducible apply Grew.drewN | with_reducible apply Grew.drew | with_reducible apply Grew.alloc | with_reducible refine Grew.setCell ?_ (by simp [go_sem]; try omega) _))⟩
            case measure => simp [intOf]; omega
          · have d2' : decide (0 ≤ rp) = false := by simpa using d2
            clear hA hA'
            go_wp2_with (go_at_call 39; refine (live_any _ _ _ _ _ _).mono ?_; rintro e w' ⟨rfl, gx, rfl⟩)
            go_roundw
            case rel => exact ⟨k + 1, by omega, by go_num, Grew.heap (show Grew wr _ from by repeat (first | with_reducible exact HG.out | with_reducible exact Grew.refl _ | with_reducible assumption | with_reducible apply Grew.plus | with_reducible apply Grew.drewN | with_reducible apply Grew.drew | with_reducible apply Grew.alloc | with_reducible refine Grew.setCell ?_ (by simp [go_sem]; try omega) _)) (by rw [hts.out, authors_snoc, HC.out, hst.out]; exact HN.out), Grew.heap (show Grew wr _ from by repeat (first | with_reducible exact HG.out | with_reducible exact Grew.refl _ | with_reducible assumption | with_reducible apply Grew.plus | with_reducible apply Grew.drewN | with_reducible apply Grew.drew | with_reducible apply Grew.alloc | with_reducible refine Grew.setCell ?_ (by simp [go_sem]; try omega) _)) HO.out, HG.out.trans (show Grew wr _ from by repeat (first | with_reducible exact HG.out | with_reducible exact Grew.refl _ | with_reducible assumption | with_reducible apply Grew.plus | with_reducible apply Grew.drewN | with_reducible apply Grew.drew | with_reducible apply Grew.alloc | with_reducible refine Grew.setCell ?_ (by simp [go_sem]; try omega) _))⟩
            case measure => simp [intOf]; omega
        · have d1' : decide (hd ≤ 0) = false := by simpa using d1
          clear hA hA'
          go_wp2_with (go_at_call 39; refine (live_any _ _ _ _ _ _).mono ?_; rintro e w' ⟨rfl, gx, rfl⟩)
          go_roundw
          case rel => exact ⟨k + 1, by omega, by go_num, Grew.heap (show Grew wr _ from by repeat (first | with_reducible exact HG.out | with_reducible exact Grew.refl _ | with_reducible assumption | with_reducible apply Grew.plus | with_reducible apply Grew.drewN | with_reducible apply Grew.drew | with_reducible apply Grew.alloc | with_reducible refine Grew.setCell ?_ (by simp [go_sem]; try omega) _)) (by rw [hts.out, authors_snoc, HC.out, hst.out]; exact HN.out), Grew.heap (show Grew wr _ from by repeat (first | with_reducible exact HG.out | with_reducible exact Grew.refl _ | with_reducible assumption | with_reducible apply Grew.plus | with_reducible apply Grew.drewN | with_reducible apply Grew.drew | with_reducible apply Grew.alloc | with_reducible refine Grew.setCell ?_ (by simp [go_sem]; try omega) _)) HO.out, HG.out.trans (show Grew wr _ from by repeat (first | with_reducible exact HG.out | with_reducible exact Grew.refl _ | with_reducible assumption | with_reducible apply Grew.plus | with_reducible apply Grew.drewN | with_reducible apply Grew.drew | with_reducible apply Grew.alloc | with_reducible refine Grew.setCell ?_ (by simp [go_sem]; try omega) _))⟩
          case measure => simp [intOf]; omega
    · obtain rfl : k = l.length := by omega
      rw [List.take_of_length_le (Nat.le_refl _)] at hn
      have hc8 := World.cellsAt_block hn 8 (by rw [C8.size_cells'])
      have ho' : ∀ i : Nat, i < 8 → wr.cell? ⟨w.heap.size, i, none⟩ = some (.int .i64 0) ∧ wr.frozen? ⟨w.heap.size, i, none⟩ = false := fun i hi => World.own_cell ho i _ (by match i, hi with | 0, _ | 1, _ | 2, _ | 3, _ | 4, _ | 5, _ | 6, _ | 7, _ => rfl)
      obtain ⟨p0, q0⟩ := ho' 0 (by omega)
      obtain ⟨p1, q1⟩ := ho' 1 (by omega)
      obtain ⟨p2, q2⟩ := ho' 2 (by omega)
      obtain ⟨p3, q3⟩ := ho' 3 (by omega)
      obtain ⟨p4, q4⟩ := ho' 4 (by omega)
      obtain ⟨p5, q5⟩ := ho' 5 (by omega)
      obtain ⟨p6, q6⟩ := ho' 6 (by omega)
      obtain ⟨p7, q7⟩ := ho' 7 (by omega)
      have HG := Lib.hid hg
      have HO := Lib.hid ho
      generalize hcl : authors l = c at *
      have HCL := Lib.hid hcl
      clear hn ho hg ho' hcl
      go_wp2
      generalize hw2 : ((((((((wr.setCell ⟨w.heap.size, 0, none⟩ (.int .i64 c.x0)).setCell ⟨w.heap.size, 1, none⟩ (.int .i64 c.x1)).setCell ⟨w.heap.size, 2, none⟩ (.int .i64 c.x2)).setCell ⟨w.heap.size, 3, none⟩ (.int .i64 c.x3)).setCell ⟨w.heap.size, 4, none⟩ (.int .i64 c.x4)).setCell ⟨w.heap.size, 5, none⟩ (.int .i64 c.x5)).setCell ⟨w.heap.size, 6, none⟩ (.int .i64 c.x6)).setCell ⟨w.heap.size, 7, none⟩ (.int .i64 c.x7)) = w2
      obtain ⟨t1, t2⟩ := set8 HO.out c hw2
      have t3 : ∀ i (v : Value), c.cells[i]? = some v → w2.cell? ⟨w.heap.size, i, none⟩ = some v := fun i v hv => (World.own_cell t1 i v hv).1
      have f0 := t3 0 _ c.cell0
      have f1 := t3 1 _ c.cell1
      have f2 := t3 2 _ c.cell2
      have f3 := t3 3 _ c.cell3
      have f4 := t3 4 _ c.cell4
      have f5 := t3 5 _ c.cell5
      have f6 := t3 6 _ c.cell6
      have f7 := t3 7 _ c.cell7
      exact bodyPost_ret (v := .agg c.cells) (by simp [results, Tryz.results14, go_sem, f0, f1, f2, f3, f4, f5, f6, f7]) rfl ⟨by rw [HCL.out], HG.out.grown t2 (fun k e => by cases e; exact Nat.le_refl _)⟩
end Go.Proofs.YtofijhejpgjopaaGreatDoor
