/- Walks of the laws ScriptNames, ScriptFold, ScriptRead. -/
import Derived.Test.YtkdjejokhbdokaaScrRef
import Derived.Test.YtkdjejokhbdokaaScrK
import Derived.Test.YtkdjejokhbdokaaScrN
namespace Go.Proofs.Ytkdjejokhbdokaa
open Go.RowKit
set_option linter.unusedSimpArgs false
set_option linter.unusedVariables false

theorem wake_read : Scr.readL [0, 1, 2, 3, 2, 0, 27] = [⟨0, 1, 2, 3, ⟨#[97, 98]⟩⟩] := by decide +kernel
theorem name_seven : nameB 7 = ⟨#[115, 121, 110, 99]⟩ := rfl

theorem wake_call (w : World) : Calls Try.prog 10 #[.slice (some ⟨w.heap.size, 0, none⟩) 7 7] (w.alloc (.cells #[.int .u8 0, .int .u8 1, .int .u8 2, .int .u8 3, .int .u8 2, .int .u8 0, .int .u8 27] 5)) fun e w' => ∃ g c, e = .returned (.slice (some ⟨g, 0, none⟩) 1 c) ∧ Grew w w' ∧ w'.cellsAt ⟨g, 0, none⟩ 5 = some [.int .i64 0, .int .i64 1, .int .i64 2, .int .i64 3, .string ⟨#[97, 98]⟩] := by
  refine (read_any (some ⟨w.heap.size, 0, none⟩) 7 [0, 1, 2, 3, 2, 0, 27] _ (World.ownsRow_lit (size := 1) w #[.int .u8 0, .int .u8 1, .int .u8 2, .int .u8 3, .int .u8 2, .int .u8 0, .int .u8 27] 7 (Nat.le_refl _) (by decide) rfl).cin (by decide) (by decide) (by decide)).mono ?_
  rintro e w1 ⟨v, rfl, hg1, hown1⟩
  rw [wake_read] at hown1
  obtain ⟨g, c, rfl, _, _⟩ := hown1.form (by decide)
  refine ⟨g, c, rfl, ((Grew.refl w).alloc _).trans hg1, ?_⟩
  obtain ⟨b, off, he, _, hr⟩ := CellsIn.rowAt (xs := [(⟨0, 1, 2, 3, ⟨#[97, 98]⟩⟩ : StepD)]) _ 5 len_cells (by decide) hown1.cin (by decide)
  cases he
  have hrow := hr 0 (by decide)
  simpa [Scr.cells] using hrow
set_option maxRecDepth 100000 in
set_option maxHeartbeats 1000000 in
theorem wakes18 (w : World) : Calls Try.prog 14 #[] w fun e w' => e = .returned (.bool true) ∧ Grew w w' := by
  go_enter Try.func14, Try.ntmps14
  go_wp2_with fail
  refine (wake_call w).mono ?_
  rintro e w1 ⟨g, c, rfl, hg1, hrow⟩
  have HG := Lib.hid hg1
  clear hg1
  go_wp2_with fail
  refine (name_any 7 (by decide) (by decide) _).mono ?_
  rw [name_seven]
  rintro e w' ⟨rfl, gx, rfl⟩
  go_wp2
  go_ret
  exact ⟨rfl, by repeat (first | with_reducible exact HG.out | with_reducible exact Grew.refl _ | with_reducible assumption | with_reducible apply Grew.plus | with_reducible apply Grew.drewN | with_reducible apply Grew.drew | with_reducible apply Grew.alloc | with_reducible refine Grew.setCell ?_ (by simp [go_sem]; try omega) _)⟩

set_option maxRecDepth 100000 in
set_option maxHeartbeats 1000000 in
theorem scriptFold_walk (n m : Int) (w : World) (hn0 : -9223372036854775808 ≤ n) (hn1 : n ≤ 9223372036854775807) (hm0 : -9223372036854775808 ≤ m) (hm1 : m ≤ 9223372036854775807) :
    Calls Try.prog 5 #[.int .i64 n, .int .i64 m] w fun e w' => e = .returned (.bool true) ∧ Grew w w' := by
  by_cases hm : m < 1
  · have hf : foldI n m = 0 := by unfold foldI; rw [if_pos hm]
    have HF := Lib.hid hf
    clear hf
    go_enter Try.func5, Try.ntmps5
    go_wp2_with (first | (go_at_call 17; refine (fold_any n m hn0 hn1 hm0 hm1 _).mono ?_; rw [HF.out]; rintro e w' ⟨rfl, rfl⟩) | (go_at_call 18; refine (rfold_any n m hn0 hn1 hm0 hm1 _).mono ?_; rw [HF.out]; rintro e w' ⟨rfl, rfl⟩) | (go_at_call 15; refine (name_any _ (by assumption) (by assumption) _).mono ?_; rintro e w' ⟨rfl, gx, rfl⟩) | (go_at_call 16; refine (rname_any _ (by assumption) (by assumption) _).mono ?_; rintro e w' ⟨rfl, gx, rfl⟩) | (go_at_call 14; refine (wakes18 _).mono ?_; rintro e w' ⟨rfl, gx, rfl⟩))
    go_ret
    exact ⟨rfl, by repeat (first | with_reducible exact HG.out | with_reducible exact Grew.refl _ | with_reducible assumption | with_reducible apply Grew.plus | with_reducible apply Grew.drewN | with_reducible apply Grew.drew | with_reducible apply Grew.alloc | with_reducible refine Grew.setCell ?_ (by simp [go_sem]; try omega) _)⟩
  · have hf0 : 0 ≤ foldI n m := by unfold foldI; rw [if_neg hm]; exact Int.emod_nonneg n (by omega)
    have hf1 : foldI n m < m := by unfold foldI; rw [if_neg hm]; exact Int.emod_lt_of_pos n (by omega)
    have FC := Lib.hid (fun w => fold_any n m hn0 hn1 hm0 hm1 w)
    have RC := Lib.hid (fun w => rfold_any n m hn0 hn1 hm0 hm1 w)
    generalize foldI n m = k at *
    go_enter Try.func5, Try.ntmps5
    go_wp2_with (first | (go_at_call 17; refine (FC.out _).mono ?_; rintro e w' ⟨rfl, rfl⟩) | (go_at_call 18; refine (RC.out _).mono ?_; rintro e w' ⟨rfl, rfl⟩) | (go_at_call 15; refine (name_any _ (by assumption) (by assumption) _).mono ?_; rintro e w' ⟨rfl, gx, rfl⟩) | (go_at_call 16; refine (rname_any _ (by assumption) (by assumption) _).mono ?_; rintro e w' ⟨rfl, gx, rfl⟩) | (go_at_call 14; refine (wakes18 _).mono ?_; rintro e w' ⟨rfl, gx, rfl⟩))
    go_ret
    exact ⟨rfl, by repeat (first | with_reducible exact HG.out | with_reducible exact Grew.refl _ | with_reducible assumption | with_reducible apply Grew.plus | with_reducible apply Grew.drewN | with_reducible apply Grew.drew | with_reducible apply Grew.alloc | with_reducible refine Grew.setCell ?_ (by simp [go_sem]; try omega) _)⟩

def kindsV : Array Value := #[.int .i64 0, .int .i64 1, .int .i64 2, .int .i64 3, .int .i64 4, .int .i64 5, .int .i64 6, .int .i64 7, .int .i64 8, .int .i64 9, .int .i64 10, .int .i64 11, .int .i64 12, .int .i64 13]
theorem kinds_get (n : Nat) (h : n < 14) : kindsV[n]? = some (.int .i64 n) := by
  have hn : n = 0 ∨ n = 1 ∨ n = 2 ∨ n = 3 ∨ n = 4 ∨ n = 5 ∨ n = 6 ∨ n = 7 ∨ n = 8 ∨ n = 9 ∨ n = 10 ∨ n = 11 ∨ n = 12 ∨ n = 13 := by omega
  rcases hn with rfl | rfl | rfl | rfl | rfl | rfl | rfl | rfl | rfl | rfl | rfl | rfl | rfl | rfl <;> rfl
theorem name_14 : nameB 14 = ⟨#[]⟩ := rfl
theorem name_neg : nameB (-1) = ⟨#[]⟩ := rfl

set_option maxRecDepth 100000 in
set_option maxHeartbeats 1000000 in
theorem scriptNames_walk (w : World) : Calls Try.prog 4 #[] w fun e w' => e = .returned (.bool true) ∧ Grew w w' := by
  go_enter Try.func4, Try.ntmps4
  go_wp2_with fail
  go_loopw [2] (fun i wr => ∃ k : Nat, k ≤ 14 ∧ i = .int .i64 k ∧ Grew w wr ∧ wr.heap[w.heap.size]? = some (.cells kindsV 32 (0, 0))) (fun i _ => 14 - (intOf i).toNat)
  case atStart => exact ⟨0, by omega, rfl, (Grew.refl w).alloc _, heap_alloc_at _ _ _ rfl⟩
  case round =>
    obtain ⟨k, hk, rfl, hg, hT⟩ := hrel
    have HG := Lib.hid hg
    have HT := Lib.hid hT
    clear hg hT
    by_cases hlt : k < 14
    · have hc := (World.own_cell HT.out k _ (kinds_get k hlt)).1
      go_wp2_with (first | (go_at_call 15; refine (name_any k (by omega) (by omega) _).mono ?_; rintro e w' ⟨rfl, gx, rfl⟩) | (go_at_call 16; refine (rname_any k (by omega) (by omega) _).mono ?_; rintro e w' ⟨rfl, gx, rfl⟩))
      go_roundw
      case measure => simp [intOf]; omega
      case rel => exact ⟨k + 1, by omega, by go_num, by repeat (first | with_reducible exact HG.out | with_reducible exact Grew.refl _ | with_reducible assumption | with_reducible apply Grew.plus | with_reducible apply Grew.drewN | with_reducible apply Grew.drew | with_reducible apply Grew.alloc | with_reducible refine Grew.setCell ?_ (by simp [go_sem]; try omega) _), tb_plus (tb_plus HT.out)⟩
    · obtain rfl : k = 14 := by omega
      go_wp2_with fail
      refine (name_any 14 (by decide) (by decide) _).mono ?_
      rw [name_14]
      rintro e w' ⟨rfl, gx, rfl⟩
      go_wp2_with fail
      refine (name_any (-1) (by decide) (by decide) _).mono ?_
      rw [name_neg]
      rintro e w' ⟨rfl, gx, rfl⟩
      go_wp2_with (go_at_call 14; refine (wakes18 _).mono ?_; rintro e w' ⟨rfl, gx, rfl⟩)
      go_ret
      exact ⟨rfl, by repeat (first | with_reducible exact HG.out | with_reducible exact Grew.refl _ | with_reducible assumption | with_reducible apply Grew.plus | with_reducible apply Grew.drewN | with_reducible apply Grew.drew | with_reducible apply Grew.alloc | with_reducible refine Grew.setCell ?_ (by simp [go_sem]; try omega) _)⟩

set_option maxRecDepth 100000 in
set_option maxHeartbeats 1000000 in
theorem scriptRead_walk (a : Option Addr) (l : List UInt8) (cap : Nat) (w : World) (ha : CellsIn w a (bv l)) (hcap : l.length ≤ cap) (hm : cap ≤ 9223372036854775807) (hnil : a = none → cap = 0) :
    Calls Try.prog 3 #[.slice a l.length cap] w fun e w' => e = .returned (.bool true) ∧ Grew w w' := by
  have hl2 : (l.take 2000).length ≤ 2000 := by simp; omega
  have hcap2 : (l.take 2000).length ≤ cap := by simp; omega
  have hin2 : CellsIn w a (bv (l.take 2000)) := by rw [bv_take]; exact ha.take 2000
  have CL := Lib.hid (clip_any a cap l w hcap hm)
  generalize l.take 2000 = r at *
  have Hin := Lib.hid hin2
  have Hnil := Lib.hid hnil
  clear hin2 hnil ha
  go_enter Try.func3, Try.ntmps3
  go_wp2_with fail
  refine CL.out.mono ?_
  rintro e w' ⟨rfl, rfl⟩
  go_wp2_with fail
  refine (lend_any a cap r _ Hin.out hcap2 hm Hnil.out (by omega)).mono ?_
  rintro e w1 ⟨g, c, rfl, hown1, hg1⟩
  have HO1 := Lib.hid hown1
  have HG1 := Lib.hid hg1
  have hcc1 := hown1.caps
  clear hown1 hg1
  go_wp2_with fail
  have hin1 : CellsIn w1 (some ⟨g, 0, none⟩) (bv r) := by
    have := HO1.out.cin
    rw [bv_append] at this
    have h2 := this.take (bv r).length
    rwa [List.take_left] at h2
  have Hin1 := Lib.hid hin1
  clear hin1
  refine (read_any (some ⟨g, 0, none⟩) c r _ Hin1.out (by omega) (by omega) (by omega)).mono ?_
  rintro e w2 ⟨v, rfl, hg2, hown2⟩
  obtain ⟨va, vc, rfl, hv1, hv2, hvin, _, _⟩ := hown2.rd
  have HO2 := Lib.hid hown2
  have HG2 := Lib.hid (HG1.out.trans hg2)
  have HO12 := Lib.hid (HO1.out.grew hg2)
  have hs12 := hg2.size
  clear hown2 hg2 hvin
  go_wp2_with fail
  refine (intact_any g c w.heap.size a cap r w2 w HO12.out (Hin.out.grew HG2.out) (by omega) HG2.out (Nat.le_refl _)).mono ?_
  rintro e w3 ⟨rfl, hg3, hs3, hk3⟩
  have hlt1 := (HO1.out.lt g rfl).2
  have HO3 : Hid (w3.ownsRow w1.heap.size 29 5 (.slice va (Scr.readL r).length vc) (Scr.readL r).length (stepCells (Scr.readL r))) := HO2.out.keep (fun k hk => hk3 k (fun e => by have := (HO2.out.lt k hk).1; omega))
  have HG3 := Lib.hid hg3
  have hs1 := HG1.out.size
  clear hg3 hk3
  go_wp2_with fail
  refine (rread_any a cap r w3 (Hin.out.grew HG3.out) hcap2 hm (by omega)).mono ?_
  rintro e w4 ⟨v, rfl, hg4, hown4⟩
  obtain ⟨ra, rc, rfl, hr1, hr2, hrin, _, _⟩ := hown4.rd
  have HG4 := Lib.hid (HG3.out.trans hg4)
  have HO4 := Lib.hid (HO3.out.grew hg4)
  have hs4 := hg4.size
  clear hown4 hg4
  go_wp2_with fail
  refine (steps_eq va ra vc rc (Scr.readL r) w4 HO4.out.cin hrin hv1 hr1 hv2 hr2).mono ?_
  rintro e w' ⟨rfl, gx, rfl⟩
  have HG := Lib.hid (HG4.out.plus gx)
  have HO := Lib.hid (HO4.out.grew ⟨gx, rfl⟩)
  have hs5 : w1.heap.size ≤ (w4.plus gx).heap.size := by rw [World.size_plus]; omega
  clear hrin
  generalize w4.plus gx = w5 at *
  have HX : ∃ xs, xs.length = (Scr.readL r).length * 5 ∧ Hid (w5.ownsRow w1.heap.size 29 5 (.slice va (Scr.readL r).length vc) (Scr.readL r).length xs) := ⟨_, flat_length _ 5 len_cells _, HO.out⟩
  clear HO HO1 HO2 HO12 HO3 HO4 HG1 HG2 HG3 HG4
  generalize hn : (Scr.readL r).length = n at *
  have HN := Lib.hid hn
  clear hn
  go_wp2_with fail
  go_loopw [5] (fun i wr => ∃ (k : Nat) (xs : List Value), k ≤ n ∧ i = .int .i64 k ∧ xs.length = n * 5 ∧ wr.ownsRow w1.heap.size 29 5 (.slice va n vc) n xs ∧ Grew w wr) (fun i _ => n - (intOf i).toNat)
  case atStart =>
    obtain ⟨xs, h1, h2⟩ := HX
    exact ⟨0, xs, by omega, rfl, h1, h2.out, HG.out⟩
  case round =>
    obtain ⟨k, xs, hk, rfl, hxl, ho, hg⟩ := hrel
    clear HX HG
    have HO := Lib.hid ho
    have HG := Lib.hid hg
    have HXL := Lib.hid hxl
    clear ho hg hxl
    by_cases hlt : k < n
    · obtain ⟨gg, cc, he, hgb, hgl⟩ := HO.out.form (by omega)
      cases he
      have hc : ∀ j, j < 5 → ∃ u, wr.cell? ⟨gg, k * 5 + j, none⟩ = some u := fun j hj => by
        have := HO.out.cellAt (k * 5 + j) (by omega)
        rw [List.getElem?_eq_getElem (by rw [HXL.out]; omega)] at this
        exact ⟨_, this⟩
      obtain ⟨c0, hc0⟩ := hc 0 (by omega)
      obtain ⟨c1, hc1⟩ := hc 1 (by omega)
      obtain ⟨c2, hc2⟩ := hc 2 (by omega)
      obtain ⟨c3, hc3⟩ := hc 3 (by omega)
      obtain ⟨c4, hc4⟩ := hc 4 (by omega)
      have hf := HO.out.frozenAt (k * 5)
      have hf1 := HO.out.frozenAt (k * 5 + 1)
      have hf2 := HO.out.frozenAt (k * 5 + 2)
      have hf3 := HO.out.frozenAt (k * 5 + 3)
      have hf4 := HO.out.frozenAt (k * 5 + 4)
      rw [Nat.add_zero] at hc0
      clear hc
      go_wp2_with fail
      have HO5 := Lib.hid (((((HO.out.stored (k * 5) (.int .i64 (-1))).1.stored (k * 5 + 1) (.int .i64 0)).1.stored (k * 5 + 2) (.int .i64 0)).1.stored (k * 5 + 3) (.int .i64 0)).1.stored (k * 5 + 4) (.string ⟨#[]⟩)).1
      go_roundw
      case measure => simp [intOf]; omega
      case rel => exact ⟨k + 1, _, by omega, by go_num, by simp only [List.length_set]; exact HXL.out, HO5.out, ((((HG.out.setCell (by simp; omega) _).setCell (by simp; omega) _).setCell (by simp; omega) _).setCell (by simp; omega) _).setCell (by simp; omega) _⟩
    · obtain rfl : k = n := by omega
      go_wp2_with fail
      refine (read_any a cap r wr (Hin.out.grew HG.out) hcap2 hm (by omega)).mono ?_
      rintro e w6 ⟨v, rfl, hg6, hown6⟩
      rw [HN.out] at hown6
      obtain ⟨pa, pc, rfl, hp1, hp2, hpin, _, _⟩ := hown6.rd
      have HG6 := Lib.hid (HG.out.trans hg6)
      have HP6 := Lib.hid hpin
      clear hown6 hg6 hpin
      go_wp2_with fail
      refine (rread_any a cap r w6 (Hin.out.grew HG6.out) hcap2 hm (by omega)).mono ?_
      rintro e w7 ⟨v, rfl, hg7, hown7⟩
      rw [HN.out] at hown7
      obtain ⟨qa, qc, rfl, hq1, hq2, hqin, _, _⟩ := hown7.rd
      have HG7 := Lib.hid (HG6.out.trans hg7)
      have HP7 := Lib.hid (HP6.out.grew hg7)
      have CS := Lib.hid (steps_eq pa qa pc qc (Scr.readL r) w7 HP7.out hqin (by rw [HN.out]; exact hp1) (by rw [HN.out]; exact hq1) hp2 hq2)
      rw [HN.out] at CS
      clear hown7 hg7 hqin
      go_wp2_with fail
      refine CS.out.mono ?_
      rintro e w' ⟨rfl, gx, rfl⟩
      go_wp2_with (go_at_call 14; refine (wakes18 _).mono ?_; rintro e w' ⟨rfl, gy, rfl⟩)
      go_ret
      exact ⟨rfl, (HG7.out.plus gx).plus gy⟩
end Go.Proofs.Ytkdjejokhbdokaa
