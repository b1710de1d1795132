/- Walk of the law ScriptJoins. -/
import Derived.Test.YtkdjejokhbdokaaScrCut
namespace Go.Proofs.Ytkdjejokhbdokaa
open Go.RowKit
set_option linter.unusedSimpArgs false
set_option linter.unusedVariables false

theorem step_one (xs : List StepD) : ∀ u ∈ stepCells xs, u.oneCell' = true := by
  intro u hu
  simp only [stepCells, List.mem_flatMap] at hu
  obtain ⟨s, _, hs⟩ := hu
  simp only [Scr.cells, List.mem_cons, List.not_mem_nil, or_false] at hs
  rcases hs with rfl | rfl | rfl | rfl | rfl <;> rfl
theorem step_append (a b : List StepD) : stepCells (a ++ b) = stepCells a ++ stepCells b := by simp [stepCells]

set_option maxRecDepth 100000 in
set_option maxHeartbeats 1000000 in
theorem scriptJoins_walk (a b : Option Addr) (xs ys : List StepD) (ca cb : Nat) (w : World) (ha : CellsIn w a (stepCells xs)) (hca : xs.length ≤ ca) (hma : ca ≤ 9223372036854775807) (hta : ∀ s ∈ xs, s.text.size ≤ 9223372036854775807)
    (hb : CellsIn w b (stepCells ys)) (hcb : ys.length ≤ cb) (hmb : cb ≤ 9223372036854775807) (htb : ∀ s ∈ ys, s.text.size ≤ 9223372036854775807) :
    Calls Try.prog 7 #[.slice a xs.length ca, .slice b ys.length cb] w fun e w' => e = .returned (.bool true) ∧ Grew w w' := by
  have CA := Lib.hid (cut_any a ca xs w ha hca hma hta)
  have CB := Lib.hid (fun w' (hg : Grew w w') => cut_any b cb ys w' (hb.grew hg) hcb hmb htb)
  have hxl2 := cutL_len xs
  have hyl2 := cutL_len ys
  have hxs := Lib.hid (cutL_size xs)
  have hys := Lib.hid (cutL_size ys)
  clear ha hb hta htb
  generalize cutL xs = xl at *
  generalize cutL ys = yl at *
  go_enter Try.func7, Try.ntmps7
  go_wp2_with fail
  refine CA.out.mono ?_
  rintro e w1 ⟨v, rfl, hg1, ho1⟩
  obtain ⟨la, lc, rfl, hl1, hl2, _, _, hln⟩ := ho1.rd
  have HAN := Lib.hid hln
  have HO1 := Lib.hid ho1
  have HG1 := Lib.hid hg1
  clear ho1 hg1 CA hln
  go_wp2_with fail
  refine (CB.out w1 HG1.out).mono ?_
  rintro e w2 ⟨v, rfl, hg2, ho2⟩
  obtain ⟨ma, mc, rfl, hm1, hm2, _, _, hmn⟩ := ho2.rd
  have HBN := Lib.hid hmn
  have HO2 := Lib.hid (ho2.low HG1.out.size)
  have HO12 := Lib.hid (HO1.out.grew hg2)
  have HG2 := Lib.hid (HG1.out.trans hg2)
  clear ho2 hg2 CB hmn HO1
  go_wp2_with fail
  refine (write_any la lc xl w2 HO12.out.cin hl1 hl2 (by omega) (fun s hs => by have := hxs.out s hs; omega)).mono ?_
  rintro e w3 ⟨v, rfl, hg3, ho3⟩
  obtain ⟨pa, pc, rfl, hp1, hp2, _, _, _⟩ := ho3.rd
  have HX3 := Lib.hid (ho3.low HG2.out.size)
  have HA3 := Lib.hid (HO12.out.grew hg3)
  have HB3 := Lib.hid (HO2.out.grew hg3)
  have HG3 := Lib.hid (HG2.out.trans hg3)
  clear ho3 hg3 HO12 HO2 HG2
  go_wp2_with fail
  refine (write_any ma mc yl w3 HB3.out.cin hm1 hm2 (by omega) (fun s hs => by have := hys.out s hs; omega)).mono ?_
  rintro e W4 ⟨v, rfl, hg4, ho4⟩
  obtain ⟨qa, qc, rfl, hq1, hq2, _, _, _⟩ := ho4.rd
  have HY4 := Lib.hid (ho4.low HG3.out.size)
  have HX4 := Lib.hid (HX3.out.grew hg4)
  have HA4 := Lib.hid (HA3.out.grew hg4)
  have HB4 := Lib.hid (HB3.out.grew hg4)
  have HG4 := Lib.hid (HG3.out.trans hg4)
  have hs4 : w.heap.size ≤ W4.heap.size := HG4.out.size
  clear ho4 hg4 HX3 HA3 HB3 HG3 HG1
  go_wp2_with (first | (at_builtin; go_loud (refine wpList_apps (by rfl) (.tmp 17) (.tmp 18) 24 (by rfl) elStep W4.heap.size _ 0 [] (by rfl) (World.ownsRow_lit (size := 5) W4 #[] 0 (Nat.le_refl _) (by decide) rfl) la xl.length lc (stepCells xl) (by rfl) (HA4.out.cin.grew ((Grew.refl W4).alloc _)) (flat_length _ 5 len_cells _) (step_one _) HAN.out (by omega) (by unfold maxLen; omega) w (HG4.out.alloc _) hs4 (by first | omega | (simp [go_sem] <;> omega)) ?_); intro ar cp w5 hg5 ho5 hk5 hz5; simp only [Nat.zero_add, List.nil_append] at ho5; have HO5 := Lib.hid ho5; have HG5 := Lib.hid hg5; have HK5 : Hid (∀ q, q < W4.heap.size → w5.heap[q]? = W4.heap[q]?) := fun q hq => (by rw [hk5 q (by simp <;> omega) (fun e => (by simp only [Value.ownBlock, Option.some.injEq] at e; omega)), heap_alloc_past _ _ _ hq]); have hs5 : W4.heap.size ≤ w5.heap.size := Nat.le_trans (by simp) hz5; clear ho5 hg5 hk5 hz5) | (at_builtin; go_loud (refine wpList_apps (by rfl) (.tmp 19) (.tmp 20) 24 (by rfl) elStep W4.heap.size _ xl.length (stepCells xl) (by rfl) HO5.out ma yl.length mc (stepCells yl) (by rfl) ((HB4.out.keep (fun q hq => HK5.out q (HB4.out.lt q hq).2)).cin) (flat_length _ 5 len_cells _) (step_one _) HBN.out (by omega) (by unfold maxLen; omega) w HG5.out hs4 (by first | omega | (simp [go_sem] <;> omega)) ?_); intro ar2 cp2 w6 hg6 ho6 hk6 hz6; have HO6 := Lib.hid ho6; have HG6 := Lib.hid hg6; have HK6 : Hid (∀ q, q < W4.heap.size → w6.heap[q]? = W4.heap[q]?) := fun q hq => (by rw [hk6 q (by omega) (fun e => (by have := (HO5.out.lt q e.symm).1; omega)), HK5.out q hq]); clear ho6 hg6 hk6 hz6))
  have hcc6 := HO6.out.caps
  have WR := write_any ar2 cp2 (xl ++ yl) w6 (by rw [step_append]; exact HO6.out.cin) (by rw [List.length_append]; exact hcc6.1) hcc6.2 (by rw [List.length_append]; omega) (fun s hs => (List.mem_append.1 hs).elim (fun h => by have := hxs.out s h; omega) (fun h => by have := hys.out s h; omega))
  rw [List.length_append] at WR
  refine WR.mono ?_
  rintro e w7 ⟨v, rfl, hg7, ho7⟩
  obtain ⟨za, zc, rfl, hz1, hz2, _, _, _⟩ := ho7.rd
  have HZ7 := Lib.hid (ho7.low HG6.out.size)
  have HX7 := Lib.hid ((HX4.out.keep (fun q hq => HK6.out q (HX4.out.lt q hq).2)).grew hg7)
  have HY7 := Lib.hid ((HY4.out.keep (fun q hq => HK6.out q (HY4.out.lt q hq).2)).grew hg7)
  have HG7 := Lib.hid (HG6.out.trans hg7)
  have hs7 : w.heap.size ≤ w7.heap.size := HG7.out.size
  have hxw := Scr.writeL_len xl
  have hyw := Scr.writeL_len yl
  have hzw := Scr.writeL_len (xl ++ yl)
  rw [List.length_append] at hzw
  have hc1 := conv_bytes (P := Try.prog) (dst := 9) Try.underlying22 Try.underlying5 Try.underlying9 pc HX7.out.cin
  have hc2 := conv_bytes (P := Try.prog) (dst := 9) Try.underlying22 Try.underlying5 Try.underlying9 qc HY7.out.cin
  have hc3 := conv_bytes (P := Try.prog) (dst := 9) Try.underlying22 Try.underlying5 Try.underlying9 zc HZ7.out.cin
  have RX := Lib.hid (fun w' (hg : Grew w7 w') => read_any pa pc (Scr.writeL xl) w' (HX7.out.cin.grew hg) hp1 hp2 (by omega))
  have RY := Lib.hid (fun w' (hg : Grew w7 w') => read_any qa qc (Scr.writeL yl) w' (HY7.out.cin.grew hg) hq1 hq2 (by omega))
  have RZ := Lib.hid (fun w' (hb : ∀ q, q < w7.heap.size → w'.heap[q]? = w7.heap[q]?) => read_any za zc (Scr.writeL (xl ++ yl)) w' (HZ7.out.cin.same hb) hz1 hz2 (by omega))
  have hsx : (⟨(Scr.writeL xl).toArray⟩ : ByteArray).size ≤ 4000 := by show (Scr.writeL xl).toArray.size ≤ _; simp; omega
  have hsy : (⟨(Scr.writeL yl).toArray⟩ : ByteArray).size ≤ 4000 := by show (Scr.writeL yl).toArray.size ≤ _; simp; omega
  have hrx : (Scr.readL (Scr.writeL xl)).length ≤ 200 := by rw [Scr.back]; exact Nat.le_trans (List.length_filter_le _ _) hxl2
  have hry : (Scr.readL (Scr.writeL yl)).length ≤ 200 := by rw [Scr.back]; exact Nat.le_trans (List.length_filter_le _ _) hyl2
  have HJ := Lib.hid (Scr.read_joins xl yl)
  rw [Scr.write_append, str_join] at hc3
  rw [← Scr.write_append] at hc3
  generalize (⟨(Scr.writeL xl).toArray⟩ : ByteArray) = sx at *
  generalize (⟨(Scr.writeL yl).toArray⟩ : ByteArray) = sy at *
  clear ho7 hg7 WR HX4 HY4 HA4 HB4 HO5 HO6 HX7 HY7 HZ7 HG4 HG5 HG6 HK5 HK6
  generalize (Scr.writeL xl).length = nx at *
  generalize (Scr.writeL yl).length = ny at *
  generalize (Scr.writeL (xl ++ yl)).length = nz at *
  generalize Scr.readL (Scr.writeL xl) = rx at *
  generalize Scr.readL (Scr.writeL yl) = ry at *
  go_wp2_with fail
  refine (RX.out _ ((Grew.refl w7).alloc _)).mono ?_
  rintro e w8 ⟨v, rfl, hg8, ho8⟩
  obtain ⟨ra, rc, rfl, hr1, hr2, _, _, hrn⟩ := ho8.rd
  have HRN := Lib.hid hrn
  have HO8 := Lib.hid ho8
  have HG8 := Lib.hid hg8
  have hs8 : w7.heap.size ≤ w8.heap.size := (((Grew.refl w7).alloc _).trans hg8).size
  clear ho8 hg8 hrn RX
  go_wp2_with (at_builtin; go_loud (refine wpList_apps (by rfl) (.tmp 31) (.tmp 33) 24 (by rfl) elStep w7.heap.size _ 0 [] (by rfl) ((World.ownsRow_lit (size := 5) w7 #[] 0 (Nat.le_refl _) (by decide) rfl).grew HG8.out) ra rx.length rc (stepCells rx) (by rfl) HO8.out.cin (flat_length _ 5 len_cells _) (step_one _) HRN.out (by omega) (by unfold maxLen; omega) w7 (((Grew.refl w7).alloc _).trans HG8.out) (Nat.le_refl _) (by first | omega | (simp [go_sem] <;> omega)) ?_); intro ar3 cp3 w9 hg9 ho9 hk9 hz9; simp only [Nat.zero_add, List.nil_append] at ho9; have HO9 := Lib.hid ho9; have HG9 := Lib.hid hg9; have hs9 := hg9.size; clear ho9 hg9 hk9 hz9)
  refine (RY.out w9 HG9.out).mono ?_
  rintro e w10 ⟨v, rfl, hg10, ho10⟩
  obtain ⟨sa, sc, rfl, hs1, hs2, _, _, hsn⟩ := ho10.rd
  have HSN := Lib.hid hsn
  have HO10 := Lib.hid ho10
  have HG10 := Lib.hid hg10
  have hs10 : w7.heap.size ≤ w10.heap.size := Nat.le_trans hs9 hg10.size
  clear ho10 hg10 hsn RY
  go_wp2_with (at_builtin; go_loud (refine wpList_apps (by rfl) (.tmp 34) (.tmp 36) 24 (by rfl) elStep w7.heap.size _ rx.length (stepCells rx) (by rfl) (HO9.out.grew HG10.out) sa ry.length sc (stepCells ry) (by rfl) HO10.out.cin (flat_length _ 5 len_cells _) (step_one _) HSN.out (by omega) (by unfold maxLen; omega) w7 (HG9.out.trans HG10.out) (Nat.le_refl _) (by first | omega | (simp [go_sem] <;> omega)) ?_); intro ar4 cp4 w11 hg11 ho11 hk11 hz11; have HO11 := Lib.hid ho11; have HG11 := Lib.hid hg11; clear ho11 hg11 hk11 hz11)
  refine (RZ.out w11 HG11.out.block).mono ?_
  rw [HJ.out]
  rintro e w12 ⟨v, rfl, hg12, ho12⟩
  obtain ⟨ta, tc, rfl, ht1, ht2, _, _, _⟩ := ho12.rd
  have hcc := HO11.out.caps
  have ST := steps_eq ta ar4 tc cp4 (rx ++ ry) w12 ho12.cin (by rw [step_append]; exact HO11.out.cin.grew hg12) ht1 (by rw [List.length_append]; exact hcc.1) ht2 hcc.2
  rw [List.length_append] at ST ⊢
  have HST := Lib.hid ST
  have HG12 := Lib.hid (HG7.out.trans (HG11.out.trans hg12))
  clear ST ho12 hg12 RZ
  go_wp2_with fail
  refine HST.out.mono ?_
  rintro e w' ⟨rfl, gx, rfl⟩
  go_wp2_with (go_at_call 14; refine (wakes18 _).mono ?_; rintro e w' ⟨rfl, gy, rfl⟩)
  go_ret
  exact ⟨rfl, (HG12.out.plus gx).plus gy⟩
end Go.Proofs.Ytkdjejokhbdokaa
