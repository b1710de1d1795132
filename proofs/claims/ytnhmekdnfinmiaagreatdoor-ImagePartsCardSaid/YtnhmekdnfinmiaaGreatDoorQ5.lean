/- Texts of this proof, merged (printed by wip/pmerge.py out of EyeL, EyeM, EyeN, RdA, RdB, RdC, RdD, RdE, RdF). -/
import Derived.Test.YtnhmekdnfinmiaaGreatDoorQ4
import Derived.Laws.CopyOwn
/- Walks: image's eye: parts (printed by wip/gen_l.py). -/
namespace Go.Proofs.YtnhmekdnfinmiaaGreatDoor
open Go.RowKit Go.Par
set_option linter.unusedSimpArgs false
set_option linter.unusedVariables false
theorem zero_parts : Tryz.zeroCells41 = (pcells [.int .i64 0, .int .i64 0, .int .i64 0, .int .i64 0, .int .i64 0, .int .i64 0, .slice none 0 0, .slice none 0 0, .slice none 0 0] (rz []) [.slice none 0 0, .slice none 0 0, .bool false, .int .i64 0, .int .i64 0, .int .i64 0, .slice none 0 0]) := by kernel_rfl
theorem info_parts : (Tryz.prog.info? 41).map (·.size) = some 160 := by kernel_rfl
def PartsV (W : World) (v : Value) (x : PParts) : Prop := ∃ b ac h d u o, v = .agg (pcells [.int .i64 x.c0, .int .i64 x.c1, .int .i64 x.c2, .int .i64 x.c3, .int .i64 x.self, .int .i64 x.epoch, b, ac, h] (rz x.rounds) [d, u, .bool x.front, .int .i64 x.cursor.ep, .int .i64 x.cursor.rp, .int .i64 x.cursor.nb, o]) ∧ (rz x.rounds).length = 144 ∧ ElsIn W b x.base ∧ ActsIn W ac x.acts ∧ ActsIn W h x.held ∧ HistsAt W d x.done ∧ HistsAt W u x.undone ∧ OutsIn W o x.self x.out
def PPost (S : Nat → Addr) (w w' : World) (R Z Y : Nat) (r : Except Ref (PParts × Nat)) (e : Ending) : Prop := GrewX [R] w w' ∧ match r with
  | .ok (x, _) => ∃ v, e = .returned v ∧ ∀ W', GrewX [Z, Y] w' W' → PartsV W' v x
  | .error r => ∃ v, e = .panicked [{ v := istop (placeOf r) v, recovered := false }] ∧ WhyAt S w' r v
section
variable {S : Nat → Addr} {w0 w w' : World} {R : Nat} {a : Option Addr} {cap : Nat} {l : List UInt8} {p q : Nat}
theorem PPost.panicP {c : List PanicEntry} {K : World → Ending → Prop} {a a' : Act} {w : World} (hd : a.defers = a'.defers) (h : a.defers = [] ∧ K w (.panicked c)) : a'.defers = [] ∧ K w (.panicked c) := ⟨hd.symm.trans h.1, h.2⟩
theorem parts_there {W : World} {B A Z Y q : Nat} {F : World → Prop} {Wb : World} {h : List Value} {zs : List Nat} {t : List Value} (k : EP S w0 R a cap l B A Z Y 41 F Wb W q (pcells h zs t)) (hh : h.length = 9) (hz : zs.length = 144) : W.there A 9 144 := fun j hj => by
  obtain ⟨h1, h2⟩ := k.cell (9 + j) (.int .i64 (zs[j]'(by omega) : Nat)) (by
    simp only [pcells, List.getElem?_toArray]
    rw [List.getElem?_append_right (by omega), List.getElem?_append_left (by simp; omega)]
    simp [hh, hz, hj])
  exact ⟨by rw [h1]; rfl, h2⟩
set_option maxRecDepth 1000000 in
set_option maxHeartbeats 1000000 in
theorem eye_parts (h : RA S w0 R a cap l w p) {Z Y : Nat} (hZ : Z < w.heap.size ∧ Y < w.heap.size) :
    Calls Tryz.prog 26 #[.agg #[pt R]] w fun e w' => PPost S w w' R Z Y (pParts l p) e := by
  have lR := h.lt
  have lR0 := h.hR
  have hab := h.ab
  have hg0 := h.g.size
  have h2 : ∀ o, RA S w0 R a cap l ((w.alloc (.cells #[pt R] 84)).alloc o) p := fun o => h.grew (((Grew.refl w).alloc (.cells #[pt R] 84)).alloc o)
  have a2 : ∀ o, ((w.alloc (.cells #[pt R] 84)).alloc o).heap[w.heap.size]? = some (.cells #[pt R] 84 (0, 0)) := fun o => Grew.heap ((Grew.refl _).alloc o) (heap_alloc_at _ _ _ rfl)
  have c00 : ∀ o, ((w.alloc (.cells #[pt R] 84)).alloc o).cellsAt ⟨w.heap.size, 0, none⟩ 1 = some [pt R] := fun o => World.cellsAt_block (a2 o) 1 rfl
  have hBR : w.heap.size ≠ R := by omega
  have K0 : EP S w0 R a cap l w.heap.size (w.heap.size + 1) Z Y 41 (fun _ => True) w ((w.alloc (.cells #[pt R] 84)).alloc (.cells (pcells [.int .i64 0, .int .i64 0, .int .i64 0, .int .i64 0, .int .i64 0, .int .i64 0, .slice none 0 0, .slice none 0 0, .slice none 0 0] (rz []) [.slice none 0 0, .slice none 0 0, .bool false, .int .i64 0, .int .i64 0, .int .i64 0, .slice none 0 0]) 41)) p (pcells [.int .i64 0, .int .i64 0, .int .i64 0, .int .i64 0, .int .i64 0, .int .i64 0, .slice none 0 0, .slice none 0 0, .slice none 0 0] (rz []) [.slice none 0 0, .slice none 0 0, .bool false, .int .i64 0, .int .i64 0, .int .i64 0, .slice none 0 0]) :=
    ⟨⟨h2 _, GrewX.of_grew (((Grew.refl w).alloc _).alloc _), a2 _, heap_alloc_at _ _ _ (by simp [go_sem]), hBR, by omega, by omega, by omega, by omega, fun x hx => by have := hab x hx; omega, lR⟩, fun _ _ => trivial, hZ⟩
  have HK0 := Lib.hid K0
  have Hab := Lib.hid hab
  have hlen := h.r.len
  clear h hab h2 a2 K0 hZ
  go_enter Tryz.func26, Tryz.ntmps26
  go_wp2_with fail
  rw [zero_parts] at *
  have k0 := HK0.out
  generalize ((w.alloc (.cells #[pt R] 84)).alloc (.cells (pcells [.int .i64 0, .int .i64 0, .int .i64 0, .int .i64 0, .int .i64 0, .int .i64 0, .slice none 0 0, .slice none 0 0, .slice none 0 0] (rz []) [.slice none 0 0, .slice none 0 0, .bool false, .int .i64 0, .int .i64 0, .int .i64 0, .slice none 0 0]) 41)) = U0 at *
  generalize hAA : w.heap.size + 1 = A at *
  generalize hBB : w.heap.size = B at *
  have HAA := Lib.hid (And.intro hAA hBB)
  clear hAA hBB c00 HK0
  have HF : Hid (∀ r v w', pParts l p = .error r → WhyAt S w' r v → GrewX [R] w w' → PPost S w w' R Z Y (pParts l p) (.panicked [{ v := istop (placeOf r) v, recovered := false }])) := Lib.hid fun r v w' h hv hg => ⟨hg, by rw [h]; exact ⟨v, rfl, hv⟩⟩
  have HZ : Hid ((rz []).length = 144) := Lib.hid rfl
  have L0 := Lib.hid (rfl : pParts l p = pParts l p)
  refine k0.byte 66 66 (fun r v w' h hv hg => ?_) (fun x0 q0 V0 h0 k1 => ?_)
  · exact ⟨rfl, HF.out r v w' (L0.out.trans (bind_no h)) hv hg⟩
  have L1 := Lib.hid (L0.out.trans (bind_ok h0))
  have e1 := k1.eye
  have HK1 := Lib.hid k1
  clear h0 k0 L0 k1
  go_wp2_with fail
  have k1 := HK1.out
  clear HK1 e1
  refine k1.number 0 9223372036854775807 (by decide) (by decide) (fun r v w' h hv hg => ?_) (fun x1 q1 V1 h1 kk1 => ?_)
  · exact ⟨rfl, HF.out r v w' (L1.out.trans (bind_no h)) hv hg⟩
  have L2 := Lib.hid (L1.out.trans (bind_ok h1))
  obtain ⟨c1, m1⟩ := kk1.cell 0 (.int .i64 0) (pc_get_head 0 (by simp))
  have e1 := kk1.eyeSet
  have lA1 := kk1.lA
  have K2 := Lib.hid (kk1.set 0 (.int .i64 x1) (cs' := (pcells [.int .i64 x1, .int .i64 0, .int .i64 0, .int .i64 0, .int .i64 0, .int .i64 0, .slice none 0 0, .slice none 0 0, .slice none 0 0] (rz []) [.slice none 0 0, .slice none 0 0, .bool false, .int .i64 0, .int .i64 0, .int .i64 0, .slice none 0 0])) (pc_head 0 (by simp) _))
  clear h1 kk1 k1 L1
  go_wp2_with fail
  clear c1 m1 e1 lA1
  have k2 := K2.out
  clear K2
  generalize V1.setCell ⟨A, 0, none⟩ (.int .i64 x1) = U2 at *
  refine k2.number 0 9223372036854775807 (by decide) (by decide) (fun r v w' h hv hg => ?_) (fun x2 q2 V2 h2 kk2 => ?_)
  · exact ⟨rfl, HF.out r v w' (L2.out.trans (bind_no h)) hv hg⟩
  have L3 := Lib.hid (L2.out.trans (bind_ok h2))
  obtain ⟨c2, m2⟩ := kk2.cell 1 (.int .i64 0) (pc_get_head 1 (by simp))
  have e2 := kk2.eyeSet
  have lA2 := kk2.lA
  have K3 := Lib.hid (kk2.set 1 (.int .i64 x2) (cs' := (pcells [.int .i64 x1, .int .i64 x2, .int .i64 0, .int .i64 0, .int .i64 0, .int .i64 0, .slice none 0 0, .slice none 0 0, .slice none 0 0] (rz []) [.slice none 0 0, .slice none 0 0, .bool false, .int .i64 0, .int .i64 0, .int .i64 0, .slice none 0 0])) (pc_head 1 (by simp) _))
  clear h2 kk2 k2 L2
  go_wp2_with fail
  clear c2 m2 e2 lA2
  have k3 := K3.out
  clear K3
  generalize V2.setCell ⟨A, 1, none⟩ (.int .i64 x2) = U3 at *
  refine k3.number 0 9223372036854775807 (by decide) (by decide) (fun r v w' h hv hg => ?_) (fun x3 q3 V3 h3 kk3 => ?_)
  · exact ⟨rfl, HF.out r v w' (L3.out.trans (bind_no h)) hv hg⟩
  have L4 := Lib.hid (L3.out.trans (bind_ok h3))
  obtain ⟨c3, m3⟩ := kk3.cell 2 (.int .i64 0) (pc_get_head 2 (by simp))
  have e3 := kk3.eyeSet
  have lA3 := kk3.lA
  have K4 := Lib.hid (kk3.set 2 (.int .i64 x3) (cs' := (pcells [.int .i64 x1, .int .i64 x2, .int .i64 x3, .int .i64 0, .int .i64 0, .int .i64 0, .slice none 0 0, .slice none 0 0, .slice none 0 0] (rz []) [.slice none 0 0, .slice none 0 0, .bool false, .int .i64 0, .int .i64 0, .int .i64 0, .slice none 0 0])) (pc_head 2 (by simp) _))
  clear h3 kk3 k3 L3
  go_wp2_with fail
  clear c3 m3 e3 lA3
  have k4 := K4.out
  clear K4
  generalize V3.setCell ⟨A, 2, none⟩ (.int .i64 x3) = U4 at *
  refine k4.number 0 9223372036854775807 (by decide) (by decide) (fun r v w' h hv hg => ?_) (fun x4 q4 V4 h4 kk4 => ?_)
  · exact ⟨rfl, HF.out r v w' (L4.out.trans (bind_no h)) hv hg⟩
  have L5 := Lib.hid (L4.out.trans (bind_ok h4))
  obtain ⟨c4, m4⟩ := kk4.cell 3 (.int .i64 0) (pc_get_head 3 (by simp))
  have e4 := kk4.eyeSet
  have lA4 := kk4.lA
  have K5 := Lib.hid (kk4.set 3 (.int .i64 x4) (cs' := (pcells [.int .i64 x1, .int .i64 x2, .int .i64 x3, .int .i64 x4, .int .i64 0, .int .i64 0, .slice none 0 0, .slice none 0 0, .slice none 0 0] (rz []) [.slice none 0 0, .slice none 0 0, .bool false, .int .i64 0, .int .i64 0, .int .i64 0, .slice none 0 0])) (pc_head 3 (by simp) _))
  clear h4 kk4 k4 L4
  go_wp2_with fail
  clear c4 m4 e4 lA4
  have k5 := K5.out
  clear K5
  generalize V4.setCell ⟨A, 3, none⟩ (.int .i64 x4) = U5 at *
  refine k5.number 0 9223372036854775807 (by decide) (by decide) (fun r v w' h hv hg => ?_) (fun x5 q5 V5 h5 kk5 => ?_)
  · exact ⟨rfl, HF.out r v w' (L5.out.trans (bind_no h)) hv hg⟩
  have L6 := Lib.hid (L5.out.trans (bind_ok h5))
  obtain ⟨c5, m5⟩ := kk5.cell 4 (.int .i64 0) (pc_get_head 4 (by simp))
  have e5 := kk5.eyeSet
  have lA5 := kk5.lA
  have K6 := Lib.hid (kk5.set 4 (.int .i64 x5) (cs' := (pcells [.int .i64 x1, .int .i64 x2, .int .i64 x3, .int .i64 x4, .int .i64 x5, .int .i64 0, .slice none 0 0, .slice none 0 0, .slice none 0 0] (rz []) [.slice none 0 0, .slice none 0 0, .bool false, .int .i64 0, .int .i64 0, .int .i64 0, .slice none 0 0])) (pc_head 4 (by simp) _))
  clear h5 kk5 k5 L5
  go_wp2_with fail
  clear c5 m5 e5 lA5
  have k6 := K6.out
  clear K6
  generalize V5.setCell ⟨A, 4, none⟩ (.int .i64 x5) = U6 at *
  refine k6.number 0 9223372036854775807 (by decide) (by decide) (fun r v w' h hv hg => ?_) (fun x6 q6 V6 h6 kk6 => ?_)
  · exact ⟨rfl, HF.out r v w' (L6.out.trans (bind_no h)) hv hg⟩
  have L7 := Lib.hid (L6.out.trans (bind_ok h6))
  obtain ⟨c6, m6⟩ := kk6.cell 5 (.int .i64 0) (pc_get_head 5 (by simp))
  have e6 := kk6.eyeSet
  have lA6 := kk6.lA
  have K7 := Lib.hid (kk6.set 5 (.int .i64 x6) (cs' := (pcells [.int .i64 x1, .int .i64 x2, .int .i64 x3, .int .i64 x4, .int .i64 x5, .int .i64 x6, .slice none 0 0, .slice none 0 0, .slice none 0 0] (rz []) [.slice none 0 0, .slice none 0 0, .bool false, .int .i64 0, .int .i64 0, .int .i64 0, .slice none 0 0])) (pc_head 5 (by simp) _))
  clear h6 kk6 k6 L6
  go_wp2_with fail
  clear c6 m6 e6 lA6
  have k7 := K7.out
  clear K7
  generalize V6.setCell ⟨A, 5, none⟩ (.int .i64 x6) = U7 at *
  have HFB : Hid (∀ r v w', pBase l q6 = .error r → WhyAt S w' r v → GrewX [R] w w' → PPost S w w' R Z Y (pParts l p) (.panicked [{ v := istop (placeOf r) v, recovered := false }])) := Lib.hid fun r v w' h hv hg => HF.out r v w' (L7.out.trans (bind_no h)) hv hg
  refine k7.count 4 (by omega) (by omega) (fun r v w' h hv hg => ?_) (fun n q7 V7 h7 kk7 => ?_)
  · exact ⟨rfl, HFB.out r v w' (show pBase l q6 = _ from bind_no h) hv hg⟩
  have HB2 := Lib.hid (show pBase l q6 = pLoop (baseB l) n 0 [] q7 from bind_ok h7)
  have hn : n ≤ 2147483647 := by have := pCount_le h7; omega
  have HX := Lib.hid kk7
  clear h7 k7 kk7
  go_wp2_with fail
  refine base_loop x1 x2 x3 x4 x5 x6 _ _ _ _ _ _ _ _ _ _ _ _ _ _ _ _ _ _ _ _ _ _ _ _ _ _ _ _ _ _ _ _ _ _ _ _ _ _ _ _ _ _ _ _ _ _ _ _ _ _ _ _ _ _ _ _ _ _ _ _ _ _ _ _ _ _ _ _ _ _ _ _ _ _ _ _ _ _ _ _ _ _ _ _ _ _ _ _ _ _ _ _ _ _ _ _ _ _ _ _ _ _ _ _ _ _ _ _ _ _ _ _ _ _ HX.out hn (fun c a a' w hd h => PPost.panicP (K := fun w e => PPost S _ w R Z Y (pParts l p) e) hd h) (fun r v w' tm h hv hg => ⟨rfl, HFB.out r v w' (HB2.out.trans h) hv hg⟩) (fun bs q8 V8 vb u3 u35 u36 u37 u38 u39 u40 u41 u42 u43 u44 u45 u46 u47 u48 u49 h8 k8 => ?_)
  obtain ⟨arb, nnb, cpb, rfl⟩ : ∃ ar nn cp, vb = .slice ar nn cp := by obtain ⟨ar, cp, e, -⟩ := k8.now; exact ⟨ar, _, cp, e⟩
  have L8 := Lib.hid (L7.out.trans (bind_ok (HB2.out.trans h8)))
  have e8 := k8.eye
  have HK8 := Lib.hid k8
  clear h8 k8 L7 HB2 HFB HX
  go_wp2_with fail
  have k8 := HK8.out
  clear HK8 e8
  refine k8.acts (fun r v w' h hv hg => ?_) (fun x8 q8 V8 v8 h8 kk8 hone8 => ?_)
  · exact ⟨rfl, HF.out r v w' (L8.out.trans (bind_no h)) hv hg⟩
  have L9 := Lib.hid (L8.out.trans (bind_ok h8))
  obtain ⟨ar8, nn8, cp8, rfl⟩ : ∃ ar nn cp, v8 = .slice ar nn cp := by obtain ⟨ar, cp, e, -⟩ := kk8.now.2; exact ⟨ar, _, cp, e⟩
  obtain ⟨c8, m8⟩ := kk8.cell 7 (.slice none 0 0) (pc_get_head 7 (by simp))
  have e8 := kk8.eyeSet
  have lA8 := kk8.lA
  have K9 := Lib.hid (kk8.set 7 (.slice ar8 nn8 cp8) (cs' := (pcells [.int .i64 x1, .int .i64 x2, .int .i64 x3, .int .i64 x4, .int .i64 x5, .int .i64 x6, .slice arb nnb cpb, .slice ar8 nn8 cp8, .slice none 0 0] (rz []) [.slice none 0 0, .slice none 0 0, .bool false, .int .i64 0, .int .i64 0, .int .i64 0, .slice none 0 0])) (pc_head 7 (by simp) _))
  clear h8 kk8 k8 L8 hone8
  go_wp2_with fail
  clear c8 m8 e8 lA8
  have k9 := K9.out
  clear K9
  generalize V8.setCell ⟨A, 7, none⟩ (.slice ar8 nn8 cp8) = U9 at *
  refine k9.acts (fun r v w' h hv hg => ?_) (fun x9 q9 V9 v9 h9 kk9 hone9 => ?_)
  · exact ⟨rfl, HF.out r v w' (L9.out.trans (bind_no h)) hv hg⟩
  have L10 := Lib.hid (L9.out.trans (bind_ok h9))
  obtain ⟨ar9, nn9, cp9, rfl⟩ : ∃ ar nn cp, v9 = .slice ar nn cp := by obtain ⟨ar, cp, e, -⟩ := kk9.now.2; exact ⟨ar, _, cp, e⟩
  obtain ⟨c9, m9⟩ := kk9.cell 8 (.slice none 0 0) (pc_get_head 8 (by simp))
  have e9 := kk9.eyeSet
  have lA9 := kk9.lA
  have K10 := Lib.hid (kk9.set 8 (.slice ar9 nn9 cp9) (cs' := (pcells [.int .i64 x1, .int .i64 x2, .int .i64 x3, .int .i64 x4, .int .i64 x5, .int .i64 x6, .slice arb nnb cpb, .slice ar8 nn8 cp8, .slice ar9 nn9 cp9] (rz []) [.slice none 0 0, .slice none 0 0, .bool false, .int .i64 0, .int .i64 0, .int .i64 0, .slice none 0 0])) (pc_head 8 (by simp) _))
  clear h9 kk9 k9 L9 hone9
  go_wp2_with fail
  clear c9 m9 e9 lA9
  have k10 := K10.out
  clear K10
  generalize V9.setCell ⟨A, 8, none⟩ (.slice ar9 nn9 cp9) = U10 at *
  have rt10 := parts_there k10 rfl HZ.out
  have HTH := Lib.hid rt10
  clear rt10
  refine k10.rounds (fun r v w' h hv hg => ?_) (fun rs q10 V10 h10 kk10 hz10 => ?_)
  · exact ⟨rfl, HF.out r v w' (L10.out.trans (bind_no h)) hv hg⟩
  have L11 := Lib.hid (L10.out.trans (bind_ok h10))
  have HT10 := Lib.hid (parts_there kk10 rfl HZ.out)
  have e10 := kk10.eye
  have HZR := Lib.hid hz10
  have K11 := Lib.hid (kk10.put (arr (rz rs)).toList 9)
  have HPC := Lib.hid (pc_rounds (h := [.int .i64 x1, .int .i64 x2, .int .i64 x3, .int .i64 x4, .int .i64 x5, .int .i64 x6, .slice arb nnb cpb, .slice ar8 nn8 cp8, .slice ar9 nn9 cp9]) (zs := rz []) (zs' := rz rs) (t := [.slice none 0 0, .slice none 0 0, .bool false, .int .i64 0, .int .i64 0, .int .i64 0, .slice none 0 0]) rfl HZ.out HZR.out)
  have e11 := K11.out.eye
  clear h10 kk10 k10 L10 hz10 HTH
  go_wp2_with (refine wpList_store_mid (by rfl) 33 (.tmp 58) (.tmp 57) (by rfl) A 9 (arr (rz rs)) (by rfl) (by rfl) (by rw [arr_size, HZR.out]; exact HT10.out) (by rw [arr_size, HZR.out]; exact info_rounds) (arr_ones _) ?_)
  have k11 := K11.out
  rw [HPC.out] at k11
  clear K11 HPC HT10 e10 e11
  generalize V10.setCells A 9 (arr (rz rs)).toList = U11 at *
  refine k11.edits (fun r v w' h hv hg => ?_) (fun x11 q11 V11 v11 h11 kk11 hone11 => ?_)
  · exact ⟨rfl, HF.out r v w' (L11.out.trans (bind_no h)) hv hg⟩
  have L12 := Lib.hid (L11.out.trans (bind_ok h11))
  obtain ⟨ar11, nn11, cp11, rfl⟩ : ∃ ar nn cp, v11 = .slice ar nn cp := by obtain ⟨ar, cp, vs, e, -⟩ := kk11.now.2; exact ⟨ar, _, cp, e⟩
  obtain ⟨c11, m11⟩ := kk11.cell 153 (.slice none 0 0) (pc_get_tail rfl HZR.out 0 (by simp))
  have e11 := kk11.eyeSet
  have lA11 := kk11.lA
  have K12 := Lib.hid (kk11.set 153 (.slice ar11 nn11 cp11) (cs' := (pcells [.int .i64 x1, .int .i64 x2, .int .i64 x3, .int .i64 x4, .int .i64 x5, .int .i64 x6, .slice arb nnb cpb, .slice ar8 nn8 cp8, .slice ar9 nn9 cp9] (rz rs) [.slice ar11 nn11 cp11, .slice none 0 0, .bool false, .int .i64 0, .int .i64 0, .int .i64 0, .slice none 0 0])) (pc_tail rfl HZR.out 0 _))
  clear h11 kk11 k11 L11 hone11
  go_wp2_with fail
  clear c11 m11 e11 lA11
  have k12 := K12.out
  clear K12
  generalize V11.setCell ⟨A, 153, none⟩ (.slice ar11 nn11 cp11) = U12 at *
  refine k12.edits (fun r v w' h hv hg => ?_) (fun x12 q12 V12 v12 h12 kk12 hone12 => ?_)
  · exact ⟨rfl, HF.out r v w' (L12.out.trans (bind_no h)) hv hg⟩
  have L13 := Lib.hid (L12.out.trans (bind_ok h12))
  obtain ⟨ar12, nn12, cp12, rfl⟩ : ∃ ar nn cp, v12 = .slice ar nn cp := by obtain ⟨ar, cp, vs, e, -⟩ := kk12.now.2; exact ⟨ar, _, cp, e⟩
  obtain ⟨c12, m12⟩ := kk12.cell 154 (.slice none 0 0) (pc_get_tail rfl HZR.out 1 (by simp))
  have e12 := kk12.eyeSet
  have lA12 := kk12.lA
  have K13 := Lib.hid (kk12.set 154 (.slice ar12 nn12 cp12) (cs' := (pcells [.int .i64 x1, .int .i64 x2, .int .i64 x3, .int .i64 x4, .int .i64 x5, .int .i64 x6, .slice arb nnb cpb, .slice ar8 nn8 cp8, .slice ar9 nn9 cp9] (rz rs) [.slice ar11 nn11 cp11, .slice ar12 nn12 cp12, .bool false, .int .i64 0, .int .i64 0, .int .i64 0, .slice none 0 0])) (pc_tail rfl HZR.out 1 _))
  clear h12 kk12 k12 L12 hone12
  go_wp2_with fail
  clear c12 m12 e12 lA12
  have k13 := K13.out
  clear K13
  generalize V12.setCell ⟨A, 154, none⟩ (.slice ar12 nn12 cp12) = U13 at *
  refine k13.byte 0 1 (fun r v w' h hv hg => ?_) (fun x13 q13 V13 h13 kk13 => ?_)
  · exact ⟨rfl, HF.out r v w' (L13.out.trans (bind_no (show pCursor l _ = _ from bind_no h))) hv hg⟩
  have hx13 := (pByte_le h13)
  have L14 := Lib.hid (show pCursor l _ = _ from bind_ok h13)
  by_cases hf : x13.toNat = 1
  · skip
    have hf2 : (x13.toNat : Int) = 1 := by omega
    obtain ⟨c13, m13⟩ := kk13.cell 155 (.bool false) (pc_get_tail rfl HZR.out 2 (by simp))
    have e13 := kk13.eyeSet
    have lA13 := kk13.lA
    have K14 := Lib.hid (kk13.set 155 (.bool true) (cs' := (pcells [.int .i64 x1, .int .i64 x2, .int .i64 x3, .int .i64 x4, .int .i64 x5, .int .i64 x6, .slice arb nnb cpb, .slice ar8 nn8 cp8, .slice ar9 nn9 cp9] (rz rs) [.slice ar11 nn11 cp11, .slice ar12 nn12 cp12, .bool true, .int .i64 0, .int .i64 0, .int .i64 0, .slice none 0 0])) (pc_tail rfl HZR.out 2 _))
    have c14 := (K14.out.cell 155 (.bool true) (pc_get_tail rfl HZR.out 2 (by simp))).1
    clear h13 kk13 k13
    go_wp2_with fail
    have hc15 := show pCursor l q12 = .ok ((true, zId), q13) from by rw [L14.out, if_pos hf]; rfl
    have L15 := Lib.hid (L13.out.trans (bind_ok hc15))
    have k15 := K14.out
    obtain ⟨q15, hq15⟩ : ∃ q15, q15 = q13 := ⟨_, rfl⟩
    rw [← hq15] at k15 L15
    clear K14 c13 m13 e13 lA13 c14 hc15 hf2 hf hq15 L14 L13
    generalize V13.setCell ⟨A, 155, none⟩ (.bool true) = U15 at *
    refine k15.count 2 (by omega) (by omega) (fun r v w' h hv hg => ?_) (fun n2 q16 V16 h16 kk16 => ?_)
    · exact ⟨rfl, HF.out r v w' (L15.out.trans (bind_no (show pOut l _ = _ from bind_no h))) hv hg⟩
    have HO2 := Lib.hid (show pOut l q15 = pLoop (outB l) n2 0 [] q16 from bind_ok h16)
    have hn2 : n2 ≤ 2147483647 := by have := pCount_le h16; omega
    have HX2 := Lib.hid kk16
    have HFO : Hid (∀ r v w', pOut l q15 = .error r → WhyAt S w' r v → GrewX [R] w w' → PPost S w w' R Z Y (pParts l p) (.panicked [{ v := istop (placeOf r) v, recovered := false }])) := Lib.hid fun r v w' h hv hg => HF.out r v w' (L15.out.trans (bind_no h)) hv hg
    clear h16 k15 kk16
    go_wp2_with fail
    refine out_loop x1 x2 x3 x4 x5 x6 (rz rs) (.slice arb nnb cpb) (.slice ar8 nn8 cp8) (.slice ar9 nn9 cp9) (.slice ar11 nn11 cp11) (.slice ar12 nn12 cp12) (.bool true) (.int .i64 0) (.int .i64 0) (.int .i64 0) _ _ _ _ _ _ _ _ _ _ _ _ _ _ _ _ _ _ _ _ _ _ _ _ _ _ _ _ _ _ _ _ _ _ _ _ _ _ _ _ _ _ _ _ _ _ _ _ _ _ _ _ _ _ _ _ _ _ _ _ _ _ _ _ _ _ _ _ _ _ _ _ _ _ _ _ _ _ _ _ _ _ _ _ _ _ _ _ _ _ _ _ _ _ _ _ _ _ _ _ _ _ _ _ _ _ _ _ _ _ _ _ _ _ HZR HX2.out hn2 (fun c a a' w hd h => PPost.panicP (K := fun w e => PPost S _ w R Z Y (pParts l p) e) hd h) (fun r v w' tm h hv hg => ⟨rfl, HFO.out r v w' (HO2.out.trans h) hv hg⟩) (fun os q17 V17 vo u4 u5 u6 u7 u80 u81 u82 u83 u84 u85 u86 u87 u88 u89 u90 u91 u92 u93 u94 u95 u96 u97 u98 u99 u100 u101 u102 u103 u104 u105 u106 u107 u108 h17 k17 => ?_)
    obtain ⟨aro, nno, cpo, rfl⟩ : ∃ ar nn cp, vo = .slice ar nn cp := by obtain ⟨ar, cp, vs, e, -⟩ := k17.now.2; exact ⟨ar, _, cp, e⟩
    have L17 := Lib.hid (L15.out.trans (bind_ok (HO2.out.trans h17)))
    have eB := (World.own_cell k17.k.e 0 _ rfl).1
    simp only [List.getElem_toArray, List.getElem_cons_zero] at eB
    have HK17 := Lib.hid k17
    clear h17 k17 HFO HO2 L15 HX2 hn2
    go_wp2_with fail
    refine HK17.out.at_ ?_
    go_wp2_with fail
    refine HK17.out.end_ (fun r t z w' h hv hpl hg => ?_) (fun w18 h18 hg18 => ?_)
    · go_wp2_with (go_at_call 60; refine (must_err _ _ _ _).mono ?_; rintro e w' ⟨rfl, rfl⟩)
      rw [← hpl]
      exact ⟨rfl, HF.out r _ _ (L17.out.trans (bind_no h)) hv hg⟩
    have HL18 := Lib.hid (L17.out.trans (bind_ok h18))
    have hA18 := hg18.heap HK17.out.k.o (by simpa using HK17.out.k.aR)
    have HF18 := Lib.hid (fun W' (hW : GrewX [Z, Y] w18 W') => HK17.out.f W' ((hg18.mono (by simp)).trans (hW.mono (by simp))))
    have HG18 := Lib.hid (HK17.out.k.g.trans hg18)
    have hps : (pcells [.int .i64 x1, .int .i64 x2, .int .i64 x3, .int .i64 x4, .int .i64 x5, .int .i64 x6, .slice arb nnb cpb, .slice ar8 nn8 cp8, .slice ar9 nn9 cp9] (rz rs) [.slice ar11 nn11 cp11, .slice ar12 nn12 cp12, .bool true, .int .i64 0, .int .i64 0, .int .i64 0, .slice aro nno cpo]).size = 160 := pc_size rfl HZR.out rfl
    have HRA := Lib.hid (range_all hA18)
    have HTH := Lib.hid (there_all hA18)
    have hself := setCells_self hA18
    have hl2 := run_loadVar_mid (P := Tryz.prog) w18 A 0 41 _ _ HRA.out Tryz.underlying41 rfl (by rw [Array.length_toList, hps]; exact info_parts)
    have HPS := Lib.hid hps
    have HON := Lib.hid (show (pcells [.int .i64 x1, .int .i64 x2, .int .i64 x3, .int .i64 x4, .int .i64 x5, .int .i64 x6, .slice arb nnb cpb, .slice ar8 nn8 cp8, .slice ar9 nn9 cp9] (rz rs) [.slice ar11 nn11 cp11, .slice ar12 nn12 cp12, .bool true, .int .i64 0, .int .i64 0, .int .i64 0, .slice aro nno cpo]).all (·.oneCell') = true by simp [pcells, Value.oneCell'])
    obtain ⟨pcs, hpcs⟩ : ∃ pcs, pcs = (pcells [.int .i64 x1, .int .i64 x2, .int .i64 x3, .int .i64 x4, .int .i64 x5, .int .i64 x6, .slice arb nnb cpb, .slice ar8 nn8 cp8, .slice ar9 nn9 cp9] (rz rs) [.slice ar11 nn11 cp11, .slice ar12 nn12 cp12, .bool true, .int .i64 0, .int .i64 0, .int .i64 0, .slice aro nno cpo]) := ⟨_, rfl⟩
    rw [← hpcs] at HPS HRA HTH hself hl2 HON
    have HPC := Lib.hid hpcs
    clear hA18 hps h18 hg18 HK17 eB L17 hpcs
    go_wp2_with (first
      | (go_at_call 60; refine (must_nil _ _).mono ?_; rintro e w' ⟨rfl, rfl⟩)
      | (refine wpList_load_mid (by rfl) 41 (.tmp 2) (by rfl) A 0 (by rfl) pcs.toList _ HRA.out Tryz.underlying41 rfl (by rw [Array.length_toList, HPS.out]; exact info_parts) ?_)
      | (refine wpList_store_mid (by rfl) 41 (.tmp 2) (.tmp 117) (by rfl) A 0 pcs (by rfl) (by rfl) HTH.out (by rw [HPS.out]; exact info_parts) HON.out ?_; rw [hself]))
    refine bodyPost_ret (v := .agg pcs) (by simp [results, Tryz.results26, Sem.run_bind, Sem.run_pure, asAddr, Act.put, hl2]) rfl ⟨HG18.out, ?_⟩
    rw [HL18.out]
    refine ⟨_, rfl, fun W' hW => ?_⟩
    obtain ⟨⟨⟨⟨⟨fb, fa⟩, fh⟩, fd⟩, fu⟩, fo⟩ := HF18.out W' hW
    exact ⟨_, _, _, _, _, _, (by first | (rw [HPC.out]; done) | (rw [HPC.out]; rfl)), HZR.out, fb, fa, fh, fd, fu, fo⟩
  · skip
    have hf2 : ¬ ((x13.toNat : Int) = 1) := by omega
    have hf3 : ((x13.toNat : Int) == 1) = false := by simpa using hf2
    obtain ⟨c13, m13⟩ := kk13.cell 155 (.bool false) (pc_get_tail rfl HZR.out 2 (by simp))
    have e13 := kk13.eyeSet
    have lA13 := kk13.lA
    have K14 := Lib.hid (kk13.set 155 (.bool false) (cs' := (pcells [.int .i64 x1, .int .i64 x2, .int .i64 x3, .int .i64 x4, .int .i64 x5, .int .i64 x6, .slice arb nnb cpb, .slice ar8 nn8 cp8, .slice ar9 nn9 cp9] (rz rs) [.slice ar11 nn11 cp11, .slice ar12 nn12 cp12, .bool false, .int .i64 0, .int .i64 0, .int .i64 0, .slice none 0 0])) (pc_tail rfl HZR.out 2 _))
    have c14 := (K14.out.cell 155 (.bool false) (pc_get_tail rfl HZR.out 2 (by simp))).1
    clear h13 kk13 k13
    go_wp2_with fail
    have hc14 := L14.out
    simp only [if_neg hf] at hc14
    have L14 := Lib.hid hc14
    have k14 := K14.out
    clear K14 c13 m13 e13 lA13 c14 hc14 hf2 hf hf3
    generalize V13.setCell ⟨A, 155, none⟩ (.bool false) = U14 at *
    refine k14.id (fun r v w' h hv hg => ?_) (fun ci q15 V14 h14 kk14 => ?_)
    · exact ⟨rfl, HF.out r v w' (L13.out.trans (bind_no (L14.out.trans (bind_no h)))) hv hg⟩
    have hc15 := L14.out.trans (bind_ok h14)
    have L15 := Lib.hid (L13.out.trans (bind_ok hc15))
    obtain ⟨i0, i1, i2⟩ := ci
    simp only [idV]
    obtain ⟨ca, ma⟩ := kk14.cell 156 (.int .i64 0) (pc_get_tail rfl HZR.out 3 (by simp))
    obtain ⟨cb, mb⟩ := kk14.cell 157 (.int .i64 0) (pc_get_tail rfl HZR.out 4 (by simp))
    obtain ⟨cc, mc⟩ := kk14.cell 158 (.int .i64 0) (pc_get_tail rfl HZR.out 5 (by simp))
    have lA14 := kk14.lA
    have K15 := Lib.hid (((kk14.set 156 (.int .i64 i0) (cs' := (pcells [.int .i64 x1, .int .i64 x2, .int .i64 x3, .int .i64 x4, .int .i64 x5, .int .i64 x6, .slice arb nnb cpb, .slice ar8 nn8 cp8, .slice ar9 nn9 cp9] (rz rs) [.slice ar11 nn11 cp11, .slice ar12 nn12 cp12, .bool false, .int .i64 i0, .int .i64 0, .int .i64 0, .slice none 0 0])) (pc_tail rfl HZR.out 3 _)).set 157 (.int .i64 i1) (cs' := (pcells [.int .i64 x1, .int .i64 x2, .int .i64 x3, .int .i64 x4, .int .i64 x5, .int .i64 x6, .slice arb nnb cpb, .slice ar8 nn8 cp8, .slice ar9 nn9 cp9] (rz rs) [.slice ar11 nn11 cp11, .slice ar12 nn12 cp12, .bool false, .int .i64 i0, .int .i64 i1, .int .i64 0, .slice none 0 0])) (pc_tail rfl HZR.out 4 _)).set 158 (.int .i64 i2) (cs' := (pcells [.int .i64 x1, .int .i64 x2, .int .i64 x3, .int .i64 x4, .int .i64 x5, .int .i64 x6, .slice arb nnb cpb, .slice ar8 nn8 cp8, .slice ar9 nn9 cp9] (rz rs) [.slice ar11 nn11 cp11, .slice ar12 nn12 cp12, .bool false, .int .i64 i0, .int .i64 i1, .int .i64 i2, .slice none 0 0])) (pc_tail rfl HZR.out 5 _))
    have e15 := K15.out.eye
    clear h14 kk14 k14 L14 L13 hc15
    go_wp2_with fail
    clear ca ma cb mb cc mc lA14 e15
    have k15 := K15.out
    clear K15
    generalize ((V14.setCell ⟨A, 156, none⟩ (.int .i64 i0)).setCell ⟨A, 157, none⟩ (.int .i64 i1)).setCell ⟨A, 158, none⟩ (.int .i64 i2) = U15 at *
    refine k15.count 2 (by omega) (by omega) (fun r v w' h hv hg => ?_) (fun n2 q16 V16 h16 kk16 => ?_)
    · exact ⟨rfl, HF.out r v w' (L15.out.trans (bind_no (show pOut l _ = _ from bind_no h))) hv hg⟩
    have HO2 := Lib.hid (show pOut l q15 = pLoop (outB l) n2 0 [] q16 from bind_ok h16)
    have hn2 : n2 ≤ 2147483647 := by have := pCount_le h16; omega
    have HX2 := Lib.hid kk16
    have HFO : Hid (∀ r v w', pOut l q15 = .error r → WhyAt S w' r v → GrewX [R] w w' → PPost S w w' R Z Y (pParts l p) (.panicked [{ v := istop (placeOf r) v, recovered := false }])) := Lib.hid fun r v w' h hv hg => HF.out r v w' (L15.out.trans (bind_no h)) hv hg
    clear h16 k15 kk16
    go_wp2_with fail
    refine out_loop x1 x2 x3 x4 x5 x6 (rz rs) (.slice arb nnb cpb) (.slice ar8 nn8 cp8) (.slice ar9 nn9 cp9) (.slice ar11 nn11 cp11) (.slice ar12 nn12 cp12) (.bool false) (.int .i64 i0) (.int .i64 i1) (.int .i64 i2) _ _ _ _ _ _ _ _ _ _ _ _ _ _ _ _ _ _ _ _ _ _ _ _ _ _ _ _ _ _ _ _ _ _ _ _ _ _ _ _ _ _ _ _ _ _ _ _ _ _ _ _ _ _ _ _ _ _ _ _ _ _ _ _ _ _ _ _ _ _ _ _ _ _ _ _ _ _ _ _ _ _ _ _ _ _ _ _ _ _ _ _ _ _ _ _ _ _ _ _ _ _ _ _ _ _ _ _ _ _ _ _ _ _ HZR HX2.out hn2 (fun c a a' w hd h => PPost.panicP (K := fun w e => PPost S _ w R Z Y (pParts l p) e) hd h) (fun r v w' tm h hv hg => ⟨rfl, HFO.out r v w' (HO2.out.trans h) hv hg⟩) (fun os q17 V17 vo u4 u5 u6 u7 u80 u81 u82 u83 u84 u85 u86 u87 u88 u89 u90 u91 u92 u93 u94 u95 u96 u97 u98 u99 u100 u101 u102 u103 u104 u105 u106 u107 u108 h17 k17 => ?_)
    obtain ⟨aro, nno, cpo, rfl⟩ : ∃ ar nn cp, vo = .slice ar nn cp := by obtain ⟨ar, cp, vs, e, -⟩ := k17.now.2; exact ⟨ar, _, cp, e⟩
    have L17 := Lib.hid (L15.out.trans (bind_ok (HO2.out.trans h17)))
    have eB := (World.own_cell k17.k.e 0 _ rfl).1
    simp only [List.getElem_toArray, List.getElem_cons_zero] at eB
    have HK17 := Lib.hid k17
    clear h17 k17 HFO HO2 L15 HX2 hn2
    go_wp2_with fail
    refine HK17.out.at_ ?_
    go_wp2_with fail
    refine HK17.out.end_ (fun r t z w' h hv hpl hg => ?_) (fun w18 h18 hg18 => ?_)
    · go_wp2_with (go_at_call 60; refine (must_err _ _ _ _).mono ?_; rintro e w' ⟨rfl, rfl⟩)
      rw [← hpl]
      exact ⟨rfl, HF.out r _ _ (L17.out.trans (bind_no h)) hv hg⟩
    have HL18 := Lib.hid (L17.out.trans (bind_ok h18))
    have hA18 := hg18.heap HK17.out.k.o (by simpa using HK17.out.k.aR)
    have HF18 := Lib.hid (fun W' (hW : GrewX [Z, Y] w18 W') => HK17.out.f W' ((hg18.mono (by simp)).trans (hW.mono (by simp))))
    have HG18 := Lib.hid (HK17.out.k.g.trans hg18)
    have hps : (pcells [.int .i64 x1, .int .i64 x2, .int .i64 x3, .int .i64 x4, .int .i64 x5, .int .i64 x6, .slice arb nnb cpb, .slice ar8 nn8 cp8, .slice ar9 nn9 cp9] (rz rs) [.slice ar11 nn11 cp11, .slice ar12 nn12 cp12, .bool false, .int .i64 i0, .int .i64 i1, .int .i64 i2, .slice aro nno cpo]).size = 160 := pc_size rfl HZR.out rfl
    have HRA := Lib.hid (range_all hA18)
    have HTH := Lib.hid (there_all hA18)
    have hself := setCells_self hA18
    have hl2 := run_loadVar_mid (P := Tryz.prog) w18 A 0 41 _ _ HRA.out Tryz.underlying41 rfl (by rw [Array.length_toList, hps]; exact info_parts)
    have HPS := Lib.hid hps
    have HON := Lib.hid (show (pcells [.int .i64 x1, .int .i64 x2, .int .i64 x3, .int .i64 x4, .int .i64 x5, .int .i64 x6, .slice arb nnb cpb, .slice ar8 nn8 cp8, .slice ar9 nn9 cp9] (rz rs) [.slice ar11 nn11 cp11, .slice ar12 nn12 cp12, .bool false, .int .i64 i0, .int .i64 i1, .int .i64 i2, .slice aro nno cpo]).all (·.oneCell') = true by simp [pcells, Value.oneCell'])
    obtain ⟨pcs, hpcs⟩ : ∃ pcs, pcs = (pcells [.int .i64 x1, .int .i64 x2, .int .i64 x3, .int .i64 x4, .int .i64 x5, .int .i64 x6, .slice arb nnb cpb, .slice ar8 nn8 cp8, .slice ar9 nn9 cp9] (rz rs) [.slice ar11 nn11 cp11, .slice ar12 nn12 cp12, .bool false, .int .i64 i0, .int .i64 i1, .int .i64 i2, .slice aro nno cpo]) := ⟨_, rfl⟩
    rw [← hpcs] at HPS HRA HTH hself hl2 HON
    have HPC := Lib.hid hpcs
    clear hA18 hps h18 hg18 HK17 eB L17 hpcs
    go_wp2_with (first
      | (go_at_call 60; refine (must_nil _ _).mono ?_; rintro e w' ⟨rfl, rfl⟩)
      | (refine wpList_load_mid (by rfl) 41 (.tmp 2) (by rfl) A 0 (by rfl) pcs.toList _ HRA.out Tryz.underlying41 rfl (by rw [Array.length_toList, HPS.out]; exact info_parts) ?_)
      | (refine wpList_store_mid (by rfl) 41 (.tmp 2) (.tmp 117) (by rfl) A 0 pcs (by rfl) (by rfl) HTH.out (by rw [HPS.out]; exact info_parts) HON.out ?_; rw [hself]))
    refine bodyPost_ret (v := .agg pcs) (by simp [results, Tryz.results26, Sem.run_bind, Sem.run_pure, asAddr, Act.put, hl2]) rfl ⟨HG18.out, ?_⟩
    rw [HL18.out]
    refine ⟨_, rfl, fun W' hW => ?_⟩
    obtain ⟨⟨⟨⟨⟨fb, fa⟩, fh⟩, fd⟩, fu⟩, fo⟩ := HF18.out W' hW
    exact ⟨_, _, _, _, _, _, (by first | (rw [HPC.out]; done) | (rw [HPC.out]; rfl)), HZR.out, fb, fa, fh, fd, fu, fo⟩
end
end Go.Proofs.YtnhmekdnfinmiaaGreatDoor
/- Walks: wire's reader is made; image's Parts. -/
namespace Go.Proofs.YtnhmekdnfinmiaaGreatDoor
open Go.RowKit Go.Par
set_option linter.unusedSimpArgs false
set_option linter.unusedVariables false
theorem info_u8 : (Tryz.prog.info? 5).map (fun i => (i.zero, i.size, i.bytes)) = some (some (.int .u8 0), 1, 1) := by kernel_rfl
theorem info_parts8 : ∃ i, Tryz.prog.info? 5 = some i ∧ i.zero = some (.int .u8 0) ∧ i.size = 1 ∧ i.bytes = 1 := by
  have h := info_u8
  cases hi : Tryz.prog.info? 5 with
  | none => rw [hi] at h; cases h
  | some i => rw [hi] at h; simp at h; exact ⟨i, rfl, h⟩
theorem copied_src {w : World} {a : Option Addr} {cs : List Value} (hc : CellsIn w a cs) (hp : 0 < cs.length) : ∃ ad, a = some ad ∧ ∀ (j : Nat) v, cs[j]? = some v → w.cell? (ad.add j) = some v := by
  obtain ⟨b, off, rfl, h⟩ := hc (List.length_pos_iff.1 hp)
  refine ⟨_, rfl, fun j v hv => ?_⟩
  have hj : j < cs.length := (List.getElem?_eq_some_iff.1 hv).1
  rw [Addr.add_lit, World.cellsAt_cell h j hj, hv]
section
variable {S : Nat → Addr} {w0 w w' : World} {R : Nat} {a : Option Addr} {cap : Nat} {l : List UInt8} {p q : Nat}
set_option maxRecDepth 100000 in
set_option maxHeartbeats 1000000 in
theorem wire_copied (hc : CellsIn w a (bv l)) (h4 : l.length ≤ 4000) :
    Calls Tryz.prog 50 #[.slice a l.length cap] w fun e w' => ∃ g, e = .returned (.slice (some ⟨g, 0, none⟩) l.length l.length) ∧ Grew w w' ∧ w.heap.size ≤ g ∧ w'.heap[g]? = some (.cells (bv l).toArray 5 (0, 0)) := by
  have HC := Lib.hid hc
  have hl1 : (0 : Int) ≤ l.length := by omega
  have hl2 : (l.length : Int) ≤ 4000 := by omega
  generalize hn : l.length = n at *
  have HN := Lib.hid hn
  clear hc hn
  obtain ⟨i0, hi, hz0, hz1, hz2⟩ := info_parts8
  have hmk := run_make (P := Tryz.prog) w 22 5 i0 (.int .u8 0) Tryz.underlying22 hi hz0 .i64 .i64 n n (by omega) (by omega) (by rw [hz2]; omega) (by omega)
  clear hi hz0 hz2
  go_enter Tryz.func50, Tryz.ntmps50
  go_wp2_with ((refine wpList_copy_splice (by rfl) (.tmp 7) (.tmp 8) 22 22 (by rfl) 5 Tryz.underlying22 (by kernel_rfl) (some ⟨w.heap.size, 0, none⟩) a n n n cap (by rfl) (by rfl) w.heap.size 0 (madeCells #[.int .u8 0] n).toList 5 (heap_alloc_at _ _ _ rfl) (bv l) (by rw [bv_length, HN.out]; simp) (fun hp => ⟨rfl, copied_src (HC.out.grew (by exact by repeat (first | with_reducible exact HG.out | with_reducible exact Grew.refl _ | with_reducible assumption | with_reducible apply Grew.plus | with_reducible apply Grew.drewN | with_reducible apply Grew.drew | with_reducible apply Grew.alloc | with_reducible refine Grew.setCell ?_ (by simp [go_sem]; try omega) _))) hp⟩) (by simp [bv_length, HN.out, size_madeCells]) (fun v hv => bv_one l v hv) w.heap.size w (Grew.below (by exact by repeat (first | with_reducible exact HG.out | with_reducible exact Grew.refl _ | with_reducible assumption | with_reducible apply Grew.plus | with_reducible apply Grew.drewN | with_reducible apply Grew.drew | with_reducible apply Grew.alloc | with_reducible refine Grew.setCell ?_ (by simp [go_sem]; try omega) _))) (Nat.le_refl _) ?_); intro w2 hg2 hb2; have HB2 := Lib.hid hb2; clear hb2)
  go_ret
  refine ⟨w.heap.size, rfl, Grew.of_parts HB2.out.os HB2.out.tape HB2.out.output HB2.out.size HB2.out.block, Nat.le_refl _, ?_⟩
  rw [hg2.out]
  congr 3
  simp [splice, size_madeCells, bv_length, HN.out]
set_option maxRecDepth 100000 in
theorem new_reader (hc : CellsIn w a (bv l)) (h4 : l.length ≤ 4000) :
    Calls Tryz.prog 25 #[.slice a l.length cap] w fun e w' => ∃ R g, e = .returned (pt R) ∧ Grew w w' ∧ w.heap.size ≤ g ∧ w.heap.size ≤ R ∧ WR w' R (some ⟨g, 0, none⟩) l.length l 0 ∧ g < w'.heap.size := by
  have HC := Lib.hid hc
  have H4 := Lib.hid h4
  generalize hn : l.length = n at *
  have HN := Lib.hid hn
  clear hc hn h4
  go_enter Tryz.func25, Tryz.ntmps25
  go_wp2_with (go_at_call 50; refine (HN.out ▸ wire_copied (cap := cap) HC.out (HN.out.symm ▸ H4.out) : Calls Tryz.prog 50 #[.slice a n cap] w _).mono ?_; rintro e w1 ⟨g, rfl, hg1, hg2, hg3⟩; have HG := Lib.hid (And.intro hg1 (And.intro hg2 hg3)); clear hg1 hg2 hg3)
  obtain ⟨hg1, hg2, hg3⟩ := HG.out
  obtain rfl := HN.out
  have h4 := H4.out
  have lg := (Array.getElem?_eq_some_iff.1 hg3).1
  go_ret
  refine ⟨_, g, rfl, hg1.alloc _, hg2, hg1.size, ⟨heap_alloc_at _ _ _ rfl, ?_, fun q hq => by cases hq; show g ≠ _; omega, ⟨Nat.le_refl _, by omega⟩, h4, Nat.zero_le _⟩, by simp [go_sem]; omega⟩
  intro hx
  refine ⟨g, 0, rfl, World.cellsAt_of rfl (fun i hi => ?_)⟩
  rw [cell_of_row _ g (0 + i) _ _ _ (Grew.heap ((Grew.refl _).alloc _) hg3)]
  simp
theorem as_istop (v : Value) (xT : TypeId) (w : World) : (Instr.typeAssert (.iface 79 v) xT 79 true).run Tryz.prog w = .ok (.tuple #[v, .bool true]) w := by kernel_rfl
attribute [local go_sem] as_istop
def bImage : ByteArray := ⟨#[105, 109, 97, 103, 101]⟩
def bParts : ByteArray := ⟨#[80, 97, 114, 116, 115]⟩
def refErr : Ref → Err
  | .wire c p k => .fault bImage bParts p (.fault bWire c p (.reason k))
  | .form p => .fault bImage bParts p (.reason 6)
theorem parts_idle (x0 x1 : Value) (w : World) :
    CallsD Tryz.prog 23 #[x0, x1] .returning w fun e u' w' => e = .returned (.tuple #[]) ∧ u' = .returning ∧ w' = w := by
  refine callsD_of_wpS Tryz.func23 rfl fun c₀ cs hu => ?_
  apply wpS_seq
  apply wpS_region
  simp [wpOpsS, go_sem, recoverD, hu, Tryz.ntmps23, Exit.thenS, List.replicate_succ, ← List.toArray_replicate]
  refine wpS_of_wp ?_
  go_wp2
  cases c₀
  simp_all [bodyPostS, results, Tryz.results23]
theorem WhyAt.keep {W W' : World} {ks : List Nat} {r : Ref} {v : Value} (h : WhyAt S W r v) (hg : GrewX ks W W') (hk : ∀ k ∈ ks, ∀ c, W.heap[k]? ≠ some (.cells c 124 (0, 0))) : WhyAt S W' r v := by
  cases r with
  | wire c p k =>
    obtain ⟨h1, h2, h3⟩ := h
    refine ⟨h1, h2, ?_⟩
    cases h3 with
    | fault hb he => exact .fault (hg.heap hb fun hm => hk _ hm _ hb) (by cases he with | reason _ a b => exact .reason _ a b)
  | form p => cases (show ErrAt S W (.reason 6) v from h) with | reason _ a b => exact .reason _ a b
def zparts : Array Value := pcells [.int .i64 0, .int .i64 0, .int .i64 0, .int .i64 0, .int .i64 0, .int .i64 0, .slice none 0 0, .slice none 0 0, .slice none 0 0] (rz []) [.slice none 0 0, .slice none 0 0, .bool false, .int .i64 0, .int .i64 0, .int .i64 0, .slice none 0 0]
theorem zparts_is : Tryz.zeroCells41 = zparts := zero_parts
theorem zparts_size : zparts.size = 160 := pc_size rfl rfl rfl
theorem zparts_ones : zparts.all (·.oneCell') = true := by simp [zparts, pcells, Value.oneCell']
set_option maxRecDepth 100000 in
set_option maxHeartbeats 1000000 in
theorem parts_stop {W : World} {b2 b3 : Nat} {r : Ref} {t : TypeId} {z : Value} {older : List PanicEntry} (hv : WhyAt S W r (.iface t z))
    (h2 : W.heap[b2]? = some (.cells zparts 41 (0, 0))) (h3 : W.heap[b3]? = some (.cells #[.nilIface] 49 (0, 0))) (n23 : b2 ≠ b3) :
    CallsD Tryz.prog 23 #[pt b2, pt b3] (.panicking ({ v := istop (placeOf r) (.iface t z), recovered := false } :: older)) W fun e u' w' => e = .returned (.tuple #[]) ∧ u' = .panicking ({ v := istop (placeOf r) (.iface t z), recovered := true } :: older) ∧ w'.heap[b2]? = some (.cells zparts 41 (0, 0)) ∧ ∃ v, w'.heap[b3]? = some (.cells #[v] 49 (0, 0)) ∧ ErrAt S w' (refErr r) v ∧ GrewX [b3] W w' := by
  refine callsD_of_wpS Tryz.func23 rfl fun c₀ cs hu => ?_
  apply wpS_seq
  apply wpS_region
  simp [wpOpsS, go_sem, recoverD, hu, Tryz.ntmps23, Exit.thenS, List.replicate_succ, ← List.toArray_replicate]
  refine wpS_of_wp ?_
  have HV := Lib.hid hv
  have H2 := Lib.hid h2
  have H3 := Lib.hid h3
  have l2 := (Array.getElem?_eq_some_iff.1 h2).1
  have l3 := (Array.getElem?_eq_some_iff.1 h3).1
  generalize hpp : placeOf r = pp at *
  have HPP := Lib.hid hpp
  clear hv h2 h3 hpp
  unfold istop
  have hself : ∀ o, (W.alloc o).setCells b2 0 zparts.toList = W.alloc o := fun o => setCells_self (Grew.heap ((Grew.refl W).alloc o) H2.out)
  have HTH := Lib.hid (fun o => there_all (Grew.heap ((Grew.refl W).alloc o) H2.out))
  obtain ⟨c3, m3⟩ := World.own_cell H3.out 0 _ rfl
  have n23' : b3 ≠ b2 := Ne.symm n23
  go_wp2_with (first
    | (refine wpList_store_mid (by rfl) 41 (.tmp 0) (.tmp 11) (by rfl) b2 0 zparts (by rfl) (by exact congrArg Value.agg zparts_is) (HTH.out _) (by rw [zparts_size]; exact info_parts) zparts_ones ?_; rw [hself])
    | (go_at_call 24; refine (new_any _ _ _ _ _ _).mono ?_; rintro e w' ⟨rfl, rfl⟩))
  have hgx : GrewX [b3] W (((W.setCell ⟨b3, 0, none⟩ (faultV ⟨W.heap.size + 1, 0, none⟩)).alloc (.cells #[.int .i64 pp, .iface t z] 79)).alloc (.cells #[.string bImage, .string bParts, .int .i64 (max (pp : Int) (-1)), .iface t z] 124)) := (((GrewX.refl _ _).set (.inl (by simp)) _).alloc _).alloc _
  have hF : (((W.setCell ⟨b3, 0, none⟩ (faultV ⟨W.heap.size + 1, 0, none⟩)).alloc (.cells #[.int .i64 pp, .iface t z] 79)).alloc (.cells #[.string bImage, .string bParts, .int .i64 (max (pp : Int) (-1)), .iface t z] 124)).heap[W.heap.size + 1]? = some (.cells #[.string bImage, .string bParts, .int .i64 (max (pp : Int) (-1)), .iface t z] 124 (0, 0)) := heap_alloc_at _ _ _ (by simp [go_sem])
  have hw := HV.out.keep hgx (by
    intro k hk c hc
    obtain rfl : k = b3 := by simpa using hk
    rw [H3.out] at hc
    cases hc)
  have hmx : max (pp : Int) (-1) = pp := by omega
  rw [hmx] at hgx hF hw ⊢
  refine ⟨rfl, _, rfl, .tuple #[], by simp [results, Tryz.results23], rfl, rfl, ?_, faultV ⟨W.heap.size + 1, 0, none⟩, ?_, ?_, hgx⟩
  · exact Grew.heap (((Grew.refl _).alloc _).alloc _) (by rw [World.block_setCell _ _ _ _ n23]; exact H2.out)
  · exact Grew.heap (((Grew.refl _).alloc _).alloc _) (World.own_setCell H3.out _)
  · cases r with
    | wire c p k =>
      obtain rfl : p = pp := HPP.out
      exact .fault hF hw.2.2
    | form p =>
      obtain rfl : p = pp := HPP.out
      exact .fault hF hw
end
end Go.Proofs.YtnhmekdnfinmiaaGreatDoor
/- Walks: image's Parts. -/
namespace Go.Proofs.YtnhmekdnfinmiaaGreatDoor
open Go.RowKit Go.Par
set_option linter.unusedSimpArgs false
set_option linter.unusedVariables false
section
variable {S : Nat → Addr} {w0 w w' : World} {R : Nat} {a : Option Addr} {cap : Nat} {l : List UInt8} {p q : Nat}
def IParts (S : Nat → Addr) (w : World) (Y : Nat) (r : Except Ref (PParts × Nat)) (e : Ending) (w' : World) : Prop := Grew w w' ∧ match r with
  | .ok (x, _) => ∃ v, e = .returned (.tuple #[v, .nilIface]) ∧ ∀ W', GrewX [Y] w' W' → PartsV W' v x
  | .error r => ∃ v, e = .returned (.tuple #[.agg zparts, v]) ∧ ErrAt S w' (refErr r) v
theorem setCells_gx {b : Nat} : ∀ (vs : List Value) (W : World) (o : Nat), GrewX [b] W (W.setCells b o vs)
  | [], W, o => GrewX.refl _ _
  | v :: vs, W, o => ((GrewX.refl _ _).set (.inl (by simp)) v).trans (setCells_gx vs _ (o + 1))
theorem setCells_own {b : Nat} {t : TypeId} : ∀ (vs : List Value) (W : World) (o : Nat) (cs : Array Value), W.heap[b]? = some (.cells cs t (0, 0)) → (W.setCells b o vs).heap[b]? = some (.cells (putA cs o vs) t (0, 0))
  | [], W, o, cs, h => h
  | v :: vs, W, o, cs, h => setCells_own vs (W.setCell ⟨b, o, none⟩ v) (o + 1) _ (World.own_setCell h v)
theorem putA_all (cs ds : Array Value) (h : cs.size = ds.size) : putA cs 0 ds.toList = ds := by
  have := putA_mid ds.toList [] cs.toList [] (by simpa using h)
  simpa using this
theorem PartsV.agg {W : World} {v : Value} {x : PParts} (h : PartsV W v x) : ∃ pcs, v = .agg pcs ∧ pcs.size = 160 ∧ pcs.all (·.oneCell') = true := by
  obtain ⟨b, ac, h', d, u, o, rfl, hz, ⟨_, _, rfl, _⟩, ⟨_, _, rfl, _⟩, ⟨_, _, rfl, _⟩, ⟨_, _, _, rfl, _⟩, ⟨_, _, _, rfl, _⟩, ⟨_, _, _, rfl, _⟩⟩ := h
  exact ⟨_, rfl, pc_size rfl hz rfl, by simp [pcells, Value.oneCell']⟩
set_option maxRecDepth 100000 in
theorem parts_results {W : World} {b2 b3 : Nat} {pcs : Array Value} {v x0 x1 x4 x5 x6 x7 x8 : Value} (h2 : W.heap[b2]? = some (.cells pcs 41 (0, 0))) (hp : pcs.size = 160) (h3 : W.cell? ⟨b3, 0, none⟩ = some v) :
    (results Tryz.f7 #[x0, x1, pt b2, pt b3, x4, x5, x6, x7, x8]).run Tryz.prog W = .ok (.tuple #[.agg pcs, v]) W := by
  have hl2 := run_loadVar_mid (P := Tryz.prog) W b2 0 41 pcs.toList _ (range_all h2) Tryz.underlying41 rfl (by rw [Array.length_toList, hp]; exact info_parts)
  have hl3 : (loadVar 49 ⟨b3, 0, none⟩).run Tryz.prog W = .ok v W := by simp [go_sem, h3, loadVar]
  simp [results, Tryz.results7, Sem.run_bind, Sem.run_pure, asAddr, hl2, hl3]
set_option maxRecDepth 100000 in
set_option maxHeartbeats 1000000 in
theorem image_parts (hS : Sents S w) (hc : CellsIn w a (bv l)) (h4 : l.length ≤ 4000) {Y : Nat} (hY : Y < w.heap.size) :
    Calls Tryz.prog 7 #[.slice a l.length cap] w (IParts S w Y (pParts l 0)) := by
  have hmf : ∀ (fn : Fn) (first cap : Array Value) (w : World), (Instr.makeFunc fn first cap).run Tryz.prog w = .ok (.func fn first cap) w := fun _ _ _ _ => rfl
  have HC := Lib.hid hc
  have H4 := Lib.hid h4
  have HS := Lib.hid hS
  generalize hn : l.length = n at *
  have HN := Lib.hid hn
  have NR := Lib.hid (fun W (hW : Grew w W) => (HN.out ▸ new_reader (cap := cap) (HC.out.grew hW) (HN.out.symm ▸ H4.out) : Calls Tryz.prog 25 #[.slice a n cap] W (fun e w' => ∃ R g, e = .returned (pt R) ∧ Grew W w' ∧ W.heap.size ≤ g ∧ W.heap.size ≤ R ∧ WR w' R (some ⟨g, 0, none⟩) l.length l 0 ∧ g < w'.heap.size)))
  clear hc hn h4 hS
  go_enter_defers Tryz.func7, Tryz.ntmps7
  go_wp2_with fail
  rw [zparts_is] at *
  have hb2 : ((w.alloc (.cells zparts 41)).alloc (.cells #[.nilIface] 49)).heap[w.heap.size]? = some (.cells zparts 41 (0, 0)) := Grew.heap ((Grew.refl _).alloc _) (heap_alloc_at _ _ _ rfl)
  have hb3 : ((w.alloc (.cells zparts 41)).alloc (.cells #[.nilIface] 49)).heap[w.heap.size + 1]? = some (.cells #[.nilIface] 49 (0, 0)) := heap_alloc_at _ _ _ (by simp [go_sem])
  have hgw : Grew w ((w.alloc (.cells zparts 41)).alloc (.cells #[.nilIface] 49)) := by repeat (first | with_reducible exact HG.out | with_reducible exact Grew.refl _ | with_reducible assumption | with_reducible apply Grew.plus | with_reducible apply Grew.drewN | with_reducible apply Grew.drew | with_reducible apply Grew.alloc | with_reducible refine Grew.setCell ?_ (by simp [go_sem]; try omega) _)
  have hsz : ((w.alloc (.cells zparts 41)).alloc (.cells #[.nilIface] 49)).heap.size = w.heap.size + 1 + 1 := by simp [go_sem]
  generalize ((w.alloc (.cells zparts 41)).alloc (.cells #[.nilIface] 49)) = W2 at *
  refine (NR.out _ hgw).mono ?_
  rintro e w1 ⟨R, g, rfl, hg1, hgg, hR, hwr, hlg⟩
  have hra : RA S w R (some ⟨g, 0, none⟩) l.length l w1 0 := ⟨HS.out, hgw.trans hg1, hwr, by omega, fun q hq => by cases hq; exact hlg⟩
  have EPT := Lib.hid (fun W (hW : Grew w1 W) => eye_parts (hra.grew hW) (Z := w.heap.size) (Y := Y) (by have := hW.size; have := hg1.size; omega))
  have hb2 := Grew.heap hg1 hb2
  have hb3 := Grew.heap hg1 hb3
  have HG1 := Lib.hid (hgw.trans hg1)
  have hRb : w.heap.size + 1 < R := by omega
  clear hgw hg1 hgg hwr hlg hra NR HC H4 HS hsz
  go_wp2_with fail
  refine (EPT.out _ (Grew.refl _)).mono ?_
  rintro e w2 ⟨hg2, hp⟩
  have hb2 := hg2.heap hb2 (by simp; omega)
  have hb3 := hg2.heap hb3 (by simp; omega)
  have hgw2 : Grew w w2 := hg2.toGrew HG1.out (by simp; omega)
  cases hpp : pParts l 0 with
  | error r =>
    rw [hpp] at hp
    obtain ⟨v, rfl, hv⟩ := hp
    obtain ⟨t, z, rfl⟩ := hv.iface
    have PS := parts_stop (older := []) hv hb2 hb3 (by omega)
    show bodyPostD _ _ _ _ _ _
    refine leaves_cons (f := 23) (args := #[pt w.heap.size, pt (w.heap.size + 1)]) (by simp) (by simp [go_sem]) ?_
    refine PS.mono ?_
    rintro e u' w'' ⟨rfl, rfl, h2, v, h3, he, hg⟩
    have c3 := (World.own_cell h3 0 _ rfl).1
    simp only [List.getElem_toArray, List.getElem_cons_zero] at c3
    exact ⟨_, parts_results h2 zparts_size c3, hg.toGrew hgw2 (by simp), v, rfl, he⟩
  | ok xx =>
    obtain ⟨x, q⟩ := xx
    rw [hpp] at hp
    obtain ⟨v, rfl, hpv⟩ := hp
    obtain ⟨pcs, rfl, hps, hon⟩ := (hpv w2 (GrewX.refl _ _)).agg
    have c3 := (World.own_cell hb3 0 _ rfl)
    simp only [List.getElem_toArray, List.getElem_cons_zero] at c3
    obtain ⟨W3, hW3⟩ : ∃ W3, W3 = w2.setCells w.heap.size 0 pcs.toList := ⟨_, rfl⟩
    have hg3 : GrewX [w.heap.size] w2 W3 := by rw [hW3]; exact setCells_gx _ _ _
    have hb23 : W3.heap[w.heap.size]? = some (.cells pcs 41 (0, 0)) := by
      rw [hW3]
      have := setCells_own pcs.toList w2 0 _ hb2
      rwa [putA_all _ _ (by rw [zparts_size, hps])] at this
    obtain ⟨c33, m33⟩ := World.own_cell (hg3.heap hb3 (by simp)) 0 _ rfl
    have lb3 : w.heap.size + 1 < W3.heap.size := World.block_lt_of_cell? _ _ c33
    have lb32 : w.heap.size + 1 < w2.heap.size := World.block_lt_of_cell? _ _ c3.1
    have HTH := Lib.hid (there_all hb2)
    have hself := World.setCell_self c33
    have HFIN := Lib.hid (And.intro hg3 (And.intro hb23 (And.intro hps (And.intro hon hpv))))
    have HGW := Lib.hid hgw2
    have HW3 := Lib.hid hW3
    have HC3 := Lib.hid c33
    simp only [List.getElem_toArray, List.getElem_cons_zero] at c33
    clear hb2 hb3 hg2 hpv hps hon hg3 hb23 hgw2 hW3 c3
    go_wp2_with (refine wpList_store_mid (by rfl) 41 (.tmp 2) (.tmp 8) (by rfl) w.heap.size 0 pcs (by rfl) (by rfl) (by rw [HFIN.out.2.2.1, ← zparts_size]; exact HTH.out) (by rw [HFIN.out.2.2.1]; exact info_parts) HFIN.out.2.2.2.1 ?_; rw [← HW3.out])
    rw [World.setCell_self c33]
    refine leaves_cons (f := 23) (args := #[pt w.heap.size, pt (w.heap.size + 1)]) (by simp) (by simp [go_sem]) ?_
    refine (parts_idle _ _ _).mono ?_
    rintro e u' w'' ⟨rfl, rfl, rfl⟩
    refine ⟨_, parts_results HFIN.out.2.1 HFIN.out.2.2.1 c33, HFIN.out.1.toGrew HGW.out (by simp), ?_⟩
    first
      | exact ⟨_, rfl, fun W' hW => HFIN.out.2.2.2.2 _ ((HFIN.out.1.mono (by simp)).trans (hW.mono (by simp)))⟩
      | (rw [hpp]; exact ⟨_, rfl, fun W' hW => HFIN.out.2.2.2.2 _ ((HFIN.out.1.mono (by simp)).trans (hW.mono (by simp)))⟩)
end
end Go.Proofs.YtnhmekdnfinmiaaGreatDoor
/- Walks: the document's reader: a number. -/
namespace Go.Proofs.YtnhmekdnfinmiaaGreatDoor
open Go.RowKit Go.Par
set_option linter.unusedSimpArgs false
set_option linter.unusedVariables false
abbrev tD2 : TypeId := 60
abbrev tD9 : TypeId := 64
structure DG (w : World) (D2 D9 : Nat) (a : Option Addr) (cap : Nat) (l : List UInt8) (p : Nat) : Prop where
  c2 : w.heap[D2]? = some (.cells #[.slice a l.length cap, .int .i64 p, .int .i64 0, .slice none 0 0, .slice none 0 0] tD2 (0, 0))
  c9 : w.heap[D9]? = some (.cells #[pt D2, .bool false, .int .i64 0] tD9 (0, 0))
  row : CellsIn w a (bv l)
  ne : ∀ q, a = some q → q.block ≠ D2 ∧ q.block ≠ D9
  cap : l.length ≤ cap ∧ cap ≤ 9223372036854775807
  len : l.length ≤ 4000
  le : p ≤ l.length
  n29 : D2 ≠ D9
  al : ∀ q, a = some q → q.block < w.heap.size
section
variable {w w' : World} {D2 D9 : Nat} {a : Option Addr} {cap : Nat} {l : List UInt8} {p q : Nat}
theorem DG.grewX {ks : List Nat} (h : DG w D2 D9 a cap l p) (hg : GrewX ks w w') (h2 : D2 ∉ ks) (h9 : D9 ∉ ks) (ha : ∀ q, a = some q → q.block ∉ ks) : DG w' D2 D9 a cap l p :=
  ⟨hg.heap h.c2 h2, hg.heap h.c9 h9, hg.cells h.row ha, h.ne, h.cap, h.len, h.le, h.n29, fun q hq => Nat.lt_of_lt_of_le (h.al q hq) hg.size⟩
theorem DG.grew (h : DG w D2 D9 a cap l p) (hg : Grew w w') : DG w' D2 D9 a cap l p := h.grewX (ks := []) (GrewX.of_grew hg) (by simp) (by simp) (by simp)
theorem DG.byte (h : DG w D2 D9 a cap l p) {q : Nat} {b : UInt8} (hb : l[q]? = some b) : ∃ B off, a = some ⟨B, off, none⟩ ∧ w.cell? ⟨B, off + q, none⟩ = some (.int .u8 b.toNat) ∧ B < w.heap.size := by
  have hq : q < l.length := (List.getElem?_eq_some_iff.1 hb).1
  obtain ⟨B, off, rfl, hlt, hc⟩ := h.row.at' (by rw [bv_length]; omega)
  refine ⟨B, off, rfl, ?_, hlt⟩
  rw [hc q (by rw [bv_length]; exact hq), bv_get]
  rw [(List.getElem?_eq_some_iff.1 hb).2]
def numV (r : Except Nat (Nat × Nat)) (p : Nat) : Value := match r with
  | .ok (n, q) => .tuple #[.int .i64 n, .int .i64 ((q - p : Nat) : Int), .int .i64 0]
  | .error c => .tuple #[.int .i64 0, .int .i64 0, .int .i64 c]
set_option maxRecDepth 100000 in
set_option maxHeartbeats 1000000 in
theorem rd_number (h : DG w D2 D9 a cap l p) (m : Int) (hm : 0 ≤ m) (hm2 : m ≤ 9223372036854775807) :
    Calls Tryz.prog 84 #[pt D2, .int .i64 m] w fun e w' => Grew w w' ∧ e = .returned (numV (scan l m 9 0 0 p) p) := by
  have H := Lib.hid h
  have hlen := h.len
  have hle := h.le
  clear h
  go_enter Tryz.func84, Tryz.ntmps84
  go_wp2_with fail
  go_loopw [7, 8, 9] (fun s7 s8 s9 wr => ∃ (k n : Nat), k ≤ 9 ∧ s9 = .int .i64 k ∧ s8 = .int .u64 ((7 * k : Nat) : Int) ∧ s7 = .int .i64 n ∧ n < 2 ^ (7 * k) ∧ scan l m (9 - k) k n (p + k) = scan l m 9 0 0 p ∧ Grew w wr) (fun _ _ s9 _ => 9 - (intOf s9).toNat)
  case atStart => exact ⟨0, 0, by omega, rfl, rfl, rfl, by omega, rfl, Grew.refl _⟩
  case round =>
    obtain ⟨W1, hW1⟩ : ∃ W1, W1 = wr := ⟨_, rfl⟩
    subst hW1
    obtain ⟨k, n, hk, rfl, rfl, rfl, hn, hs, hg⟩ := hrel
    have HR := Lib.hid (H.out.grew hg)
    have HG := Lib.hid hg
    have HSC := Lib.hid hs
    clear hg hs
    obtain ⟨x0, -⟩ := World.own_cell HR.out.c2 0 _ rfl
    obtain ⟨x1, -⟩ := World.own_cell HR.out.c2 1 _ rfl
    have lD2 := World.block_lt_of_cell? W1 _ x0
    by_cases hlt : k < 9
    · cases hb : l[p + k]? with
      | none =>
        have hge : l.length ≤ p + k := by simpa using hb
        have e1 : scan l m (9 - k) k n (p + k) = .error 7 := by
          rw [show 9 - k = (8 - k) + 1 by omega, scan, hb]
        have HE1 := Lib.hid e1
        have hge2 : (l.length : Int) ≤ p + k := by omega
        clear e1
        go_wp2_with fail
        refine wp_region_plus (by kernel_rfl) (by kernel_rfl) ?_
        repeat (go_big_quiet_step ((first | fail)))
        refine wpQuiet_nil ?_
        intro _ hw'
        obtain ⟨nx, rfl⟩ := hw'
        go_wp2_with fail
        go_ret3
        exact ⟨HG.out.plus nx, by rw [← HSC.out, HE1.out]; rfl⟩
      | some b =>
        have hbl : b.toNat < 256 := b.toNat_lt
        have hpk : p + k < l.length := (List.getElem?_eq_some_iff.1 hb).1
        obtain ⟨B, off, rfl, xb, lB⟩ := HR.out.byte hb
        have e1 : scan l m (9 - k) k n (p + k) = if 128 ≤ b.toNat then scan l m (8 - k) (k + 1) (n + b.toNat % 128 * 2 ^ (7 * k)) (p + k + 1) else if b.toNat = 0 ∧ 0 < k then .error 6 else if m < ((n + b.toNat % 128 * 2 ^ (7 * k) : Nat) : Int) then .error 2 else .ok (n + b.toNat % 128 * 2 ^ (7 * k), p + k + 1) := by
          rw [show 9 - k = (8 - k) + 1 by omega, scan, hb]
        have hn2 : n + b.toNat % 128 * 2 ^ (7 * k) < 2 ^ (7 * (k + 1)) := by
          have : b.toNat % 128 * 2 ^ (7 * k) ≤ 127 * 2 ^ (7 * k) := Nat.mul_le_mul_right _ (by omega)
          have e : (2 : Nat) ^ (7 * (k + 1)) = 128 * 2 ^ (7 * k) := by rw [Nat.mul_add, Nat.pow_add]; omega
          omega
        have hz : b.toNat % 128 * 2 ^ (7 * k) < 9223372036854775808 := by
          have := Nat.pow_le_pow_right (n := 2) (by omega) (show 7 * (k + 1) ≤ 63 by omega)
          have e : (2 : Nat) ^ 63 = 9223372036854775808 := by decide
          omega
        have hzw : wrap64 ((b.toNat : Int) % 128 * 2 ^ (7 * k)) = ((b.toNat % 128 * 2 ^ (7 * k) : Nat) : Int) := by
          rw [← wrap64_nat _ hz]; simp
        have HZW := Lib.hid hzw
        clear hzw
        generalize hz2 : b.toNat % 128 * 2 ^ (7 * k) = z at *
        have hn9 : n + z < 9223372036854775808 := by
          have := Nat.pow_le_pow_right (n := 2) (by omega) (show 7 * (k + 1) ≤ 63 by omega)
          have e : (2 : Nat) ^ 63 = 9223372036854775808 := by decide
          omega
        have HE1 := Lib.hid e1
        have HZ2 := Lib.hid hz2
        have HN2 := Lib.hid hn2
        have hlt2 : ¬ (l.length : Int) ≤ p + k := by omega
        clear e1 hz2 hn2 hb
        have hpk2 : (p : Int) + k < l.length := by omega
        have hpk0 : (0 : Int) ≤ (p : Int) + k := by omega
        have hpkn : ((p : Int) + k).toNat = p + k := by omega
        go_wp2_with fail
        refine wp_region_plus (by kernel_rfl) (by kernel_rfl) ?_
        repeat (go_big_quiet_step ((first | fail)))
        refine wpQuiet_nil ?_
        intro _ hw'
        obtain ⟨nx, rfl⟩ := hw'
        go_wp2_with fail
        refine wp_region_plus (by kernel_rfl) (by kernel_rfl) ?_
        repeat (go_big_quiet_step ((first | fail)))
        refine wpQuiet_nil ?_
        intro _ hw'
        obtain ⟨nx, rfl⟩ := hw'
        clear xb x0 x1 hpk2 hpk0 hpkn hlt2
        go_upto_region 10 with (fail)
        rw [HZW.out, show wrap64 ((n : Int) + (z : Nat)) = ((n + z : Nat) : Int) by rw [← wrap64_nat (n + z) hn9]; simp]
        have hn2 := HN2.out
        have e1 := HE1.out
        clear HZW HZ2 HN2 HE1
        generalize n + z = n2 at *
        by_cases h128 : 128 ≤ b.toNat
        · rw [if_pos h128] at e1
          have HE1 := Lib.hid e1
          have h128' : ¬ ((b.toNat : Int) < 128) := by omega
          clear e1
          go_wp2_with fail
          go_roundw
          case rel => exact ⟨k + 1, n2, by omega, by go_num, by simp; omega, rfl, hn2, by rw [← HSC.out, HE1.out, show 9 - (k + 1) = 8 - k by omega, Nat.add_assoc], by repeat (first | with_reducible exact HG.out | with_reducible exact Grew.refl _ | with_reducible assumption | with_reducible apply Grew.plus | with_reducible apply Grew.drewN | with_reducible apply Grew.drew | with_reducible apply Grew.alloc | with_reducible refine Grew.setCell ?_ (by simp [go_sem]; try omega) _)⟩
          case measure => simp [intOf]; omega
        · rw [if_neg h128] at e1
          have h128' : (b.toNat : Int) < 128 := by omega
          by_cases hb0 : b.toNat = 0
          · have hb0' : ((b.toNat : Int) == 0) = true := by simp [hb0]
            by_cases hk0 : 0 < k
            · rw [if_pos ⟨hb0, hk0⟩] at e1
              have HE1 := Lib.hid e1
              have hk0' : (0 : Int) < k := by omega
              clear e1 hb0
              go_wp2_with fail
              go_ret3
              exact ⟨by repeat (first | with_reducible exact HG.out | with_reducible exact Grew.refl _ | with_reducible assumption | with_reducible apply Grew.plus | with_reducible apply Grew.drewN | with_reducible apply Grew.drew | with_reducible apply Grew.alloc | with_reducible refine Grew.setCell ?_ (by simp [go_sem]; try omega) _), by rw [← HSC.out, HE1.out]; rfl⟩
            · rw [if_neg (fun h => hk0 h.2)] at e1
              have hk0' : ¬ (0 : Int) < k := by omega
              clear hb0
              have e2 := e1
              by_cases hr2 : m < (n2 : Int)
              · rw [if_pos hr2] at e2
                have HE1 := Lib.hid e2
                clear e1 e2
                go_wp2_with fail
                go_ret3
                exact ⟨by repeat (first | with_reducible exact HG.out | with_reducible exact Grew.refl _ | with_reducible assumption | with_reducible apply Grew.plus | with_reducible apply Grew.drewN | with_reducible apply Grew.drew | with_reducible apply Grew.alloc | with_reducible refine Grew.setCell ?_ (by simp [go_sem]; try omega) _), by rw [← HSC.out, HE1.out]; rfl⟩
              · rw [if_neg hr2] at e2
                have HE1 := Lib.hid e2
                clear e1 e2
                go_wp2_with fail
                go_ret3
                exact ⟨by repeat (first | with_reducible exact HG.out | with_reducible exact Grew.refl _ | with_reducible assumption | with_reducible apply Grew.plus | with_reducible apply Grew.drewN | with_reducible apply Grew.drew | with_reducible apply Grew.alloc | with_reducible refine Grew.setCell ?_ (by simp [go_sem]; try omega) _), by rw [← HSC.out, HE1.out]; simp only [numV]; rw [show p + k + 1 - p = k + 1 by omega]; rfl⟩
          · rw [if_neg (fun h => hb0 h.1)] at e1
            have hb0' : ((b.toNat : Int) == 0) = false := by simp; omega
            have e2 := e1
            by_cases hr2 : m < (n2 : Int)
            · rw [if_pos hr2] at e2
              have HE1 := Lib.hid e2
              clear e1 e2
              go_wp2_with fail
              go_ret3
              exact ⟨by repeat (first | with_reducible exact HG.out | with_reducible exact Grew.refl _ | with_reducible assumption | with_reducible apply Grew.plus | with_reducible apply Grew.drewN | with_reducible apply Grew.drew | with_reducible apply Grew.alloc | with_reducible refine Grew.setCell ?_ (by simp [go_sem]; try omega) _), by rw [← HSC.out, HE1.out]; rfl⟩
            · rw [if_neg hr2] at e2
              have HE1 := Lib.hid e2
              clear e1 e2
              go_wp2_with fail
              go_ret3
              exact ⟨by repeat (first | with_reducible exact HG.out | with_reducible exact Grew.refl _ | with_reducible assumption | with_reducible apply Grew.plus | with_reducible apply Grew.drewN | with_reducible apply Grew.drew | with_reducible apply Grew.alloc | with_reducible refine Grew.setCell ?_ (by simp [go_sem]; try omega) _), by rw [← HSC.out, HE1.out]; simp only [numV]; rw [show p + k + 1 - p = k + 1 by omega]; rfl⟩
    · have hk9 : k = 9 := by omega
      subst hk9
      go_wp2_with fail
      go_ret3
      exact ⟨HG.out, by rw [← HSC.out, scan]; rfl⟩
end
end Go.Proofs.YtnhmekdnfinmiaaGreatDoor
/- Walks: the document's reader: a refusal. -/
namespace Go.Proofs.YtnhmekdnfinmiaaGreatDoor
open Go.RowKit Go.Par
set_option linter.unusedSimpArgs false
set_option linter.unusedVariables false
inductive DB (w : World) (D2 D9 : Nat) (a : Option Addr) (cap : Nat) (l : List UInt8) (p : Nat) (cb : List Nat) : Ref → Prop
  | wire {c : ByteArray} {k cp : Nat} {ar b : Option Addr} : 1 ≤ k → k ≤ 13 → w.heap[D2]? = some (.cells #[.slice a l.length cap, .int .i64 p, .int .i64 k, .slice ar 1 cp, .slice b 1 1] tD2 (0, 0)) → w.heap[D9]? = some (.cells #[pt D2, .bool false, .int .i64 0] tD9 (0, 0)) →
      CellsIn w ar (linkCells [(bWire, c, p)]) → 1 ≤ cp → cp ≤ 9223372036854775807 → CellsIn w b (nats [k]) → (∀ q, ar = some q → q.block ∈ cb) → (∀ q, b = some q → q.block ∈ cb) → (∀ k ∈ cb, k < w.heap.size) → DB w D2 D9 a cap l p cb (.wire c p k)
  | form {q : Nat} : w.heap[D2]? = some (.cells #[.slice a l.length cap, .int .i64 p, .int .i64 0, .slice none 0 0, .slice none 0 0] tD2 (0, 0)) → w.heap[D9]? = some (.cells #[pt D2, .bool true, .int .i64 q] tD9 (0, 0)) → (∀ k ∈ cb, k < w.heap.size) → DB w D2 D9 a cap l p cb (.form q)
theorem cellsAt_mid {w : World} {b : Nat} {c : Array Value} {t : TypeId} {fr : Nat × Nat} (h : w.heap[b]? = some (.cells c t fr)) (o n : Nat) (ho : o + n ≤ c.size) : w.cellsAt ⟨b, o, none⟩ n = some ((c.toList.drop o).take n) :=
  World.cellsAt_of (by simp; omega) (fun i hi => by
    rw [cell_of_row w b (o + i) _ _ _ h, List.getElem?_take_of_lt hi, List.getElem?_drop]; simp)
theorem own3 {w : World} {R : Nat} {c0 c1 c2 : Value} {t : TypeId} (h : w.heap[R]? = some (.cells #[c0, c1, c2] t (0, 0))) (x y z : Value) :
    (((w.setCell ⟨R, 0, none⟩ x).setCell ⟨R, 1, none⟩ y).setCell ⟨R, 2, none⟩ z).heap[R]? = some (.cells #[x, y, z] t (0, 0)) :=
  World.own_set2 (World.own_set2 (World.own_set2 h 0 x _ rfl) 1 y _ rfl) 2 z _ rfl
theorem gx3 {w : World} (R : Nat) (x y z : Value) : GrewX [R] w (((w.setCell ⟨R, 0, none⟩ x).setCell ⟨R, 1, none⟩ y).setCell ⟨R, 2, none⟩ z) := (((GrewX.refl _ _).set (.inl (by simp)) _).set (.inl (by simp)) _).set (.inl (by simp)) _
section
variable {w w' : World} {D2 D9 : Nat} {a : Option Addr} {cap : Nat} {l : List UInt8} {p q : Nat}
theorem DB.grewX {ks cb : List Nat} {r : Ref} (h : DB w D2 D9 a cap l p cb r) (hg : GrewX ks w w') (h2 : D2 ∉ ks) (h9 : D9 ∉ ks) (hc : ∀ k ∈ cb, k ∉ ks) : DB w' D2 D9 a cap l p cb r := by
  cases h with
  | wire h1 h3 h4 h5 h6 h7 h8 h10 h11 h12 h13 => exact .wire h1 h3 (hg.heap h4 h2) (hg.heap h5 h9) (hg.cells h6 fun q hq => hc _ (h11 q hq)) h7 h8 (hg.cells h10 fun q hq => hc _ (h12 q hq)) h11 h12 (fun k hk => Nat.lt_of_lt_of_le (h13 k hk) hg.size)
  | form h1 h3 h4 => exact .form (hg.heap h1 h2) (hg.heap h3 h9) (fun k hk => Nat.lt_of_lt_of_le (h4 k hk) hg.size)
theorem DB.grew {cb : List Nat} {r : Ref} (h : DB w D2 D9 a cap l p cb r) (hg : Grew w w') : DB w' D2 D9 a cap l p cb r := h.grewX (ks := []) (GrewX.of_grew hg) (by simp) (by simp) (by simp)
theorem DB.lt {cb : List Nat} {r : Ref} (h : DB w D2 D9 a cap l p cb r) : ∀ k ∈ cb, k < w.heap.size := by
  cases h with
  | wire h1 h3 h4 h5 h6 h7 h8 h10 h11 h12 h13 => exact h13
  | form h1 h3 h4 => exact h4
set_option maxRecDepth 100000 in
set_option maxHeartbeats 1000000 in
theorem rd_no (h : DG w D2 D9 a cap l p) (call : ByteArray) (k : Nat) (h0 : 1 ≤ k) (h1 : k ≤ 13) :
    Calls Tryz.prog 83 #[pt D2, .string call, .int .i64 k] w fun e w' => ∃ ar cp b cb, e = .returned (noV k ar 1 cp b 1 1) ∧ GrewX [D2] w w' ∧ (∀ k ∈ cb, w.heap.size < k) ∧ DB w' D2 D9 a cap l p cb (.wire call p k) := by
  have H := Lib.hid h
  have SA := Lib.hid (fun W => say_any bWire call p k h0 W)
  obtain ⟨x1, -⟩ := World.own_cell h.c2 1 _ rfl
  have lD2 := World.block_lt_of_cell? w _ x1
  clear h
  go_enter Tryz.func83, Tryz.ntmps83
  go_wp2_with fail
  refine (SA.out _).mono ?_
  rintro e w1 ⟨ar, cp, b, rfl, hin, hn1, hm1, hinb, har, hbr, hg1⟩
  have hd := H.out.grew (((Grew.refl w).alloc _).trans hg1)
  obtain ⟨y2, m2⟩ := World.own_cell hd.c2 2 _ rfl
  obtain ⟨y3, m3⟩ := World.own_cell hd.c2 3 _ rfl
  obtain ⟨y4, m4⟩ := World.own_cell hd.c2 4 _ rfl
  have hr := Grew.heap hg1 (heap_alloc_new w _)
  obtain ⟨z0, n0⟩ := World.own_cell hr 0 _ rfl
  obtain ⟨z1, n1⟩ := World.own_cell hr 1 _ rfl
  obtain ⟨z2, n2⟩ := World.own_cell hr 2 _ rfl
  have lD21 : D2 < w1.heap.size := World.block_lt_of_cell? _ _ y2
  have lR1 : w.heap.size < w1.heap.size := World.block_lt_of_cell? _ _ z0
  have hne : w.heap.size ≠ D2 := by omega
  have hD3 : (((w1.setCell ⟨D2, 2, none⟩ (.int .i64 k)).setCell ⟨D2, 3, none⟩ (.slice ar 1 cp)).setCell ⟨D2, 4, none⟩ (.slice b 1 1)).heap[D2]? = some (.cells #[.slice a l.length cap, .int .i64 p, .int .i64 k, .slice ar 1 cp, .slice b 1 1] tD2 (0, 0)) := World.own_set2 (World.own_set2 (World.own_set2 hd.c2 2 (.int .i64 k) _ rfl) 3 (.slice ar 1 cp) _ rfl) 4 (.slice b 1 1) _ rfl
  have hca := cellsAt_mid hD3 2 3 (by simp)
  simp only [List.drop_succ_cons, List.drop_zero, List.take_succ_cons, List.take_zero] at hca
  have HIN := Lib.hid (And.intro hin (And.intro hn1 (And.intro hm1 (And.intro hinb (And.intro har (And.intro hbr hg1))))))
  have HD := Lib.hid hd
  have HD3 := Lib.hid hD3
  have HR := Lib.hid hr
  unfold noV
  clear hin hn1 hm1 hinb har hbr hg1 hd hr hD3
  go_wp2_with fail
  obtain ⟨hin, hn1, hm1, hinb, har, hbr, hg1⟩ := HIN.out
  have lD9 : D9 < w.heap.size := (Array.getElem?_eq_some_iff.1 H.out.c9).1
  obtain ⟨W4, hW4⟩ : ∃ W4, W4 = (((w1.setCell ⟨D2, 2, none⟩ (.int .i64 k)).setCell ⟨D2, 3, none⟩ (.slice ar 1 cp)).setCell ⟨D2, 4, none⟩ (.slice b 1 1)) := ⟨_, rfl⟩
  have hg4 : GrewX [D2, w.heap.size] w1 W4 := by rw [hW4]; exact (((GrewX.refl _ _).set (.inl (by simp)) _).set (.inl (by simp)) _).set (.inl (by simp)) _
  have hr4 := hg4.block w.heap.size lR1
  have hR4 : W4.heap[w.heap.size]? = some (.cells #[.int .i64 0, .slice none 0 0, .slice none 0 0] 45 (0, 0)) := by
    rw [hW4, World.block_setCell _ _ _ _ hne, World.block_setCell _ _ _ _ hne, World.block_setCell _ _ _ _ hne]; exact HR.out
  have hD4 := HD3.out
  rw [← hW4] at hD4 ⊢
  obtain ⟨W5, hW5⟩ : ∃ W5, W5 = ((W4.setCell ⟨w.heap.size, 0, none⟩ (.int .i64 k)).setCell ⟨w.heap.size, 1, none⟩ (.slice ar 1 cp)).setCell ⟨w.heap.size, 2, none⟩ (.slice b 1 1) := ⟨_, rfl⟩
  have hg5 : GrewX [D2, w.heap.size] w1 W5 := by rw [hW5]; exact ((hg4.set (.inl (by simp)) _).set (.inl (by simp)) _).set (.inl (by simp)) _
  have hR5 : W5.heap[w.heap.size]? = some (.cells #[.int .i64 k, .slice ar 1 cp, .slice b 1 1] 45 (0, 0)) := by
    rw [hW5]; exact World.own_set2 (World.own_set2 (World.own_set2 hR4 0 (.int .i64 k) _ rfl) 1 (.slice ar 1 cp) _ rfl) 2 (.slice b 1 1) _ rfl
  have hD5 : W5.heap[D2]? = some (.cells #[.slice a l.length cap, .int .i64 p, .int .i64 k, .slice ar 1 cp, .slice b 1 1] tD2 (0, 0)) := by
    rw [hW5, World.block_setCell _ _ _ _ (Ne.symm hne), World.block_setCell _ _ _ _ (Ne.symm hne), World.block_setCell _ _ _ _ (Ne.symm hne)]; exact hD4
  rw [← hW5]
  have hg15 : GrewX [D2] w W5 := ((GrewX.of_grew (ks := [D2, w.heap.size]) (((Grew.refl w).alloc _).trans hg1)).trans hg5).fresh (fun k hk => by
    rcases (by simpa using hk : k = D2 ∨ k = w.heap.size) with rfl | rfl
    · exact .inl (by simp)
    · exact .inr (Nat.le_refl _))
  obtain ⟨f0, -⟩ := World.own_cell hR5 0 _ rfl
  obtain ⟨f1, -⟩ := World.own_cell hR5 1 _ rfl
  obtain ⟨f2, -⟩ := World.own_cell hR5 2 _ rfl
  refine bodyPost_ret (v := noV k ar 1 cp b 1 1) (by simp [results, Tryz.results83, go_sem, f0, f1, f2, noV]) rfl ⟨ar, cp, b, (ar.toList ++ b.toList).map (·.block), rfl, hg15, ?_, ?_⟩
  · intro k hk
    rw [alloc_size1] at har hbr
    obtain ⟨q, hq, rfl⟩ := List.mem_map.1 hk
    rcases List.mem_append.1 hq with h | h
    · have := har q (Option.mem_toList.1 h); omega
    · have := hbr q (Option.mem_toList.1 h); omega
  rw [show max (p : Int) (-1) = p by omega] at hin
  rw [alloc_size1] at har hbr
  have c1 := hg5.cells hin (fun q hq => by have := har q hq; simp; omega)
  have c2 := hg5.cells hinb (fun q hq => by have := hbr q hq; simp; omega)
  refine .wire h0 h1 hD5 (hg15.heap H.out.c9 (by simpa using Ne.symm H.out.n29)) c1 hn1 hm1 c2 (fun q hq => by simp [hq]) (fun q hq => by simp [hq]) (fun k hk => ?_)
  obtain ⟨q, hq, rfl⟩ := List.mem_map.1 hk
  rcases List.mem_append.1 hq with h | h
  · obtain ⟨B, off, e, h3⟩ := c1 (by simp [linkCells, linkRow])
    cases (Option.mem_toList.1 h).symm.trans e
    exact World.cellsAt_lt h3 (by simp [linkCells, linkRow])
  · obtain ⟨B, off, e, h3⟩ := c2 (by simp [nats])
    cases (Option.mem_toList.1 h).symm.trans e
    exact World.cellsAt_lt h3 (by simp [nats])
end
end Go.Proofs.YtnhmekdnfinmiaaGreatDoor
/- Walks: the document's reader of wire: Number. -/
namespace Go.Proofs.YtnhmekdnfinmiaaGreatDoor
open Go.RowKit Go.Par
set_option linter.unusedSimpArgs false
set_option linter.unusedVariables false
def IsNo (v : Value) : Prop := ∃ k a1 n1 c1 a2 n2 c2, v = noV k a1 n1 c1 a2 n2 c2
def RPost {α : Type} (w : World) (D2 D9 : Nat) (a : Option Addr) (cap : Nat) (l : List UInt8) (p : Nat) (enc : α → Value) (zero : Value) (r : Except Ref (α × Nat)) (e : Ending) (w' : World) : Prop := GrewX [D2] w w' ∧ match r with
  | .ok (x, q) => ∃ v, e = .returned (.tuple #[enc x, v]) ∧ IsNo v ∧ DG w' D2 D9 a cap l q
  | .error r => ∃ v cb, e = .returned (.tuple #[zero, v]) ∧ IsNo v ∧ (∀ k ∈ cb, w.heap.size ≤ k) ∧ DB w' D2 D9 a cap l p cb r
theorem scan_le (l : List UInt8) (m : Int) : ∀ f k n p n' q, scan l m f k n p = .ok (n', q) → p ≤ q ∧ q ≤ l.length
  | 0, k, n, p, n', q, h => by rw [scan] at h; cases h
  | f + 1, k, n, p, n', q, h => by
    rw [scan] at h
    split at h
    · cases h
    · rename_i b hb
      have hp : p < l.length := (List.getElem?_eq_some_iff.1 hb).1
      simp only at h
      split at h
      · have := scan_le l m f _ _ _ _ _ h; omega
      · split at h
        · cases h
        · split at h
          · cases h
          · cases h; omega
section
variable {w w' : World} {D2 D9 : Nat} {a : Option Addr} {cap : Nat} {l : List UInt8} {p q : Nat}
theorem DG.set (h : DG w D2 D9 a cap l p) (q : Nat) (hq : q ≤ l.length) : DG (w.setCell ⟨D2, 1, none⟩ (.int .i64 q)) D2 D9 a cap l q :=
  ⟨World.own_set2 h.c2 1 _ _ rfl, by rw [World.block_setCell _ _ _ _ (Ne.symm h.n29)]; exact h.c9, ((GrewX.refl [D2] w).set (.inl (by simp)) _).cells h.row (fun q hq => by simpa using (h.ne q hq).1), h.ne, h.cap, h.len, hq, h.n29, fun q hq => by rw [World.setCell_size]; exact h.al q hq⟩
set_option maxRecDepth 100000 in
set_option maxHeartbeats 1000000 in
theorem r2_number (h : DG w D2 D9 a cap l p) (m : Int) (hm : 0 ≤ m) (hm2 : m ≤ 9223372036854775807) :
    Calls Tryz.prog 44 #[pt D2, .int .i64 m] w (RPost w D2 D9 a cap l p encN (.int .i64 0) (wNumber l m p)) := by
  have H := Lib.hid h
  obtain ⟨x1, -⟩ := World.own_cell h.c2 1 _ rfl
  obtain ⟨x2, -⟩ := World.own_cell h.c2 2 _ rfl
  have lD2 := World.block_lt_of_cell? w _ x1
  have RN := Lib.hid (fun W (hW : Grew w W) => rd_number (h.grew hW) m hm hm2)
  clear h
  unfold wNumber
  cases hsc : scan l m 9 0 0 p with
  | error c =>
    rw [hsc] at RN
    have hcc := scan_code _ _ _ _ _ _ _ hsc
    have hc1 : 1 ≤ c := by omega
    have hc0 : ¬ ((c : Int) = 0) := by omega
    clear hsc
    go_enter Tryz.func44, Tryz.ntmps44
    go_wp2_with fail
    refine (RN.out _ (by exact by repeat (first | with_reducible exact HG.out | with_reducible exact Grew.refl _ | with_reducible assumption | with_reducible apply Grew.plus | with_reducible apply Grew.drewN | with_reducible apply Grew.drew | with_reducible apply Grew.alloc | with_reducible refine Grew.setCell ?_ (by simp [go_sem]; try omega) _))).mono ?_
    rintro e w1 ⟨hg1, rfl⟩
    have hgw : Grew w w1 := Grew.trans (by exact by repeat (first | with_reducible exact HG.out | with_reducible exact Grew.refl _ | with_reducible assumption | with_reducible apply Grew.plus | with_reducible apply Grew.drewN | with_reducible apply Grew.drew | with_reducible apply Grew.alloc | with_reducible refine Grew.setCell ?_ (by simp [go_sem]; try omega) _)) hg1
    have hr := Grew.heap hg1 (heap_alloc_new w _)
    have NO := Lib.hid (rd_no (H.out.grew hgw) bNumber c hc1 (by omega))
    have hne : w.heap.size ≠ D2 := by omega
    have HR := Lib.hid hr
    have HG := Lib.hid hgw
    clear hg1 hr hgw
    unfold numV
    go_wp2_with fail
    refine NO.out.mono ?_
    rintro e w2 ⟨ar, cp, b, cb, rfl, hg2, hcb, hdb⟩
    have hr2 := hg2.heap HR.out (by simpa using hne)
    obtain ⟨z0, n0⟩ := World.own_cell hr2 0 _ rfl
    obtain ⟨z1, n1⟩ := World.own_cell hr2 1 _ rfl
    obtain ⟨z2, n2⟩ := World.own_cell hr2 2 _ rfl
    have lR2 : w.heap.size < w2.heap.size := World.block_lt_of_cell? _ _ z0
    have HX := Lib.hid (And.intro hg2 (And.intro hdb (And.intro hr2 hcb)))
    unfold noV
    clear hg2 hdb hr2 hcb
    go_wp2_with fail
    obtain ⟨hg2, hdb, hr2, hcb⟩ := HX.out
    have h3 := own3 hr2 (.int .i64 c) (.slice ar 1 cp) (.slice b 1 1)
    have g3 := gx3 (w := w2) w.heap.size (.int .i64 c) (.slice ar 1 cp) (.slice b 1 1)
    obtain ⟨f0, -⟩ := World.own_cell h3 0 _ rfl
    obtain ⟨f1, -⟩ := World.own_cell h3 1 _ rfl
    obtain ⟨f2, -⟩ := World.own_cell h3 2 _ rfl
    have lD9 : D9 < w.heap.size := (Array.getElem?_eq_some_iff.1 H.out.c9).1
    have lR1 := (Array.getElem?_eq_some_iff.1 HR.out).1
    refine bodyPost_ret (v := .tuple #[.int .i64 0, noV c ar 1 cp b 1 1]) (by simp [results, Tryz.results44, go_sem, f0, f1, f2, noV]) rfl ⟨?_, _, cb, rfl, ⟨_, _, _, _, _, _, _, rfl⟩, fun k hk => by have := hcb k hk; omega, hdb.grewX g3 (by simp; omega) (by simp; omega) (fun k hk => by have := hcb k hk; simp; omega)⟩
    exact (((GrewX.of_grew (ks := [D2, w.heap.size]) HG.out).trans (hg2.mono (by simp))).trans (g3.mono (by simp))).fresh (fun k hk => by
      rcases (by simpa using hk : k = D2 ∨ k = w.heap.size) with rfl | rfl
      · exact .inl (by simp)
      · exact .inr (Nat.le_refl _))
  | ok x =>
    obtain ⟨n, q⟩ := x
    rw [hsc] at RN
    have hpq := scan_le _ _ _ _ _ _ _ _ hsc
    have hlen := H.out.len
    have hq1 : IntKind.i64.wrap ((p : Int) + ((q - p : Nat) : Int)) = (q : Int) := by rw [IntKind.wrap_i64]; omega
    clear hsc
    go_enter Tryz.func44, Tryz.ntmps44
    go_wp2_with fail
    refine (RN.out _ (by exact by repeat (first | with_reducible exact HG.out | with_reducible exact Grew.refl _ | with_reducible assumption | with_reducible apply Grew.plus | with_reducible apply Grew.drewN | with_reducible apply Grew.drew | with_reducible apply Grew.alloc | with_reducible refine Grew.setCell ?_ (by simp [go_sem]; try omega) _))).mono ?_
    rintro e w1 ⟨hg1, rfl⟩
    have hgw : Grew w w1 := Grew.trans (by exact by repeat (first | with_reducible exact HG.out | with_reducible exact Grew.refl _ | with_reducible assumption | with_reducible apply Grew.plus | with_reducible apply Grew.drewN | with_reducible apply Grew.drew | with_reducible apply Grew.alloc | with_reducible refine Grew.setCell ?_ (by simp [go_sem]; try omega) _)) hg1
    have hr := Grew.heap hg1 (heap_alloc_new w _)
    have hne : w.heap.size ≠ D2 := by omega
    have hd := H.out.grew hgw
    obtain ⟨y1, m1⟩ := World.own_cell hd.c2 1 _ rfl
    obtain ⟨z0, n0⟩ := World.own_cell hr 0 _ rfl
    obtain ⟨z1, n1⟩ := World.own_cell hr 1 _ rfl
    obtain ⟨z2, n2⟩ := World.own_cell hr 2 _ rfl
    have lR1 : w.heap.size < w1.heap.size := World.block_lt_of_cell? _ _ z0
    have lD21 : D2 < w1.heap.size := World.block_lt_of_cell? _ _ y1
    have HR := Lib.hid hr
    have HG := Lib.hid hgw
    have HD := Lib.hid hd
    clear hg1 hr hgw hd
    unfold numV
    simp only
    generalize hkk : ((q - p : Nat) : Int) = kk at *
    have hk0 : (p : Int) + kk = q := by omega
    have hk1 : 0 ≤ kk := by omega
    have hk2 : kk ≤ 4000 := by omega
    clear hkk hq1
    go_wp2_with fail
    have hD2 := HD.out.set q hpq.2
    have hr2 : (w1.setCell ⟨D2, 1, none⟩ (.int .i64 q)).heap[w.heap.size]? = some (.cells #[.int .i64 0, .slice none 0 0, .slice none 0 0] 45 (0, 0)) := by rw [World.block_setCell _ _ _ _ hne]; exact HR.out
    have hg2 : GrewX [D2] w1 (w1.setCell ⟨D2, 1, none⟩ (.int .i64 q)) := (GrewX.refl _ _).set (.inl (by simp)) _
    generalize w1.setCell ⟨D2, 1, none⟩ (.int .i64 q) = w2 at *
    have h3 := own3 hr2 (.int .i64 0) (.slice none 0 0) (.slice none 0 0)
    have g3 := gx3 (w := w2) w.heap.size (.int .i64 0) (.slice none 0 0) (.slice none 0 0)
    obtain ⟨f0, -⟩ := World.own_cell h3 0 _ rfl
    obtain ⟨f1, -⟩ := World.own_cell h3 1 _ rfl
    obtain ⟨f2, -⟩ := World.own_cell h3 2 _ rfl
    have lD9 : D9 < w.heap.size := (Array.getElem?_eq_some_iff.1 H.out.c9).1
    refine bodyPost_ret (v := .tuple #[.int .i64 n, noV 0 none 0 0 none 0 0]) (by simp [results, Tryz.results44, go_sem, f0, f1, f2, noV]) rfl ⟨?_, _, rfl, ⟨_, _, _, _, _, _, _, rfl⟩, hD2.grewX g3 (by simp; omega) (by simp; omega) (fun q hq => by have := H.out.al q hq; simp; omega)⟩
    exact (((GrewX.of_grew (ks := [D2, w.heap.size]) HG.out).trans (hg2.mono (by simp))).trans (g3.mono (by simp))).fresh (fun k hk => by
      rcases (by simpa using hk : k = D2 ∨ k = w.heap.size) with rfl | rfl
      · exact .inl (by simp)
      · exact .inr (Nat.le_refl _))
end
end Go.Proofs.YtnhmekdnfinmiaaGreatDoor
/- Walks: the document's reader of wire: Count, Byte (printed by wip/gen_r2.py). -/
namespace Go.Proofs.YtnhmekdnfinmiaaGreatDoor
open Go.RowKit Go.Par
set_option linter.unusedSimpArgs false
set_option linter.unusedVariables false
section
variable {w w' : World} {D2 D9 : Nat} {a : Option Addr} {cap : Nat} {l : List UInt8} {p q : Nat}
set_option maxRecDepth 100000 in
set_option maxHeartbeats 2000000 in
theorem r2_count (h : DG w D2 D9 a cap l p) (least : Nat) (h1 : 1 ≤ least) (h4 : least ≤ 4) :
    Calls Tryz.prog 43 #[pt D2, .int .i64 least, .int .i64 2147483647] w (RPost w D2 D9 a cap l p encN (.int .i64 0) (wCount l least 2147483647 p)) := by
  have H := Lib.hid h
  obtain ⟨x0, -⟩ := World.own_cell h.c2 0 _ rfl
  obtain ⟨x1, -⟩ := World.own_cell h.c2 1 _ rfl
  obtain ⟨x2, -⟩ := World.own_cell h.c2 2 _ rfl
  have lD2 : D2 < w.heap.size := World.block_lt_of_cell? w _ x1
  have hne : w.heap.size ≠ D2 := by omega
  have hlen := h.len
  have RN := Lib.hid (fun W (hW : Grew w W) => rd_number (h.grew hW) 2147483647 (by decide) (by decide))
  have hl1 : ¬ ((least : Int) < 1) := by omega
  clear h
  unfold wCount
  cases hsc : scan l 2147483647 9 0 0 p with
  | error c =>
    rw [hsc] at RN
    have hcc := scan_code _ _ _ _ _ _ _ hsc
    have hc0 : ¬ ((c : Int) = 0) := by omega
    have hc0' : ((c : Int) == 0) = false := by simpa using hc0
    clear hsc
    go_enter Tryz.func43, Tryz.ntmps43
    go_wp2_with fail
    refine (RN.out _ (by exact by repeat (first | with_reducible exact HG.out | with_reducible exact Grew.refl _ | with_reducible assumption | with_reducible apply Grew.plus | with_reducible apply Grew.drewN | with_reducible apply Grew.drew | with_reducible apply Grew.alloc | with_reducible refine Grew.setCell ?_ (by simp [go_sem]; try omega) _))).mono ?_
    rintro e w1 ⟨hg1, rfl⟩
    have hgw : Grew w w1 := Grew.trans (by exact by repeat (first | with_reducible exact HG.out | with_reducible exact Grew.refl _ | with_reducible assumption | with_reducible apply Grew.plus | with_reducible apply Grew.drewN | with_reducible apply Grew.drew | with_reducible apply Grew.alloc | with_reducible refine Grew.setCell ?_ (by simp [go_sem]; try omega) _)) hg1
    have hr := Grew.heap hg1 (heap_alloc_new w _)
    have HR := Lib.hid hr
    have HG := Lib.hid hgw
    obtain ⟨y0, -⟩ := World.own_cell (H.out.grew hgw).c2 0 _ rfl
    obtain ⟨y1, m1⟩ := World.own_cell (H.out.grew hgw).c2 1 _ rfl
    obtain ⟨z0, n0⟩ := World.own_cell hr 0 _ rfl
    obtain ⟨z1, n1⟩ := World.own_cell hr 1 _ rfl
    obtain ⟨z2, n2⟩ := World.own_cell hr 2 _ rfl
    have lR1 : w.heap.size < w1.heap.size := World.block_lt_of_cell? _ _ z0
    have lD21 : D2 < w1.heap.size := World.block_lt_of_cell? _ _ y1
    clear hg1 hr hgw x0 x1 x2 lD2
    unfold numV
    simp only
    go_wp2_with fail
    refine wp_region_plus (by kernel_rfl) (by kernel_rfl) ?_
    repeat (go_big_quiet_step ((first | fail)))
    refine wpQuiet_nil ?_
    intro _ hw'
    obtain ⟨nx, rfl⟩ := hw'
    go_wp2_with fail
    obtain ⟨w1b, hw1b⟩ : ∃ W, W = w1.plus nx := ⟨_, rfl⟩
    have hgb : Grew w w1b := by rw [hw1b]; exact HG.out.plus nx
    have hrb := Grew.heap (show Grew w1 w1b by rw [hw1b]; exact (Grew.refl _).plus nx) HR.out
    rw [← hw1b]
    clear HG HR y0 y1 m1 z0 n0 z1 n1 z2 n2 lR1 lD21 hw1b
    have HG := Lib.hid hgb
    have HR := Lib.hid hrb
    obtain ⟨y1, m1⟩ := World.own_cell (H.out.grew hgb).c2 1 _ rfl
    obtain ⟨z0, n0⟩ := World.own_cell hrb 0 _ rfl
    obtain ⟨z1, n1⟩ := World.own_cell hrb 1 _ rfl
    obtain ⟨z2, n2⟩ := World.own_cell hrb 2 _ rfl
    have lR1 : w.heap.size < w1b.heap.size := World.block_lt_of_cell? _ _ z0
    have lD21 : D2 < w1b.heap.size := World.block_lt_of_cell? _ _ y1
    clear hgb hrb
    have NO := Lib.hid (rd_no (H.out.grew HG.out) bCount c (by omega) (by omega))
    go_wp2_with fail
    refine NO.out.mono ?_
    rintro e w2 ⟨ar, cp, b, cb, rfl, hg2, hcb, hdb⟩
    have hr2 := hg2.heap HR.out (by simpa using hne)
    obtain ⟨z0, n0⟩ := World.own_cell hr2 0 _ rfl
    obtain ⟨z1, n1⟩ := World.own_cell hr2 1 _ rfl
    obtain ⟨z2, n2⟩ := World.own_cell hr2 2 _ rfl
    have lR2 : w.heap.size < w2.heap.size := World.block_lt_of_cell? _ _ z0
    have HX := Lib.hid (And.intro hg2 (And.intro hdb (And.intro hr2 hcb)))
    unfold noV
    clear hg2 hdb hr2 hcb
    go_wp2_with fail
    obtain ⟨hg2, hdb, hr2, hcb⟩ := HX.out
    have h3 := own3 hr2 (.int .i64 c) (.slice ar 1 cp) (.slice b 1 1)
    have g3 := gx3 (w := w2) w.heap.size (.int .i64 c) (.slice ar 1 cp) (.slice b 1 1)
    obtain ⟨f0, -⟩ := World.own_cell h3 0 _ rfl
    obtain ⟨f1, -⟩ := World.own_cell h3 1 _ rfl
    obtain ⟨f2, -⟩ := World.own_cell h3 2 _ rfl
    have lD9 : D9 < w.heap.size := (Array.getElem?_eq_some_iff.1 H.out.c9).1
    have lR1 := (Array.getElem?_eq_some_iff.1 HR.out).1
    refine bodyPost_ret (v := .tuple #[.int .i64 0, noV c ar 1 cp b 1 1]) (by simp [results, Tryz.results43, go_sem, f0, f1, f2, noV]) rfl ⟨?_, _, cb, rfl, ⟨_, _, _, _, _, _, _, rfl⟩, fun k hk => by have := hcb k hk; omega, hdb.grewX g3 (by simp; omega) (by simp; omega) (fun k hk => by have := hcb k hk; simp; omega)⟩
    exact (((GrewX.of_grew (ks := [D2, w.heap.size]) HG.out).trans (hg2.mono (by simp))).trans (g3.mono (by simp))).fresh (fun k hk => by
      rcases (by simpa using hk : k = D2 ∨ k = w.heap.size) with rfl | rfl
      · exact .inl (by simp)
      · exact .inr (Nat.le_refl _))
  | ok x =>
    obtain ⟨n, q⟩ := x
    rw [hsc] at RN
    have hpq := scan_le _ _ _ _ _ _ _ _ hsc
    simp only
    rw [show max least 1 = least by omega]
    have hdiv : (((l.length - q) / least : Nat) : Int) = ((l.length : Int) - q) / least := by
      rw [Int.natCast_ediv]; congr 1; omega
    by_cases hlt : (l.length - q) / least < n
    · rw [if_pos hlt]
      clear hsc
      go_enter Tryz.func43, Tryz.ntmps43
      go_wp2_with fail
      refine (RN.out _ (by exact by repeat (first | with_reducible exact HG.out | with_reducible exact Grew.refl _ | with_reducible assumption | with_reducible apply Grew.plus | with_reducible apply Grew.drewN | with_reducible apply Grew.drew | with_reducible apply Grew.alloc | with_reducible refine Grew.setCell ?_ (by simp [go_sem]; try omega) _))).mono ?_
      rintro e w1 ⟨hg1, rfl⟩
      have hgw : Grew w w1 := Grew.trans (by exact by repeat (first | with_reducible exact HG.out | with_reducible exact Grew.refl _ | with_reducible assumption | with_reducible apply Grew.plus | with_reducible apply Grew.drewN | with_reducible apply Grew.drew | with_reducible apply Grew.alloc | with_reducible refine Grew.setCell ?_ (by simp [go_sem]; try omega) _)) hg1
      have hr := Grew.heap hg1 (heap_alloc_new w _)
      have HR := Lib.hid hr
      have HG := Lib.hid hgw
      obtain ⟨y0, -⟩ := World.own_cell (H.out.grew hgw).c2 0 _ rfl
      obtain ⟨y1, m1⟩ := World.own_cell (H.out.grew hgw).c2 1 _ rfl
      obtain ⟨z0, n0⟩ := World.own_cell hr 0 _ rfl
      obtain ⟨z1, n1⟩ := World.own_cell hr 1 _ rfl
      obtain ⟨z2, n2⟩ := World.own_cell hr 2 _ rfl
      have lR1 : w.heap.size < w1.heap.size := World.block_lt_of_cell? _ _ z0
      have lD21 : D2 < w1.heap.size := World.block_lt_of_cell? _ _ y1
      clear hg1 hr hgw x0 x1 x2 lD2
      unfold numV
      simp only
      generalize hkk : ((q - p : Nat) : Int) = kk at *
      have hk0 : (p : Int) + kk = q := by omega
      have hk1 : 0 ≤ kk := by omega
      have hk2 : kk ≤ 4000 := by omega
      have hd0 : (l.length : Int) - p - kk = l.length - q := by omega
      have hd1 : (0 : Int) ≤ (l.length : Int) - p - kk := by omega
      rw [← hd0] at hdiv
      have hw1 : IntKind.i64.wrap ((l.length : Int) - p) = (l.length : Int) - p := IntWalk.i64_in _ (by omega)
      have hw2 : IntKind.i64.wrap ((l.length : Int) - p - kk) = (l.length : Int) - p - kk := IntWalk.i64_in _ (by omega)
      have hle0 : ¬ ((least : Int) = 0) := by omega
      have hlt2 : ((l.length : Int) - p - kk) / least < n := by rw [← hdiv]; omega
      have HPQ := Lib.hid hpq
      clear hdiv hd0 hkk hpq hlt
      go_wp2_with fail
      refine wp_region_plus (by kernel_rfl) (by kernel_rfl) ?_
      repeat (go_big_quiet_step ((first | fail)))
      refine wpQuiet_nil ?_
      intro _ hw'
      obtain ⟨nx, rfl⟩ := hw'
      go_upto_region 8 with (fail)
      obtain ⟨w1b, hw1b⟩ : ∃ W, W = w1.plus nx := ⟨_, rfl⟩
      have hgb : Grew w w1b := by rw [hw1b]; exact HG.out.plus nx
      have hrb := Grew.heap (show Grew w1 w1b by rw [hw1b]; exact (Grew.refl _).plus nx) HR.out
      rw [← hw1b]
      clear HG HR y0 y1 m1 z0 n0 z1 n1 z2 n2 lR1 lD21 hw1b
      have HG := Lib.hid hgb
      have HR := Lib.hid hrb
      obtain ⟨y1, m1⟩ := World.own_cell (H.out.grew hgb).c2 1 _ rfl
      obtain ⟨z0, n0⟩ := World.own_cell hrb 0 _ rfl
      obtain ⟨z1, n1⟩ := World.own_cell hrb 1 _ rfl
      obtain ⟨z2, n2⟩ := World.own_cell hrb 2 _ rfl
      have lR1 : w.heap.size < w1b.heap.size := World.block_lt_of_cell? _ _ z0
      have lD21 : D2 < w1b.heap.size := World.block_lt_of_cell? _ _ y1
      clear hgb hrb
      clear hlt2
      have NO := Lib.hid (rd_no (H.out.grew HG.out) bCount 7 (by omega) (by omega))
      go_wp2_with fail
      refine NO.out.mono ?_
      rintro e w2 ⟨ar, cp, b, cb, rfl, hg2, hcb, hdb⟩
      have hr2 := hg2.heap HR.out (by simpa using hne)
      obtain ⟨z0, n0⟩ := World.own_cell hr2 0 _ rfl
      obtain ⟨z1, n1⟩ := World.own_cell hr2 1 _ rfl
      obtain ⟨z2, n2⟩ := World.own_cell hr2 2 _ rfl
      have lR2 : w.heap.size < w2.heap.size := World.block_lt_of_cell? _ _ z0
      have HX := Lib.hid (And.intro hg2 (And.intro hdb (And.intro hr2 hcb)))
      unfold noV
      clear hg2 hdb hr2 hcb
      go_wp2_with fail
      obtain ⟨hg2, hdb, hr2, hcb⟩ := HX.out
      have h3 := own3 hr2 (.int .i64 7) (.slice ar 1 cp) (.slice b 1 1)
      have g3 := gx3 (w := w2) w.heap.size (.int .i64 7) (.slice ar 1 cp) (.slice b 1 1)
      obtain ⟨f0, -⟩ := World.own_cell h3 0 _ rfl
      obtain ⟨f1, -⟩ := World.own_cell h3 1 _ rfl
      obtain ⟨f2, -⟩ := World.own_cell h3 2 _ rfl
      have lD9 : D9 < w.heap.size := (Array.getElem?_eq_some_iff.1 H.out.c9).1
      have lR1 := (Array.getElem?_eq_some_iff.1 HR.out).1
      refine bodyPost_ret (v := .tuple #[.int .i64 0, noV 7 ar 1 cp b 1 1]) (by simp [results, Tryz.results43, go_sem, f0, f1, f2, noV]) rfl ⟨?_, _, cb, rfl, ⟨_, _, _, _, _, _, _, rfl⟩, fun k hk => by have := hcb k hk; omega, hdb.grewX g3 (by simp; omega) (by simp; omega) (fun k hk => by have := hcb k hk; simp; omega)⟩
      exact (((GrewX.of_grew (ks := [D2, w.heap.size]) HG.out).trans (hg2.mono (by simp))).trans (g3.mono (by simp))).fresh (fun k hk => by
        rcases (by simpa using hk : k = D2 ∨ k = w.heap.size) with rfl | rfl
        · exact .inl (by simp)
        · exact .inr (Nat.le_refl _))
    · rw [if_neg hlt]
      clear hsc
      go_enter Tryz.func43, Tryz.ntmps43
      go_wp2_with fail
      refine (RN.out _ (by exact by repeat (first | with_reducible exact HG.out | with_reducible exact Grew.refl _ | with_reducible assumption | with_reducible apply Grew.plus | with_reducible apply Grew.drewN | with_reducible apply Grew.drew | with_reducible apply Grew.alloc | with_reducible refine Grew.setCell ?_ (by simp [go_sem]; try omega) _))).mono ?_
      rintro e w1 ⟨hg1, rfl⟩
      have hgw : Grew w w1 := Grew.trans (by exact by repeat (first | with_reducible exact HG.out | with_reducible exact Grew.refl _ | with_reducible assumption | with_reducible apply Grew.plus | with_reducible apply Grew.drewN | with_reducible apply Grew.drew | with_reducible apply Grew.alloc | with_reducible refine Grew.setCell ?_ (by simp [go_sem]; try omega) _)) hg1
      have hr := Grew.heap hg1 (heap_alloc_new w _)
      have HR := Lib.hid hr
      have HG := Lib.hid hgw
      obtain ⟨y0, -⟩ := World.own_cell (H.out.grew hgw).c2 0 _ rfl
      obtain ⟨y1, m1⟩ := World.own_cell (H.out.grew hgw).c2 1 _ rfl
      obtain ⟨z0, n0⟩ := World.own_cell hr 0 _ rfl
      obtain ⟨z1, n1⟩ := World.own_cell hr 1 _ rfl
      obtain ⟨z2, n2⟩ := World.own_cell hr 2 _ rfl
      have lR1 : w.heap.size < w1.heap.size := World.block_lt_of_cell? _ _ z0
      have lD21 : D2 < w1.heap.size := World.block_lt_of_cell? _ _ y1
      clear hg1 hr hgw x0 x1 x2 lD2
      unfold numV
      simp only
      generalize hkk : ((q - p : Nat) : Int) = kk at *
      have hk0 : (p : Int) + kk = q := by omega
      have hk1 : 0 ≤ kk := by omega
      have hk2 : kk ≤ 4000 := by omega
      have hd0 : (l.length : Int) - p - kk = l.length - q := by omega
      have hd1 : (0 : Int) ≤ (l.length : Int) - p - kk := by omega
      rw [← hd0] at hdiv
      have hw1 : IntKind.i64.wrap ((l.length : Int) - p) = (l.length : Int) - p := IntWalk.i64_in _ (by omega)
      have hw2 : IntKind.i64.wrap ((l.length : Int) - p - kk) = (l.length : Int) - p - kk := IntWalk.i64_in _ (by omega)
      have hle0 : ¬ ((least : Int) = 0) := by omega
      have hlt2 : ¬ ((l.length : Int) - p - kk) / least < n := by rw [← hdiv]; omega
      have HPQ := Lib.hid hpq
      clear hdiv hd0 hkk hpq hlt
      go_wp2_with fail
      refine wp_region_plus (by kernel_rfl) (by kernel_rfl) ?_
      repeat (go_big_quiet_step ((first | fail)))
      refine wpQuiet_nil ?_
      intro _ hw'
      obtain ⟨nx, rfl⟩ := hw'
      go_upto_region 8 with (fail)
      obtain ⟨w1b, hw1b⟩ : ∃ W, W = w1.plus nx := ⟨_, rfl⟩
      have hgb : Grew w w1b := by rw [hw1b]; exact HG.out.plus nx
      have hrb := Grew.heap (show Grew w1 w1b by rw [hw1b]; exact (Grew.refl _).plus nx) HR.out
      rw [← hw1b]
      clear HG HR y0 y1 m1 z0 n0 z1 n1 z2 n2 lR1 lD21 hw1b
      have HG := Lib.hid hgb
      have HR := Lib.hid hrb
      obtain ⟨y1, m1⟩ := World.own_cell (H.out.grew hgb).c2 1 _ rfl
      obtain ⟨z0, n0⟩ := World.own_cell hrb 0 _ rfl
      obtain ⟨z1, n1⟩ := World.own_cell hrb 1 _ rfl
      obtain ⟨z2, n2⟩ := World.own_cell hrb 2 _ rfl
      have lR1 : w.heap.size < w1b.heap.size := World.block_lt_of_cell? _ _ z0
      have lD21 : D2 < w1b.heap.size := World.block_lt_of_cell? _ _ y1
      clear hgb hrb
      clear hlt2
      go_wp2_with fail
      have hpq := HPQ.out
      have hD2 := (H.out.grew HG.out).set q hpq.2
      have hr2 : (w1b.setCell ⟨D2, 1, none⟩ (.int .i64 q)).heap[w.heap.size]? = some (.cells #[.int .i64 0, .slice none 0 0, .slice none 0 0] 45 (0, 0)) := by rw [World.block_setCell _ _ _ _ hne]; exact HR.out
      have hg2 : GrewX [D2] w1b (w1b.setCell ⟨D2, 1, none⟩ (.int .i64 q)) := (GrewX.refl _ _).set (.inl (by simp)) _
      rw [show ((w1b.setCell ⟨D2, 1, none⟩ (.int .i64 q)).setCell ⟨w.heap.size, 0, none⟩ (.int .i64 0)) = ((w1b.setCell ⟨D2, 1, none⟩ (.int .i64 q)).setCell ⟨w.heap.size, 0, none⟩ (.int .i64 0)) from rfl]
      generalize w1b.setCell ⟨D2, 1, none⟩ (.int .i64 q) = w2 at *
      have h3 := own3 hr2 (.int .i64 0) (.slice none 0 0) (.slice none 0 0)
      have g3 := gx3 (w := w2) w.heap.size (.int .i64 0) (.slice none 0 0) (.slice none 0 0)
      obtain ⟨f0, -⟩ := World.own_cell h3 0 _ rfl
      obtain ⟨f1, -⟩ := World.own_cell h3 1 _ rfl
      obtain ⟨f2, -⟩ := World.own_cell h3 2 _ rfl
      have lD9 : D9 < w.heap.size := (Array.getElem?_eq_some_iff.1 H.out.c9).1
      refine bodyPost_ret (v := .tuple #[.int .i64 n, noV 0 none 0 0 none 0 0]) (by simp [results, Tryz.results43, go_sem, f0, f1, f2, noV]) rfl ⟨?_, _, rfl, ⟨_, _, _, _, _, _, _, rfl⟩, hD2.grewX g3 (by simp; omega) (by simp; omega) (fun q hq => by have := H.out.al q hq; simp; omega)⟩
      exact (((GrewX.of_grew (ks := [D2, w.heap.size]) HG.out).trans (hg2.mono (by simp))).trans (g3.mono (by simp))).fresh (fun k hk => by
        rcases (by simpa using hk : k = D2 ∨ k = w.heap.size) with rfl | rfl
        · exact .inl (by simp)
        · exact .inr (Nat.le_refl _))
end
end Go.Proofs.YtnhmekdnfinmiaaGreatDoor
/- Walks: the document's reader of wire: Byte, End (printed by wip/gen_r2.py). -/
namespace Go.Proofs.YtnhmekdnfinmiaaGreatDoor
open Go.RowKit Go.Par
set_option linter.unusedSimpArgs false
set_option linter.unusedVariables false
section
variable {w w' : World} {D2 D9 : Nat} {a : Option Addr} {cap : Nat} {l : List UInt8} {p q : Nat}
set_option maxRecDepth 100000 in
set_option maxHeartbeats 2000000 in
theorem r2_byte (h : DG w D2 D9 a cap l p) :
    Calls Tryz.prog 41 #[pt D2] w (RPost w D2 D9 a cap l p encB (.int .u8 0) (wByte l p)) := by
  have H := Lib.hid h
  obtain ⟨x0, -⟩ := World.own_cell h.c2 0 _ rfl
  obtain ⟨x1, -⟩ := World.own_cell h.c2 1 _ rfl
  obtain ⟨x2, -⟩ := World.own_cell h.c2 2 _ rfl
  have lD2 : D2 < w.heap.size := World.block_lt_of_cell? w _ x1
  have hne : w.heap.size ≠ D2 := by omega
  have hlen := h.len
  have hle := h.le
  unfold wByte
  cases hb : l[p]? with
  | none =>
    have hge : l.length ≤ p := by simpa using hb
    have hge2 : (l.length : Int) ≤ p := by omega
    clear h hb
    go_enter Tryz.func41, Tryz.ntmps41
    go_wp2_with fail
    refine wp_region_plus (by kernel_rfl) (by kernel_rfl) ?_
    repeat (go_big_quiet_step ((first | fail)))
    refine wpQuiet_nil ?_
    intro _ hw'
    obtain ⟨nx, rfl⟩ := hw'
    go_upto_region 4 with (fail)
    obtain ⟨w1b, hw1b⟩ : ∃ W, W = (w.alloc (.cells #[.int .i64 0, .slice none 0 0, .slice none 0 0] 45)).plus nx := ⟨_, rfl⟩
    have hgb : Grew w w1b := by rw [hw1b]; exact ((Grew.refl w).alloc _).plus nx
    have hrb : w1b.heap[w.heap.size]? = some (.cells #[.int .i64 0, .slice none 0 0, .slice none 0 0] 45 (0, 0)) := by rw [hw1b]; exact Grew.heap ((Grew.refl _).plus nx) (heap_alloc_new w _)
    rw [← hw1b]
    clear hw1b
    have HG := Lib.hid hgb
    have HR := Lib.hid hrb
    obtain ⟨y0, -⟩ := World.own_cell (H.out.grew hgb).c2 0 _ rfl
    obtain ⟨y1, m1⟩ := World.own_cell (H.out.grew hgb).c2 1 _ rfl
    obtain ⟨z0, n0⟩ := World.own_cell hrb 0 _ rfl
    obtain ⟨z1, n1⟩ := World.own_cell hrb 1 _ rfl
    obtain ⟨z2, n2⟩ := World.own_cell hrb 2 _ rfl
    have lR1 : w.heap.size < w1b.heap.size := World.block_lt_of_cell? _ _ z0
    have lD21 : D2 < w1b.heap.size := World.block_lt_of_cell? _ _ y1
    clear hgb hrb x0 x1 x2 lD2
    have NO := Lib.hid (rd_no (H.out.grew HG.out) bByte 7 (by omega) (by omega))
    go_wp2_with fail
    refine NO.out.mono ?_
    rintro e w2 ⟨ar, cp, b, cb, rfl, hg2, hcb, hdb⟩
    have hr2 := hg2.heap HR.out (by simpa using hne)
    obtain ⟨z0, n0⟩ := World.own_cell hr2 0 _ rfl
    obtain ⟨z1, n1⟩ := World.own_cell hr2 1 _ rfl
    obtain ⟨z2, n2⟩ := World.own_cell hr2 2 _ rfl
    have lR2 : w.heap.size < w2.heap.size := World.block_lt_of_cell? _ _ z0
    have HX := Lib.hid (And.intro hg2 (And.intro hdb (And.intro hr2 hcb)))
    unfold noV
    clear hg2 hdb hr2 hcb
    go_wp2_with fail
    obtain ⟨hg2, hdb, hr2, hcb⟩ := HX.out
    have h3 := own3 hr2 (.int .i64 7) (.slice ar 1 cp) (.slice b 1 1)
    have g3 := gx3 (w := w2) w.heap.size (.int .i64 7) (.slice ar 1 cp) (.slice b 1 1)
    obtain ⟨f0, -⟩ := World.own_cell h3 0 _ rfl
    obtain ⟨f1, -⟩ := World.own_cell h3 1 _ rfl
    obtain ⟨f2, -⟩ := World.own_cell h3 2 _ rfl
    have lD9 : D9 < w.heap.size := (Array.getElem?_eq_some_iff.1 H.out.c9).1
    have lR1 := (Array.getElem?_eq_some_iff.1 HR.out).1
    refine bodyPost_ret (v := .tuple #[.int .u8 0, noV 7 ar 1 cp b 1 1]) (by simp [results, Tryz.results41, go_sem, f0, f1, f2, noV]) rfl ⟨?_, _, cb, rfl, ⟨_, _, _, _, _, _, _, rfl⟩, fun k hk => by have := hcb k hk; omega, hdb.grewX g3 (by simp; omega) (by simp; omega) (fun k hk => by have := hcb k hk; simp; omega)⟩
    exact (((GrewX.of_grew (ks := [D2, w.heap.size]) HG.out).trans (hg2.mono (by simp))).trans (g3.mono (by simp))).fresh (fun k hk => by
      rcases (by simpa using hk : k = D2 ∨ k = w.heap.size) with rfl | rfl
      · exact .inl (by simp)
      · exact .inr (Nat.le_refl _))
  | some b =>
    have hpl : p < l.length := (List.getElem?_eq_some_iff.1 hb).1
    have hlt2 : ¬ ((l.length : Int) ≤ p) := by omega
    have HB := Lib.hid hb
    clear h hb
    go_enter Tryz.func41, Tryz.ntmps41
    go_wp2_with fail
    refine wp_region_plus (by kernel_rfl) (by kernel_rfl) ?_
    repeat (go_big_quiet_step ((first | fail)))
    refine wpQuiet_nil ?_
    intro _ hw'
    obtain ⟨nx, rfl⟩ := hw'
    go_upto_region 5 with (fail)
    obtain ⟨w1b, hw1b⟩ : ∃ W, W = (w.alloc (.cells #[.int .i64 0, .slice none 0 0, .slice none 0 0] 45)).plus nx := ⟨_, rfl⟩
    have hgb : Grew w w1b := by rw [hw1b]; exact ((Grew.refl w).alloc _).plus nx
    have hrb : w1b.heap[w.heap.size]? = some (.cells #[.int .i64 0, .slice none 0 0, .slice none 0 0] 45 (0, 0)) := by rw [hw1b]; exact Grew.heap ((Grew.refl _).plus nx) (heap_alloc_new w _)
    rw [← hw1b]
    clear hw1b
    have HG := Lib.hid hgb
    have HR := Lib.hid hrb
    obtain ⟨y0, -⟩ := World.own_cell (H.out.grew hgb).c2 0 _ rfl
    obtain ⟨y1, m1⟩ := World.own_cell (H.out.grew hgb).c2 1 _ rfl
    obtain ⟨z0, n0⟩ := World.own_cell hrb 0 _ rfl
    obtain ⟨z1, n1⟩ := World.own_cell hrb 1 _ rfl
    obtain ⟨z2, n2⟩ := World.own_cell hrb 2 _ rfl
    have lR1 : w.heap.size < w1b.heap.size := World.block_lt_of_cell? _ _ z0
    have lD21 : D2 < w1b.heap.size := World.block_lt_of_cell? _ _ y1
    clear hgb hrb x0 x1 x2 lD2
    go_wp2_with fail
    have hD2 := (H.out.grew HG.out).set (p + 1) (by omega)
    have hr2 : (w1b.setCell ⟨D2, 1, none⟩ (.int .i64 ((p + 1 : Nat) : Int))).heap[w.heap.size]? = some (.cells #[.int .i64 0, .slice none 0 0, .slice none 0 0] 45 (0, 0)) := by rw [World.block_setCell _ _ _ _ hne]; exact HR.out
    have hg2 : GrewX [D2] w1b (w1b.setCell ⟨D2, 1, none⟩ (.int .i64 ((p + 1 : Nat) : Int))) := (GrewX.refl _ _).set (.inl (by simp)) _
    rw [show (p : Int) + 1 = ((p + 1 : Nat) : Int) by omega]
    generalize w1b.setCell ⟨D2, 1, none⟩ (.int .i64 ((p + 1 : Nat) : Int)) = w2 at *
    obtain ⟨B, off, rfl, xb, lB⟩ := hD2.byte HB.out
    obtain ⟨v0, -⟩ := World.own_cell hD2.c2 0 _ rfl
    obtain ⟨v1, -⟩ := World.own_cell hD2.c2 1 _ rfl
    obtain ⟨q0, r0⟩ := World.own_cell hr2 0 _ rfl
    obtain ⟨q1, r1⟩ := World.own_cell hr2 1 _ rfl
    obtain ⟨q2, r2⟩ := World.own_cell hr2 2 _ rfl
    have lR2 : w.heap.size < w2.heap.size := World.block_lt_of_cell? _ _ q0
    have lD22 : D2 < w2.heap.size := World.block_lt_of_cell? _ _ v1
    have HD2 := Lib.hid hD2
    have HR2 := Lib.hid hr2
    have HG2 := Lib.hid hg2
    have hw1 : IntKind.i64.wrap (((p + 1 : Nat) : Int) - 1) = (p : Int) := by rw [IntKind.wrap_i64]; omega
    have hp0 : (0 : Int) ≤ p := by omega
    have hp1 : (p : Int) < l.length := by omega
    have hpn : (p : Int).toNat = p := by omega
    generalize hP1 : ((p + 1 : Nat) : Int) = P1 at *
    have HP1 := Lib.hid hP1
    clear hD2 hr2 hg2 y0 y1 m1 z0 n0 z1 n1 z2 n2 hP1
    refine wp_region_plus_tail 13 (by kernel_rfl) (by kernel_rfl) ?_
    simp only [List.take_succ_cons, List.take_zero, List.drop_succ_cons, List.drop_zero]
    repeat (go_big_quiet_step ((first | fail)))
    refine wpQuiet_nil ?_
    intro _ hw'
    obtain ⟨nx, rfl⟩ := hw'
    go_wp2_with fail
    have h3 := own3 HR2.out (.int .i64 0) (.slice none 0 0) (.slice none 0 0)
    have g3 := gx3 (w := w2) w.heap.size (.int .i64 0) (.slice none 0 0) (.slice none 0 0)
    obtain ⟨f0, -⟩ := World.own_cell h3 0 _ rfl
    obtain ⟨f1, -⟩ := World.own_cell h3 1 _ rfl
    obtain ⟨f2, -⟩ := World.own_cell h3 2 _ rfl
    have lD9 : D9 < w.heap.size := (Array.getElem?_eq_some_iff.1 H.out.c9).1
    refine bodyPost_ret (v := .tuple #[encB b, noV 0 none 0 0 none 0 0]) (by simp [results, Tryz.results41, go_sem, f0, f1, f2, noV]) rfl ⟨?_, _, rfl, ⟨_, _, _, _, _, _, _, rfl⟩, (HD2.out.grewX g3 (by simp; omega) (by simp; omega) (fun q hq => by have := H.out.al q hq; simp; omega)).grew ((Grew.refl _).plus nx)⟩
    exact ((((GrewX.of_grew (ks := [D2, w.heap.size]) HG.out).trans (HG2.out.mono (by simp))).trans (g3.mono (by simp))).fresh (fun k hk => by
      rcases (by simpa using hk : k = D2 ∨ k = w.heap.size) with rfl | rfl
      · exact .inl (by simp)
      · exact .inr (Nat.le_refl _))).plus nx
set_option maxRecDepth 100000 in
set_option maxHeartbeats 2000000 in
theorem r2_end (h : DG w D2 D9 a cap l p) :
    Calls Tryz.prog 47 #[pt D2] w fun e w' => (∃ v, e = .returned v ∧ IsNo v) ∧ GrewX [D2] w w' ∧ match wEnd l p with
      | .ok _ => DG w' D2 D9 a cap l p
      | .error r => ∃ cb, (∀ k ∈ cb, w.heap.size ≤ k) ∧ DB w' D2 D9 a cap l p cb r := by
  have H := Lib.hid h
  obtain ⟨x0, -⟩ := World.own_cell h.c2 0 _ rfl
  obtain ⟨x1, -⟩ := World.own_cell h.c2 1 _ rfl
  obtain ⟨x2, -⟩ := World.own_cell h.c2 2 _ rfl
  have lD2 : D2 < w.heap.size := World.block_lt_of_cell? w _ x1
  have hne : w.heap.size ≠ D2 := by omega
  have hlen := h.len
  have hle := h.le
  unfold wEnd
  by_cases hb : p < l.length
  · rw [if_pos hb]
    have hge2 : (p : Int) < l.length := by omega
    clear h
    go_enter Tryz.func47, Tryz.ntmps47
    go_wp2_with fail
    refine wp_region_plus (by kernel_rfl) (by kernel_rfl) ?_
    repeat (go_big_quiet_step ((first | fail)))
    refine wpQuiet_nil ?_
    intro _ hw'
    obtain ⟨nx, rfl⟩ := hw'
    go_upto_region 4 with (fail)
    obtain ⟨w1b, hw1b⟩ : ∃ W, W = (w.alloc (.cells #[.int .i64 0, .slice none 0 0, .slice none 0 0] 45)).plus nx := ⟨_, rfl⟩
    have hgb : Grew w w1b := by rw [hw1b]; exact ((Grew.refl w).alloc _).plus nx
    have hrb : w1b.heap[w.heap.size]? = some (.cells #[.int .i64 0, .slice none 0 0, .slice none 0 0] 45 (0, 0)) := by rw [hw1b]; exact Grew.heap ((Grew.refl _).plus nx) (heap_alloc_new w _)
    rw [← hw1b]
    clear hw1b
    have HG := Lib.hid hgb
    have HR := Lib.hid hrb
    obtain ⟨y0, -⟩ := World.own_cell (H.out.grew hgb).c2 0 _ rfl
    obtain ⟨y1, m1⟩ := World.own_cell (H.out.grew hgb).c2 1 _ rfl
    obtain ⟨z0, n0⟩ := World.own_cell hrb 0 _ rfl
    obtain ⟨z1, n1⟩ := World.own_cell hrb 1 _ rfl
    obtain ⟨z2, n2⟩ := World.own_cell hrb 2 _ rfl
    have lR1 : w.heap.size < w1b.heap.size := World.block_lt_of_cell? _ _ z0
    have lD21 : D2 < w1b.heap.size := World.block_lt_of_cell? _ _ y1
    clear hgb hrb x0 x1 x2 lD2
    have NO := Lib.hid (rd_no (H.out.grew HG.out) bEnd 6 (by omega) (by omega))
    go_wp2_with fail
    refine NO.out.mono ?_
    rintro e w2 ⟨ar, cp, b, cb, rfl, hg2, hcb, hdb⟩
    have hr2 := hg2.heap HR.out (by simpa using hne)
    obtain ⟨z0, n0⟩ := World.own_cell hr2 0 _ rfl
    obtain ⟨z1, n1⟩ := World.own_cell hr2 1 _ rfl
    obtain ⟨z2, n2⟩ := World.own_cell hr2 2 _ rfl
    have lR2 : w.heap.size < w2.heap.size := World.block_lt_of_cell? _ _ z0
    have HX := Lib.hid (And.intro hg2 (And.intro hdb (And.intro hr2 hcb)))
    unfold noV
    clear hg2 hdb hr2 hcb
    go_wp2_with fail
    obtain ⟨hg2, hdb, hr2, hcb⟩ := HX.out
    have h3 := own3 hr2 (.int .i64 6) (.slice ar 1 cp) (.slice b 1 1)
    have g3 := gx3 (w := w2) w.heap.size (.int .i64 6) (.slice ar 1 cp) (.slice b 1 1)
    obtain ⟨f0, -⟩ := World.own_cell h3 0 _ rfl
    obtain ⟨f1, -⟩ := World.own_cell h3 1 _ rfl
    obtain ⟨f2, -⟩ := World.own_cell h3 2 _ rfl
    have lD9 : D9 < w.heap.size := (Array.getElem?_eq_some_iff.1 H.out.c9).1
    have lR1 := (Array.getElem?_eq_some_iff.1 HR.out).1
    refine bodyPost_ret (v := noV 6 ar 1 cp b 1 1) (by simp [results, Tryz.results47, go_sem, f0, f1, f2, noV]) rfl ⟨⟨_, rfl, _, _, _, _, _, _, _, rfl⟩, ?_, cb, fun k hk => by have := hcb k hk; omega, hdb.grewX g3 (by simp; omega) (by simp; omega) (fun k hk => by have := hcb k hk; simp; omega)⟩
    exact (((GrewX.of_grew (ks := [D2, w.heap.size]) HG.out).trans (hg2.mono (by simp))).trans (g3.mono (by simp))).fresh (fun k hk => by
      rcases (by simpa using hk : k = D2 ∨ k = w.heap.size) with rfl | rfl
      · exact .inl (by simp)
      · exact .inr (Nat.le_refl _))
  · rw [if_neg hb]
    have hge2 : ¬ ((p : Int) < l.length) := by omega
    clear h
    go_enter Tryz.func47, Tryz.ntmps47
    go_wp2_with fail
    refine wp_region_plus (by kernel_rfl) (by kernel_rfl) ?_
    repeat (go_big_quiet_step ((first | fail)))
    refine wpQuiet_nil ?_
    intro _ hw'
    obtain ⟨nx, rfl⟩ := hw'
    go_upto_region 5 with (fail)
    obtain ⟨w1b, hw1b⟩ : ∃ W, W = (w.alloc (.cells #[.int .i64 0, .slice none 0 0, .slice none 0 0] 45)).plus nx := ⟨_, rfl⟩
    have hgb : Grew w w1b := by rw [hw1b]; exact ((Grew.refl w).alloc _).plus nx
    have hrb : w1b.heap[w.heap.size]? = some (.cells #[.int .i64 0, .slice none 0 0, .slice none 0 0] 45 (0, 0)) := by rw [hw1b]; exact Grew.heap ((Grew.refl _).plus nx) (heap_alloc_new w _)
    rw [← hw1b]
    clear hw1b
    have HG := Lib.hid hgb
    have HR := Lib.hid hrb
    obtain ⟨y0, -⟩ := World.own_cell (H.out.grew hgb).c2 0 _ rfl
    obtain ⟨y1, m1⟩ := World.own_cell (H.out.grew hgb).c2 1 _ rfl
    obtain ⟨z0, n0⟩ := World.own_cell hrb 0 _ rfl
    obtain ⟨z1, n1⟩ := World.own_cell hrb 1 _ rfl
    obtain ⟨z2, n2⟩ := World.own_cell hrb 2 _ rfl
    have lR1 : w.heap.size < w1b.heap.size := World.block_lt_of_cell? _ _ z0
    have lD21 : D2 < w1b.heap.size := World.block_lt_of_cell? _ _ y1
    clear hgb hrb x0 x1 x2 lD2
    go_wp2_with fail
    have hD2 := H.out.grew HG.out
    have hr2 := HR.out
    obtain ⟨w2, hw2⟩ : ∃ w2, w2 = w1b := ⟨_, rfl⟩
    have hg2 : GrewX [D2] w1b w2 := by rw [hw2]; exact GrewX.refl _ _
    rw [← hw2] at hD2 hr2 ⊢
    have h3 := own3 hr2 (.int .i64 0) (.slice none 0 0) (.slice none 0 0)
    have g3 := gx3 (w := w2) w.heap.size (.int .i64 0) (.slice none 0 0) (.slice none 0 0)
    obtain ⟨f0, -⟩ := World.own_cell h3 0 _ rfl
    obtain ⟨f1, -⟩ := World.own_cell h3 1 _ rfl
    obtain ⟨f2, -⟩ := World.own_cell h3 2 _ rfl
    have lD9 : D9 < w.heap.size := (Array.getElem?_eq_some_iff.1 H.out.c9).1
    refine bodyPost_ret (v := noV 0 none 0 0 none 0 0) (by simp [results, Tryz.results47, go_sem, f0, f1, f2, noV]) rfl ⟨⟨_, rfl, _, _, _, _, _, _, _, rfl⟩, ?_, hD2.grewX g3 (by simp; omega) (by simp; omega) (fun q hq => by have := H.out.al q hq; simp; omega)⟩
    exact (((GrewX.of_grew (ks := [D2, w.heap.size]) HG.out).trans (hg2.mono (by simp))).trans (g3.mono (by simp))).fresh (fun k hk => by
      rcases (by simpa using hk : k = D2 ∨ k = w.heap.size) with rfl | rfl
      · exact .inl (by simp)
      · exact .inr (Nat.le_refl _))
end
end Go.Proofs.YtnhmekdnfinmiaaGreatDoor
/- Walks: the document's reader of wire: Text (printed by wip/gen_r2.py). -/
namespace Go.Proofs.YtnhmekdnfinmiaaGreatDoor
open Go.RowKit Go.Par
set_option linter.unusedSimpArgs false
set_option linter.unusedVariables false
section
variable {w w' : World} {D2 D9 : Nat} {a : Option Addr} {cap : Nat} {l : List UInt8} {p q : Nat}
set_option maxRecDepth 100000 in
set_option maxHeartbeats 2000000 in
theorem r2_text (h : DG w D2 D9 a cap l p) :
    Calls Tryz.prog 46 #[pt D2, .int .i64 2147483647] w (RPost w D2 D9 a cap l p encT (.string ⟨#[]⟩) (wText l 2147483647 p)) := by
  have H := Lib.hid h
  obtain ⟨x0, -⟩ := World.own_cell h.c2 0 _ rfl
  obtain ⟨x1, -⟩ := World.own_cell h.c2 1 _ rfl
  obtain ⟨x2, -⟩ := World.own_cell h.c2 2 _ rfl
  have lD2 : D2 < w.heap.size := World.block_lt_of_cell? w _ x1
  have hne : w.heap.size ≠ D2 := by omega
  have hlen := h.len
  have RN := Lib.hid (fun W (hW : Grew w W) => rd_number (h.grew hW) 2147483647 (by decide) (by decide))
  clear h
  unfold wText
  cases hsc : scan l 2147483647 9 0 0 p with
  | error c =>
    rw [hsc] at RN
    have hcc := scan_code _ _ _ _ _ _ _ hsc
    have hc0 : ¬ ((c : Int) = 0) := by omega
    have hc0' : ((c : Int) == 0) = false := by simpa using hc0
    clear hsc
    go_enter Tryz.func46, Tryz.ntmps46
    go_wp2_with fail
    refine (RN.out _ (by exact by repeat (first | with_reducible exact HG.out | with_reducible exact Grew.refl _ | with_reducible assumption | with_reducible apply Grew.plus | with_reducible apply Grew.drewN | with_reducible apply Grew.drew | with_reducible apply Grew.alloc | with_reducible refine Grew.setCell ?_ (by simp [go_sem]; try omega) _))).mono ?_
    rintro e w1 ⟨hg1, rfl⟩
    have hgw : Grew w w1 := Grew.trans (by exact by repeat (first | with_reducible exact HG.out | with_reducible exact Grew.refl _ | with_reducible assumption | with_reducible apply Grew.plus | with_reducible apply Grew.drewN | with_reducible apply Grew.drew | with_reducible apply Grew.alloc | with_reducible refine Grew.setCell ?_ (by simp [go_sem]; try omega) _)) hg1
    have hr := Grew.heap hg1 (heap_alloc_new w _)
    have HR := Lib.hid hr
    have HG := Lib.hid hgw
    obtain ⟨y0, -⟩ := World.own_cell (H.out.grew hgw).c2 0 _ rfl
    obtain ⟨y1, m1⟩ := World.own_cell (H.out.grew hgw).c2 1 _ rfl
    obtain ⟨z0, n0⟩ := World.own_cell hr 0 _ rfl
    obtain ⟨z1, n1⟩ := World.own_cell hr 1 _ rfl
    obtain ⟨z2, n2⟩ := World.own_cell hr 2 _ rfl
    have lR1 : w.heap.size < w1.heap.size := World.block_lt_of_cell? _ _ z0
    have lD21 : D2 < w1.heap.size := World.block_lt_of_cell? _ _ y1
    clear hg1 hr hgw x0 x1 x2 lD2
    unfold numV
    simp only
    go_wp2_with fail
    refine wp_region_plus (by kernel_rfl) (by kernel_rfl) ?_
    repeat (go_big_quiet_step ((first | fail)))
    refine wpQuiet_nil ?_
    intro _ hw'
    obtain ⟨nx, rfl⟩ := hw'
    go_wp2_with fail
    obtain ⟨w1b, hw1b⟩ : ∃ W, W = w1.plus nx := ⟨_, rfl⟩
    have hgb : Grew w w1b := by rw [hw1b]; exact HG.out.plus nx
    have hrb := Grew.heap (show Grew w1 w1b by rw [hw1b]; exact (Grew.refl _).plus nx) HR.out
    rw [← hw1b]
    clear HG HR y0 y1 m1 z0 n0 z1 n1 z2 n2 lR1 lD21 hw1b
    have HG := Lib.hid hgb
    have HR := Lib.hid hrb
    obtain ⟨y1, m1⟩ := World.own_cell (H.out.grew hgb).c2 1 _ rfl
    obtain ⟨z0, n0⟩ := World.own_cell hrb 0 _ rfl
    obtain ⟨z1, n1⟩ := World.own_cell hrb 1 _ rfl
    obtain ⟨z2, n2⟩ := World.own_cell hrb 2 _ rfl
    have lR1 : w.heap.size < w1b.heap.size := World.block_lt_of_cell? _ _ z0
    have lD21 : D2 < w1b.heap.size := World.block_lt_of_cell? _ _ y1
    clear hgb hrb
    have NO := Lib.hid (rd_no (H.out.grew HG.out) bText c (by omega) (by omega))
    go_wp2_with fail
    refine NO.out.mono ?_
    rintro e w2 ⟨ar, cp, b, cb, rfl, hg2, hcb, hdb⟩
    have hr2 := hg2.heap HR.out (by simpa using hne)
    obtain ⟨z0, n0⟩ := World.own_cell hr2 0 _ rfl
    obtain ⟨z1, n1⟩ := World.own_cell hr2 1 _ rfl
    obtain ⟨z2, n2⟩ := World.own_cell hr2 2 _ rfl
    have lR2 : w.heap.size < w2.heap.size := World.block_lt_of_cell? _ _ z0
    have HX := Lib.hid (And.intro hg2 (And.intro hdb (And.intro hr2 hcb)))
    unfold noV
    clear hg2 hdb hr2 hcb
    go_wp2_with fail
    obtain ⟨hg2, hdb, hr2, hcb⟩ := HX.out
    have h3 := own3 hr2 (.int .i64 c) (.slice ar 1 cp) (.slice b 1 1)
    have g3 := gx3 (w := w2) w.heap.size (.int .i64 c) (.slice ar 1 cp) (.slice b 1 1)
    obtain ⟨f0, -⟩ := World.own_cell h3 0 _ rfl
    obtain ⟨f1, -⟩ := World.own_cell h3 1 _ rfl
    obtain ⟨f2, -⟩ := World.own_cell h3 2 _ rfl
    have lD9 : D9 < w.heap.size := (Array.getElem?_eq_some_iff.1 H.out.c9).1
    have lR1 := (Array.getElem?_eq_some_iff.1 HR.out).1
    refine bodyPost_ret (v := .tuple #[.string ⟨#[]⟩, noV c ar 1 cp b 1 1]) (by simp [results, Tryz.results46, go_sem, f0, f1, f2, noV]) rfl ⟨?_, _, cb, rfl, ⟨_, _, _, _, _, _, _, rfl⟩, fun k hk => by have := hcb k hk; omega, hdb.grewX g3 (by simp; omega) (by simp; omega) (fun k hk => by have := hcb k hk; simp; omega)⟩
    exact (((GrewX.of_grew (ks := [D2, w.heap.size]) HG.out).trans (hg2.mono (by simp))).trans (g3.mono (by simp))).fresh (fun k hk => by
      rcases (by simpa using hk : k = D2 ∨ k = w.heap.size) with rfl | rfl
      · exact .inl (by simp)
      · exact .inr (Nat.le_refl _))
  | ok x =>
    obtain ⟨n, q⟩ := x
    rw [hsc] at RN
    have hpq := scan_le _ _ _ _ _ _ _ _ hsc
    simp only
    by_cases hlt : l.length - q < n
    · rw [if_pos hlt]
      clear hsc
      go_enter Tryz.func46, Tryz.ntmps46
      go_wp2_with fail
      refine (RN.out _ (by exact by repeat (first | with_reducible exact HG.out | with_reducible exact Grew.refl _ | with_reducible assumption | with_reducible apply Grew.plus | with_reducible apply Grew.drewN | with_reducible apply Grew.drew | with_reducible apply Grew.alloc | with_reducible refine Grew.setCell ?_ (by simp [go_sem]; try omega) _))).mono ?_
      rintro e w1 ⟨hg1, rfl⟩
      have hgw : Grew w w1 := Grew.trans (by exact by repeat (first | with_reducible exact HG.out | with_reducible exact Grew.refl _ | with_reducible assumption | with_reducible apply Grew.plus | with_reducible apply Grew.drewN | with_reducible apply Grew.drew | with_reducible apply Grew.alloc | with_reducible refine Grew.setCell ?_ (by simp [go_sem]; try omega) _)) hg1
      have hr := Grew.heap hg1 (heap_alloc_new w _)
      have HR := Lib.hid hr
      have HG := Lib.hid hgw
      obtain ⟨y0, -⟩ := World.own_cell (H.out.grew hgw).c2 0 _ rfl
      obtain ⟨y1, m1⟩ := World.own_cell (H.out.grew hgw).c2 1 _ rfl
      obtain ⟨z0, n0⟩ := World.own_cell hr 0 _ rfl
      obtain ⟨z1, n1⟩ := World.own_cell hr 1 _ rfl
      obtain ⟨z2, n2⟩ := World.own_cell hr 2 _ rfl
      have lR1 : w.heap.size < w1.heap.size := World.block_lt_of_cell? _ _ z0
      have lD21 : D2 < w1.heap.size := World.block_lt_of_cell? _ _ y1
      clear hg1 hr hgw x0 x1 x2 lD2
      unfold numV
      simp only
      generalize hkk : ((q - p : Nat) : Int) = kk at *
      have hk0 : (p : Int) + kk = q := by omega
      have hk1 : 0 ≤ kk := by omega
      have hk2 : kk ≤ 4000 := by omega
      have hd0 : (l.length : Int) - p - kk = l.length - q := by omega
      have hd1 : (0 : Int) ≤ (l.length : Int) - p - kk := by omega
      have hw1 : IntKind.i64.wrap ((l.length : Int) - p) = (l.length : Int) - p := IntWalk.i64_in _ (by omega)
      have hw2 : IntKind.i64.wrap ((l.length : Int) - p - kk) = (l.length : Int) - p - kk := IntWalk.i64_in _ (by omega)
      have hlt2 : (l.length : Int) - p - kk < n := by omega
      have HPQ := Lib.hid hpq
      clear hd0 hkk hpq hlt
      go_wp2_with fail
      refine wp_region_plus (by kernel_rfl) (by kernel_rfl) ?_
      repeat (go_big_quiet_step ((first | fail)))
      refine wpQuiet_nil ?_
      intro _ hw'
      obtain ⟨nx, rfl⟩ := hw'
      go_upto_region 6 with (fail)
      obtain ⟨w1b, hw1b⟩ : ∃ W, W = w1.plus nx := ⟨_, rfl⟩
      have hgb : Grew w w1b := by rw [hw1b]; exact HG.out.plus nx
      have hrb := Grew.heap (show Grew w1 w1b by rw [hw1b]; exact (Grew.refl _).plus nx) HR.out
      rw [← hw1b]
      clear HG HR y0 y1 m1 z0 n0 z1 n1 z2 n2 lR1 lD21 hw1b
      have HG := Lib.hid hgb
      have HR := Lib.hid hrb
      obtain ⟨y1, m1⟩ := World.own_cell (H.out.grew hgb).c2 1 _ rfl
      obtain ⟨z0, n0⟩ := World.own_cell hrb 0 _ rfl
      obtain ⟨z1, n1⟩ := World.own_cell hrb 1 _ rfl
      obtain ⟨z2, n2⟩ := World.own_cell hrb 2 _ rfl
      have lR1 : w.heap.size < w1b.heap.size := World.block_lt_of_cell? _ _ z0
      have lD21 : D2 < w1b.heap.size := World.block_lt_of_cell? _ _ y1
      clear hgb hrb
      clear hlt2
      have NO := Lib.hid (rd_no (H.out.grew HG.out) bText 7 (by omega) (by omega))
      go_wp2_with fail
      refine NO.out.mono ?_
      rintro e w2 ⟨ar, cp, b, cb, rfl, hg2, hcb, hdb⟩
      have hr2 := hg2.heap HR.out (by simpa using hne)
      obtain ⟨z0, n0⟩ := World.own_cell hr2 0 _ rfl
      obtain ⟨z1, n1⟩ := World.own_cell hr2 1 _ rfl
      obtain ⟨z2, n2⟩ := World.own_cell hr2 2 _ rfl
      have lR2 : w.heap.size < w2.heap.size := World.block_lt_of_cell? _ _ z0
      have HX := Lib.hid (And.intro hg2 (And.intro hdb (And.intro hr2 hcb)))
      unfold noV
      clear hg2 hdb hr2 hcb
      go_wp2_with fail
      obtain ⟨hg2, hdb, hr2, hcb⟩ := HX.out
      have h3 := own3 hr2 (.int .i64 7) (.slice ar 1 cp) (.slice b 1 1)
      have g3 := gx3 (w := w2) w.heap.size (.int .i64 7) (.slice ar 1 cp) (.slice b 1 1)
      obtain ⟨f0, -⟩ := World.own_cell h3 0 _ rfl
      obtain ⟨f1, -⟩ := World.own_cell h3 1 _ rfl
      obtain ⟨f2, -⟩ := World.own_cell h3 2 _ rfl
      have lD9 : D9 < w.heap.size := (Array.getElem?_eq_some_iff.1 H.out.c9).1
      have lR1 := (Array.getElem?_eq_some_iff.1 HR.out).1
      refine bodyPost_ret (v := .tuple #[.string ⟨#[]⟩, noV 7 ar 1 cp b 1 1]) (by simp [results, Tryz.results46, go_sem, f0, f1, f2, noV]) rfl ⟨?_, _, cb, rfl, ⟨_, _, _, _, _, _, _, rfl⟩, fun k hk => by have := hcb k hk; omega, hdb.grewX g3 (by simp; omega) (by simp; omega) (fun k hk => by have := hcb k hk; simp; omega)⟩
      exact (((GrewX.of_grew (ks := [D2, w.heap.size]) HG.out).trans (hg2.mono (by simp))).trans (g3.mono (by simp))).fresh (fun k hk => by
        rcases (by simpa using hk : k = D2 ∨ k = w.heap.size) with rfl | rfl
        · exact .inl (by simp)
        · exact .inr (Nat.le_refl _))
    · rw [if_neg hlt]
      clear hsc
      go_enter Tryz.func46, Tryz.ntmps46
      go_wp2_with fail
      refine (RN.out _ (by exact by repeat (first | with_reducible exact HG.out | with_reducible exact Grew.refl _ | with_reducible assumption | with_reducible apply Grew.plus | with_reducible apply Grew.drewN | with_reducible apply Grew.drew | with_reducible apply Grew.alloc | with_reducible refine Grew.setCell ?_ (by simp [go_sem]; try omega) _))).mono ?_
      rintro e w1 ⟨hg1, rfl⟩
      have hgw : Grew w w1 := Grew.trans (by exact by repeat (first | with_reducible exact HG.out | with_reducible exact Grew.refl _ | with_reducible assumption | with_reducible apply Grew.plus | with_reducible apply Grew.drewN | with_reducible apply Grew.drew | with_reducible apply Grew.alloc | with_reducible refine Grew.setCell ?_ (by simp [go_sem]; try omega) _)) hg1
      have hr := Grew.heap hg1 (heap_alloc_new w _)
      have HR := Lib.hid hr
      have HG := Lib.hid hgw
      obtain ⟨y0, -⟩ := World.own_cell (H.out.grew hgw).c2 0 _ rfl
      obtain ⟨y1, m1⟩ := World.own_cell (H.out.grew hgw).c2 1 _ rfl
      obtain ⟨z0, n0⟩ := World.own_cell hr 0 _ rfl
      obtain ⟨z1, n1⟩ := World.own_cell hr 1 _ rfl
      obtain ⟨z2, n2⟩ := World.own_cell hr 2 _ rfl
      have lR1 : w.heap.size < w1.heap.size := World.block_lt_of_cell? _ _ z0
      have lD21 : D2 < w1.heap.size := World.block_lt_of_cell? _ _ y1
      clear hg1 hr hgw x0 x1 x2 lD2
      unfold numV
      simp only
      generalize hkk : ((q - p : Nat) : Int) = kk at *
      have hk0 : (p : Int) + kk = q := by omega
      have hk1 : 0 ≤ kk := by omega
      have hk2 : kk ≤ 4000 := by omega
      have hd0 : (l.length : Int) - p - kk = l.length - q := by omega
      have hd1 : (0 : Int) ≤ (l.length : Int) - p - kk := by omega
      have hw1 : IntKind.i64.wrap ((l.length : Int) - p) = (l.length : Int) - p := IntWalk.i64_in _ (by omega)
      have hw2 : IntKind.i64.wrap ((l.length : Int) - p - kk) = (l.length : Int) - p - kk := IntWalk.i64_in _ (by omega)
      have hlt2 : ¬ (l.length : Int) - p - kk < n := by omega
      have hn4 : n ≤ 4000 := by omega
      have hqn : q + n ≤ l.length := by omega
      have HPQ := Lib.hid hpq
      clear hd0 hkk hpq hlt
      go_wp2_with fail
      refine wp_region_plus (by kernel_rfl) (by kernel_rfl) ?_
      repeat (go_big_quiet_step ((first | fail)))
      refine wpQuiet_nil ?_
      intro _ hw'
      obtain ⟨nx, rfl⟩ := hw'
      go_upto_region 6 with (fail)
      obtain ⟨w1b, hw1b⟩ : ∃ W, W = w1.plus nx := ⟨_, rfl⟩
      have hgb : Grew w w1b := by rw [hw1b]; exact HG.out.plus nx
      have hrb := Grew.heap (show Grew w1 w1b by rw [hw1b]; exact (Grew.refl _).plus nx) HR.out
      rw [← hw1b]
      clear HG HR y0 y1 m1 z0 n0 z1 n1 z2 n2 lR1 lD21 hw1b
      have HG := Lib.hid hgb
      have HR := Lib.hid hrb
      obtain ⟨y1, m1⟩ := World.own_cell (H.out.grew hgb).c2 1 _ rfl
      obtain ⟨z0, n0⟩ := World.own_cell hrb 0 _ rfl
      obtain ⟨z1, n1⟩ := World.own_cell hrb 1 _ rfl
      obtain ⟨z2, n2⟩ := World.own_cell hrb 2 _ rfl
      have lR1 : w.heap.size < w1b.heap.size := World.block_lt_of_cell? _ _ z0
      have lD21 : D2 < w1b.heap.size := World.block_lt_of_cell? _ _ y1
      clear hgb hrb
      clear hlt2
      go_upto_region 10 with (fail)
      have hpq := HPQ.out
      have hD2 := (H.out.grew HG.out).set (q + n) hqn
      have hr2 : (w1b.setCell ⟨D2, 1, none⟩ (.int .i64 ((q + n : Nat) : Int))).heap[w.heap.size]? = some (.cells #[.int .i64 0, .slice none 0 0, .slice none 0 0] 45 (0, 0)) := by rw [World.block_setCell _ _ _ _ hne]; exact HR.out
      have hg2 : GrewX [D2] w1b (w1b.setCell ⟨D2, 1, none⟩ (.int .i64 ((q + n : Nat) : Int))) := (GrewX.refl _ _).set (.inl (by simp)) _
      rw [show (q : Int) + n = ((q + n : Nat) : Int) by omega]
      generalize w1b.setCell ⟨D2, 1, none⟩ (.int .i64 ((q + n : Nat) : Int)) = w2 at *
      obtain ⟨v0, -⟩ := World.own_cell hD2.c2 0 _ rfl
      obtain ⟨v1, -⟩ := World.own_cell hD2.c2 1 _ rfl
      obtain ⟨q0, r0⟩ := World.own_cell hr2 0 _ rfl
      obtain ⟨q1, r1⟩ := World.own_cell hr2 1 _ rfl
      obtain ⟨q2, r2⟩ := World.own_cell hr2 2 _ rfl
      have lR2 : w.heap.size < w2.heap.size := World.block_lt_of_cell? _ _ q0
      have lD22 : D2 < w2.heap.size := World.block_lt_of_cell? _ _ v1
      have hcp := hD2.cap
      have hlen2 : ((l.drop q).take n).length = n := by simp; omega
      have hsl : ∀ W, (Instr.sliceAt 22 (.slice a l.length cap) (some (.int .i64 q)) (some (.int .i64 ((q + n : Nat) : Int))) none).run Tryz.prog W = .ok (.slice (subA a cap q) n (cap - q)) W := fun W => by
        rw [slice_run a cap q (q + n) l.length (by omega) (by omega) W, show q + n - q = n by omega]
      have hcv : ∀ x, (convert 22 9 (.slice (subA a cap q) n (cap - q))).run Tryz.prog (w2.plus x) = .ok (encT ((l.drop q).take n)) (w2.plus x) := fun x => by
        have := conv_bytes (P := Tryz.prog) (w := w2.plus x) (src := 22) (dst := 9) (e := 5) Tryz.underlying22 (by kernel_rfl) (by kernel_rfl) (cap - q) (subA_in (hD2.row.grew ((Grew.refl w2).plus x)) hqn hcp.1)
        rw [hlen2] at this
        exact this
      have HD2 := Lib.hid hD2
      have HR2 := Lib.hid hr2
      have HG2 := Lib.hid hg2
      generalize hP1 : ((q + n : Nat) : Int) = P1 at *
      clear hD2 hr2 hg2 y1 m1 z0 n0 z1 n1 z2 n2 hP1 hcp hpq
      unfold encT at hcv
      obtain ⟨sb, hsb⟩ : ∃ sb, (⟨((l.drop q).take n).toArray⟩ : ByteArray) = sb := ⟨_, rfl⟩
      rw [hsb] at hcv
      have HSB := Lib.hid hsb
      clear hsb
      refine wp_region_plus_tail 13 (by kernel_rfl) (by kernel_rfl) ?_
      simp only [List.take_succ_cons, List.take_zero, List.drop_succ_cons, List.drop_zero]
      repeat (first
        | (go_big_quiet_want; refine quiet_slice (.tmp 65) (.tmp 66) (.tmp 70) (by rfl) (by rfl) (by rfl) (by rfl) (fun W _ => hsl W) ?_; simp only [Act.put, List.setIfInBounds_toArray, List.set_cons_zero, List.set_cons_succ]; go_big_quiet_on)
        | (go_big_quiet_want; refine quiet_conv (.tmp 71) (by rfl) (by rfl) (fun W hW => by obtain ⟨x, rfl⟩ := hW; exact hcv x) ?_; simp only [Act.put, List.setIfInBounds_toArray, List.set_cons_zero, List.set_cons_succ]; go_big_quiet_on)
        | go_big_quiet_step (fail))
      refine wpQuiet_nil ?_
      intro _ hw'
      obtain ⟨nx, rfl⟩ := hw'
      go_wp2_with fail
      have h3 := own3 HR2.out (.int .i64 0) (.slice none 0 0) (.slice none 0 0)
      have g3 := gx3 (w := w2) w.heap.size (.int .i64 0) (.slice none 0 0) (.slice none 0 0)
      obtain ⟨f0, -⟩ := World.own_cell h3 0 _ rfl
      obtain ⟨f1, -⟩ := World.own_cell h3 1 _ rfl
      obtain ⟨f2, -⟩ := World.own_cell h3 2 _ rfl
      have lD9 : D9 < w.heap.size := (Array.getElem?_eq_some_iff.1 H.out.c9).1
      refine bodyPost_ret (v := .tuple #[.string sb, noV 0 none 0 0 none 0 0]) (by simp [results, Tryz.results46, go_sem, f0, f1, f2, noV]) rfl ⟨?_, _, by rw [← HSB.out], ⟨_, _, _, _, _, _, _, rfl⟩, (HD2.out.grewX g3 (by simp; omega) (by simp; omega) (fun q hq => by have := H.out.al q hq; simp; omega)).grew ((Grew.refl _).plus nx)⟩
      exact ((((GrewX.of_grew (ks := [D2, w.heap.size]) HG.out).trans (HG2.out.mono (by simp))).trans (g3.mono (by simp))).fresh (fun k hk => by
        rcases (by simpa using hk : k = D2 ∨ k = w.heap.size) with rfl | rfl
        · exact .inl (by simp)
        · exact .inr (Nat.le_refl _))).plus nx
end
end Go.Proofs.YtnhmekdnfinmiaaGreatDoor
