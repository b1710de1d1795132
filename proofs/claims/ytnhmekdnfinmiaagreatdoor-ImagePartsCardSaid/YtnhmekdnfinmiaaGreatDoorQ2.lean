/- Texts of this proof, merged (printed by wip/pmerge.py out of WireB, WireC, WireD, WireE, WireF, EyeA, EyeB, EyeC, EyeD, Clk). -/
import Derived.Test.YtnhmekdnfinmiaaGreatDoorQ1
import Derived.Defers
import Derived.Recover
import Derived.Deep.RegionHeld3
import Derived.Conc.MuLone
import Derived.Deep.LoopGhost
import GoSem.Core.Value
/- Walks: wire's reads: what a reading that gives up leaves. -/
namespace Go.Proofs.YtnhmekdnfinmiaaGreatDoor
open Go.RowKit Go.Par
set_option linter.unusedSimpArgs false
set_option linter.unusedVariables false
@[go_sem] theorem as_stop (v : Value) (xT : TypeId) (w : World) : (Instr.typeAssert (.iface 168 v) xT 168 true).run Tryz.prog w = .ok (.tuple #[v, .bool true]) w := by kernel_rfl
def bWire : ByteArray := ⟨#[119, 105, 114, 101]⟩
section
variable {S : Nat → Addr} {w0 w : World} {R : Nat} {a : Option Addr} {cap : Nat} {l : List UInt8} {p : Nat}
theorem reads_idle (x0 x1 x2 x3 : Value) (w : World) :
    CallsD Tryz.prog 141 #[x0, x1, x2, x3] .returning w fun e u' w' => e = .returned (.tuple #[]) ∧ u' = .returning ∧ w' = w := by
  refine callsD_of_wpS Tryz.func141 rfl fun c₀ cs hu => ?_
  apply wpS_seq
  apply wpS_region
  simp [wpOpsS, go_sem, recoverD, hu, Tryz.ntmps141, Exit.thenS, List.replicate_succ, ← List.toArray_replicate]
  refine wpS_of_wp ?_
  go_wp2
  cases c₀
  simp_all [bodyPostS, results, Tryz.results141]
set_option maxRecDepth 100000 in
set_option maxHeartbeats 1000000 in
theorem reads_stop {W : World} {b0 b1 b2 b3 c q : Nat} {fr : Int} {call : ByteArray} {older : List PanicEntry} (hc0 : 1 ≤ c) (hc1 : c ≤ 14)
    (c0 : W.cell? ⟨b0, 0, none⟩ = some (pt R)) (c1 : W.cell? ⟨b1, 0, none⟩ = some (.string call)) (c2 : W.cell? ⟨b2, 0, none⟩ = some .nilIface) (f2 : W.frozen? ⟨b2, 0, none⟩ = false) (c3 : W.cell? ⟨b3, 0, none⟩ = some (.int .i64 fr))
    (hR : W.heap[R]? = some (.cells #[.slice a l.length cap, .int .i64 q, .nilIface] tRd (0, 0))) (n0 : b0 ≠ R) (n1 : b1 ≠ R) (n2 : b2 ≠ R) (n3 : b3 ≠ R) (n02 : b0 ≠ b2) (n12 : b1 ≠ b2) (n32 : b3 ≠ b2) :
    CallsD Tryz.prog 141 #[pt b3, pt b0, pt b1, pt b2] (.panicking ({ v := stopV S c, recovered := false } :: older)) W fun e u' w' => e = .returned (.tuple #[]) ∧ u' = .panicking ({ v := stopV S c, recovered := true } :: older) ∧ ∃ v, w'.cell? ⟨b2, 0, none⟩ = some v ∧ ErrAt S w' (.fault bWire call (max fr (-1)) (.reason c)) v ∧ GrewX [R, b2] W w' := by
  refine callsD_of_wpS Tryz.func141 rfl fun c₀ cs hu => ?_
  apply wpS_seq
  apply wpS_region
  simp [wpOpsS, go_sem, recoverD, hu, Tryz.ntmps141, Exit.thenS, List.replicate_succ, ← List.toArray_replicate]
  refine wpS_of_wp ?_
  unfold stopV
  obtain ⟨q1, m1⟩ : W.cell? ⟨R, 1, none⟩ = some (.int .i64 q) ∧ W.frozen? ⟨R, 1, none⟩ = false := World.own_cell hR 1 _ rfl
  have lR := World.block_lt_of_cell? W _ q1
  have l0 := World.block_lt_of_cell? W _ c0
  have l1 := World.block_lt_of_cell? W _ c1
  have l2 := World.block_lt_of_cell? W _ c2
  have l3 := World.block_lt_of_cell? W _ c3
  have HR := Lib.hid hR
  clear hR
  go_wp2_with fail
  have hR1 : ((W.setCell ⟨R, 1, none⟩ (.int .i64 fr)).alloc (.cells #[errV (S c)] 168)).heap[R]? = some (.cells #[.slice a l.length cap, .int .i64 fr, .nilIface] tRd (0, 0)) := Grew.heap ((Grew.refl _).alloc _) (World.own_set2 HR.out 1 _ _ rfl)
  have hX1 : ((W.setCell ⟨R, 1, none⟩ (.int .i64 fr)).alloc (.cells #[errV (S c)] 168)).heap[W.heap.size]? = some (.cells #[errV (S c)] 168 (0, 0)) := heap_alloc_at _ _ _ (by simp [go_sem])
  have hg1 : GrewX [R, b2] W ((W.setCell ⟨R, 1, none⟩ (.int .i64 fr)).alloc (.cells #[errV (S c)] 168)) := ((GrewX.refl _ W).set (.inl (by simp)) _).alloc _
  have hoth : ∀ b, b < W.heap.size → b ≠ R → ((W.setCell ⟨R, 1, none⟩ (.int .i64 fr)).alloc (.cells #[errV (S c)] 168)).heap[b]? = W.heap[b]? := fun b hb hn => by
    rw [heap_alloc_past _ _ _ (by simpa [go_sem] using hb), World.block_setCell _ _ _ _ hn]
  have e0 := (World.cell?_of_block (w := W) (a := ⟨b0, 0, none⟩) (hoth b0 l0 n0)).trans c0
  have e1 := (World.cell?_of_block (w := W) (a := ⟨b1, 0, none⟩) (hoth b1 l1 n1)).trans c1
  have e3 := (World.cell?_of_block (w := W) (a := ⟨b3, 0, none⟩) (hoth b3 l3 n3)).trans c3
  have e2 := (World.cell?_of_block (w := W) (a := ⟨b2, 0, none⟩) (hoth b2 l2 n2)).trans c2
  have e2f := (World.frozen?_of_block (w := W) (a := ⟨b2, 0, none⟩) (hoth b2 l2 n2)).trans f2
  have hXb2 : W.heap.size ≠ b2 := by omega
  have hXR : W.heap.size ≠ R := by omega
  clear hoth c0 c1 c2 c3 f2 q1 m1
  generalize ((W.setCell ⟨R, 1, none⟩ (.int .i64 fr)).alloc (.cells #[errV (S c)] 168)) = W1 at *
  have lX1 := (Array.getElem?_eq_some_iff.1 hX1).1
  have hsz := hg1.size
  generalize W.heap.size = X at *
  have HB : Hid (∀ W2, GrewX [R] W1 W2 → W2.cell? ⟨b0, 0, none⟩ = some (pt R) ∧ W2.cell? ⟨b1, 0, none⟩ = some (.string call) ∧ W2.cell? ⟨b3, 0, none⟩ = some (.int .i64 fr) ∧ W2.cell? ⟨X, 0, none⟩ = some (errV (S c))) := Lib.hid fun W2 hW => by
    refine ⟨?_, ?_, ?_, (World.own_cell (hW.heap hX1 (by simpa using hXR)) 0 _ rfl).1⟩
    · rw [hW.cell (by simp only []; omega) (by simpa using n0)]; exact e0
    · rw [hW.cell (by simp only []; omega) (by simpa using n1)]; exact e1
    · rw [hW.cell (by simp only []; omega) (by simpa using n3)]; exact e3
  obtain ⟨k0, k1, k3, kX⟩ := HB.out W1 (GrewX.refl _ _)
  obtain ⟨r2, s2⟩ : W1.cell? ⟨R, 2, none⟩ = some .nilIface ∧ W1.frozen? ⟨R, 2, none⟩ = false := World.own_cell hR1 2 _ rfl
  have HR1 := Lib.hid hR1
  have HX1 := Lib.hid hX1
  have HG1 := Lib.hid hg1
  have HE2 := Lib.hid (And.intro e2 e2f)
  have lR1 : R < W1.heap.size := by omega
  clear hR1 hX1 hg1 e0 e1 e3 e2 e2f
  have lb0 : b0 < W1.heap.size := by omega
  have lb2 : b2 < W1.heap.size := by omega
  go_region_held3 (fun w' => w'.cell? ⟨b0, 0, none⟩ = some (pt R) ∧ w'.cell? ⟨b1, 0, none⟩ = some (.string call) ∧ w'.cell? ⟨b3, 0, none⟩ = some (.int .i64 fr) ∧ w'.cell? ⟨X, 0, none⟩ = some (errV (S c))) (exact HB.out _ (by repeat (first | with_reducible exact HG.out | with_reducible exact GrewX.refl _ _ | with_reducible assumption | with_reducible apply GrewX.plus | with_reducible apply GrewX.drewN | with_reducible apply GrewX.drew | with_reducible apply GrewX.alloc | with_reducible refine GrewX.set ?_ (.inl (by simp)) _))) (first
    | (go_at_call 24; refine (new_any _ _ _ _ _ _).mono ?_; rintro e w' ⟨rfl, rfl⟩))
  have hk := HB.out ((W1.setCell ⟨R, 2, none⟩ (faultV ⟨W1.heap.size, 0, none⟩)).alloc (.cells #[.string bWire, .string call, .int .i64 (max fr (-1)), errV (S c)] 124)).drew (by repeat (first | with_reducible exact HG.out | with_reducible exact GrewX.refl _ _ | with_reducible assumption | with_reducible apply GrewX.plus | with_reducible apply GrewX.drewN | with_reducible apply GrewX.drew | with_reducible apply GrewX.alloc | with_reducible refine GrewX.set ?_ (.inl (by simp)) _))
  have hR2 : ((W1.setCell ⟨R, 2, none⟩ (faultV ⟨W1.heap.size, 0, none⟩)).alloc (.cells #[.string bWire, .string call, .int .i64 (max fr (-1)), errV (S c)] 124)).drew.heap[R]? = some (.cells #[.slice a l.length cap, .int .i64 fr, faultV ⟨W1.heap.size, 0, none⟩] tRd (0, 0)) := by
    rw [heap_drew0, heap_alloc_past _ _ _ (by simpa [go_sem] using lR1)]; exact World.own_set2 HR1.out 2 _ _ rfl
  have hF2 : ((W1.setCell ⟨R, 2, none⟩ (faultV ⟨W1.heap.size, 0, none⟩)).alloc (.cells #[.string bWire, .string call, .int .i64 (max fr (-1)), errV (S c)] 124)).drew.heap[W1.heap.size]? = some (.cells #[.string bWire, .string call, .int .i64 (max fr (-1)), errV (S c)] 124 (0, 0)) := by
    rw [heap_drew0]; exact heap_alloc_at _ _ _ (by simp [go_sem])
  have hg2 : GrewX [R, b2] W ((W1.setCell ⟨R, 2, none⟩ (faultV ⟨W1.heap.size, 0, none⟩)).alloc (.cells #[.string bWire, .string call, .int .i64 (max fr (-1)), errV (S c)] 124)).drew := ((HG1.out.set (.inl (by simp)) _).alloc _).drew
  have hb2 : ((W1.setCell ⟨R, 2, none⟩ (faultV ⟨W1.heap.size, 0, none⟩)).alloc (.cells #[.string bWire, .string call, .int .i64 (max fr (-1)), errV (S c)] 124)).drew.heap[b2]? = W1.heap[b2]? := by
    rw [heap_drew0, heap_alloc_past _ _ _ (by simpa [go_sem] using lb2), World.block_setCell _ _ _ _ n2]
  obtain ⟨e2, e2f⟩ := HE2.out
  have q2 := (World.cell?_of_block (w := W1) (a := ⟨b2, 0, none⟩) hb2).trans e2
  have q2f := (World.frozen?_of_block (w := W1) (a := ⟨b2, 0, none⟩) hb2).trans e2f
  have hFb : b2 ≠ W1.heap.size := by omega
  clear hb2 e2 e2f k0 k1 k3 kX r2 s2
  show Exit.then _ _ Exit.normal _ ((W1.setCell ⟨R, 2, none⟩ (faultV ⟨W1.heap.size, 0, none⟩)).alloc (.cells #[.string bWire, .string call, .int .i64 (max fr (-1)), errV (S c)] 124)).drew
  generalize ((W1.setCell ⟨R, 2, none⟩ (faultV ⟨W1.heap.size, 0, none⟩)).alloc (.cells #[.string bWire, .string call, .int .i64 (max fr (-1)), errV (S c)] 124)).drew = W2 at *
  obtain ⟨k0, -, -, -⟩ := hk
  have r2 : W2.cell? ⟨R, 2, none⟩ = some (faultV ⟨W1.heap.size, 0, none⟩) := (World.own_cell hR2 2 _ rfl).1
  have lR2 := World.block_lt_of_cell? W2 _ r2
  have lb2 := World.block_lt_of_cell? W2 _ q2
  have HF2 := Lib.hid hF2
  have HG2 := Lib.hid hg2
  have HQ2 := Lib.hid q2
  clear hF2 hg2 hR2
  go_wp2_with fail
  refine ⟨rfl, _, rfl, .tuple #[], by simp [results, Tryz.results141], rfl, rfl, faultV ⟨W1.heap.size, 0, none⟩, ?_, ?_, HG2.out.set (.inl (by simp)) _⟩
  · exact World.cell?_setCell_same _ _ _ (by rw [HQ2.out])
  · exact .fault (by rw [World.block_setCell _ _ _ _ (Ne.symm hFb)]; exact HF2.out) (.reason c hc0 hc1)
set_option maxRecDepth 100000 in
set_option maxHeartbeats 1000000 in
theorem reads_ok (h : WR w R a cap l p) (call : ByteArray) (g : FuncId) (caps : Array Value) (ks : List Nat) (hks : ∀ k ∈ ks, k < w.heap.size) (POK : World → Prop)
    (hcf : ∀ W, (callFunc g caps).run Tryz.prog W = .ok (.enter g caps) W) (hdo : ∀ W, Grew w W → Calls Tryz.prog g caps W fun e w' => e = .returned (.tuple #[]) ∧ POK w' ∧ GrewX ks W w') :
    Calls Tryz.prog 90 #[pt R, .string call, .func (.func g) #[] caps] w fun e w' => e = .returned .nilIface ∧ POK w' ∧ GrewX ks w w' := by
  have hmf : ∀ (fn : Fn) (first cap : Array Value) (w : World), (Instr.makeFunc fn first cap).run Tryz.prog w = .ok (.func fn first cap) w := fun _ _ _ _ => rfl
  have q1 : w.cell? ⟨R, 1, none⟩ = some (.int .i64 p) := (World.own_cell h.c 1 _ rfl).1
  have q2 : w.cell? ⟨R, 2, none⟩ = some .nilIface := (World.own_cell h.c 2 _ rfl).1
  have lR : R < w.heap.size := World.block_lt_of_cell? w _ q1
  have q1a : ∀ o1 o2 o3, (((w.alloc o1).alloc o2).alloc o3).cell? ⟨R, 1, none⟩ = some (.int .i64 p) := fun o1 o2 o3 => by rw [((((Grew.refl w).alloc o1).alloc o2).alloc o3).cell lR]; exact q1
  have q2a : ∀ o1 o2 o3, (((w.alloc o1).alloc o2).alloc o3).cell? ⟨R, 2, none⟩ = some .nilIface := fun o1 o2 o3 => by rw [((((Grew.refl w).alloc o1).alloc o2).alloc o3).cell lR]; exact q2
  have H := Lib.hid h
  have HDO := Lib.hid hdo
  clear h hdo
  go_enter_defers Tryz.func90, Tryz.ntmps90
  go_wp2_with fail
  clear q1a q2a hmf
  have hb2 : ∀ o1 o2 o3 o4, ((((w.alloc o1).alloc o2).alloc (.cells #[.nilIface] o3)).alloc o4).heap[w.heap.size + 1 + 1]? = some (.cells #[.nilIface] o3 (0, 0)) := fun o1 o2 o3 o4 => Grew.heap ((Grew.refl _).alloc _) (heap_alloc_at _ _ _ (by simp [go_sem]))
  refine (HDO.out _ (by repeat (first | with_reducible exact HG.out | with_reducible exact Grew.refl _ | with_reducible assumption | with_reducible apply Grew.plus | with_reducible apply Grew.drewN | with_reducible apply Grew.drew | with_reducible apply Grew.alloc | with_reducible refine Grew.setCell ?_ (by simp [go_sem]; try omega) _))).mono ?_
  rintro e w1 ⟨rfl, hp, hg1⟩
  have hg2 : GrewX ks w w1 := (GrewX.of_grew (by exact by repeat (first | with_reducible exact HG.out | with_reducible exact Grew.refl _ | with_reducible assumption | with_reducible apply Grew.plus | with_reducible apply Grew.drewN | with_reducible apply Grew.drew | with_reducible apply Grew.alloc | with_reducible refine Grew.setCell ?_ (by simp [go_sem]; try omega) _))).trans hg1
  have hbx := hg1.heap (hb2 _ _ _ _) (fun hk => by have := hks _ hk; omega)
  obtain ⟨n0, m0⟩ := World.own_cell hbx 0 _ rfl
  simp only [List.getElem_toArray, List.getElem_cons_zero] at n0
  have hlb : w.heap.size + 1 + 1 < w1.heap.size := (Array.getElem?_eq_some_iff.1 hbx).1
  have HX := Lib.hid (And.intro hp hg2)
  clear hb2 hp hg1 hg2 hbx
  go_wp2_with fail
  rw [World.setCell_self n0]
  refine leaves_cons (f := 141) (args := #[pt (w.heap.size + 1 + 1 + 1), pt w.heap.size, pt (w.heap.size + 1), pt (w.heap.size + 1 + 1)]) (by simp) (by simp [go_sem]) ?_
  refine (reads_idle _ _ _ _ _).mono ?_
  rintro e u' w'' ⟨rfl, rfl, rfl⟩
  simp [Leaves, settle, results, Tryz.results90, go_sem, n0]
  exact HX.out
set_option maxRecDepth 100000 in
set_option maxHeartbeats 1000000 in
theorem reads_no (h : WR w R a cap l p) (call : ByteArray) (g : FuncId) (caps : Array Value) (ks : List Nat) (hks : ∀ k ∈ ks, k < w.heap.size) (c : Nat) (hc0 : 1 ≤ c) (hc1 : c ≤ 14)
    (hcf : ∀ W, (callFunc g caps).run Tryz.prog W = .ok (.enter g caps) W) (hdo : ∀ W, Grew w W → Calls Tryz.prog g caps W fun e w' => e = .panicked [{ v := stopV S c, recovered := false }] ∧ GrewX ks W w' ∧ ∃ q : Nat, w'.heap[R]? = some (.cells #[.slice a l.length cap, .int .i64 q, .nilIface] tRd (0, 0))) :
    Calls Tryz.prog 90 #[pt R, .string call, .func (.func g) #[] caps] w fun e w' => ∃ v, e = .returned v ∧ ErrAt S w' (.fault bWire call p (.reason c)) v ∧ GrewX (R :: ks) w w' := by
  have hmf : ∀ (fn : Fn) (first cap : Array Value) (w : World), (Instr.makeFunc fn first cap).run Tryz.prog w = .ok (.func fn first cap) w := fun _ _ _ _ => rfl
  have q1 : w.cell? ⟨R, 1, none⟩ = some (.int .i64 p) := (World.own_cell h.c 1 _ rfl).1
  have q2 : w.cell? ⟨R, 2, none⟩ = some .nilIface := (World.own_cell h.c 2 _ rfl).1
  have lR : R < w.heap.size := World.block_lt_of_cell? w _ q1
  have q1a : ∀ o1 o2 o3, (((w.alloc o1).alloc o2).alloc o3).cell? ⟨R, 1, none⟩ = some (.int .i64 p) := fun o1 o2 o3 => by rw [((((Grew.refl w).alloc o1).alloc o2).alloc o3).cell lR]; exact q1
  have q2a : ∀ o1 o2 o3, (((w.alloc o1).alloc o2).alloc o3).cell? ⟨R, 2, none⟩ = some .nilIface := fun o1 o2 o3 => by rw [((((Grew.refl w).alloc o1).alloc o2).alloc o3).cell lR]; exact q2
  have H := Lib.hid h
  have HDO := Lib.hid hdo
  clear h hdo
  go_enter_defers Tryz.func90, Tryz.ntmps90
  go_wp2_with fail
  clear q1a q2a hmf
  have hb0 : ∀ t o2 o3 o4, ((((w.alloc (.cells #[pt R] t)).alloc o2).alloc o3).alloc o4).heap[w.heap.size]? = some (.cells #[pt R] t (0, 0)) := fun t o2 o3 o4 => Grew.heap ((((Grew.refl _).alloc _).alloc _).alloc _) (heap_alloc_at _ _ _ (by simp [go_sem]))
  have hb1 : ∀ o1 t o3 o4, ((((w.alloc o1).alloc (.cells #[.string call] t)).alloc o3).alloc o4).heap[w.heap.size + 1]? = some (.cells #[.string call] t (0, 0)) := fun o1 t o3 o4 => Grew.heap (((Grew.refl _).alloc _).alloc _) (heap_alloc_at _ _ _ (by simp [go_sem]))
  have hb2 : ∀ o1 o2 o3 o4, ((((w.alloc o1).alloc o2).alloc (.cells #[.nilIface] o3)).alloc o4).heap[w.heap.size + 1 + 1]? = some (.cells #[.nilIface] o3 (0, 0)) := fun o1 o2 o3 o4 => Grew.heap ((Grew.refl _).alloc _) (heap_alloc_at _ _ _ (by simp [go_sem]))
  have hb3 : ∀ o1 o2 o3 t, ((((w.alloc o1).alloc o2).alloc o3).alloc (.cells #[.int .i64 p] t)).heap[w.heap.size + 1 + 1 + 1]? = some (.cells #[.int .i64 p] t (0, 0)) := fun o1 o2 o3 t => heap_alloc_at _ _ _ (by simp [go_sem])
  refine (HDO.out _ (by repeat (first | with_reducible exact HG.out | with_reducible exact Grew.refl _ | with_reducible assumption | with_reducible apply Grew.plus | with_reducible apply Grew.drewN | with_reducible apply Grew.drew | with_reducible apply Grew.alloc | with_reducible refine Grew.setCell ?_ (by simp [go_sem]; try omega) _))).mono ?_
  rintro e w1 ⟨rfl, hg1, q, hR1⟩
  have hg2 : GrewX ks w w1 := (GrewX.of_grew (by exact by repeat (first | with_reducible exact HG.out | with_reducible exact Grew.refl _ | with_reducible assumption | with_reducible apply Grew.plus | with_reducible apply Grew.drewN | with_reducible apply Grew.drew | with_reducible apply Grew.alloc | with_reducible refine Grew.setCell ?_ (by simp [go_sem]; try omega) _))).trans hg1
  have c0 := (World.own_cell (hg1.heap (hb0 _ _ _ _) (fun hk => by have := hks _ hk; omega)) 0 _ rfl).1
  have c1 := (World.own_cell (hg1.heap (hb1 _ _ _ _) (fun hk => by have := hks _ hk; omega)) 0 _ rfl).1
  have c2 := World.own_cell (hg1.heap (hb2 _ _ _ _) (fun hk => by have := hks _ hk; omega)) 0 _ rfl
  have c3 := (World.own_cell (hg1.heap (hb3 _ _ _ _) (fun hk => by have := hks _ hk; omega)) 0 _ rfl).1
  have RS := reads_stop (S := S) (older := []) hc0 hc1 c0 c1 c2.1 c2.2 c3 hR1 (by omega) (by omega) (by omega) (by omega) (by omega) (by omega) (by omega)
  have HG2 := Lib.hid hg2
  clear hb0 hb1 hb2 hb3 hg1 hg2 hR1 c0 c1 c2 c3
  show bodyPostD _ _ _ _ _ _
  refine leaves_cons (f := 141) (args := #[pt (w.heap.size + 1 + 1 + 1), pt w.heap.size, pt (w.heap.size + 1), pt (w.heap.size + 1 + 1)]) (by simp) (by simp [go_sem]) ?_
  refine RS.mono ?_
  rintro e u' w'' ⟨rfl, rfl, v, hv, he, hg⟩
  have hgx : GrewX (R :: ks) w w'' := ((HG2.out.mono (ks' := R :: (w.heap.size + 1 + 1) :: ks) (fun k hk => by simp [hk])).trans (hg.mono (ks' := R :: (w.heap.size + 1 + 1) :: ks) (fun k hk => by simp at hk ⊢; rcases hk with hk | hk <;> simp [hk]))).fresh (ks' := R :: ks) (fun k hk => by
    simp only [List.mem_cons] at hk ⊢
    rcases hk with hk | hk | hk
    · exact .inl (.inl hk)
    · exact .inr (by omega)
    · exact .inl (.inr hk))
  rw [show max (p : Int) (-1) = p by omega] at he
  simp [Leaves, settle, results, Tryz.results90, go_sem, hv]
  exact ⟨he, hgx⟩
end
end Go.Proofs.YtnhmekdnfinmiaaGreatDoor
/- Walks: wire's reader's calls: Number, Count, Byte, End, At. -/
namespace Go.Proofs.YtnhmekdnfinmiaaGreatDoor
open Go.RowKit Go.Par
set_option linter.unusedSimpArgs false
set_option linter.unusedVariables false
def WhyAt (S : Nat → Addr) (w : World) (r : Ref) (v : Value) : Prop := match r with
  | .wire c p k => 1 ≤ k ∧ k ≤ 13 ∧ ErrAt S w (.fault bWire c p (.reason k)) v
  | .form _ => ErrAt S w (.reason 6) v
theorem WhyAt.grew {S : Nat → Addr} {w w' : World} {r : Ref} {v : Value} (h : WhyAt S w r v) (g : Grew w w') : WhyAt S w' r v := by
  cases r with
  | wire c p k => exact ⟨h.1, h.2.1, h.2.2.grew g⟩
  | form p => exact ErrAt.grew g h
def WPost {α : Type} (S : Nat → Addr) (R : Nat) (a : Option Addr) (cap : Nat) (l : List UInt8) (enc : α → Value) (zero : Value) (r : Except Ref (α × Nat)) (e : Ending) (w' : World) : Prop := match r with
  | .ok (x, q) => e = .returned (.tuple #[enc x, .nilIface]) ∧ WR w' R a cap l q
  | .error r => ∃ v, e = .returned (.tuple #[zero, v]) ∧ WhyAt S w' r v
abbrev encN (n : Nat) : Value := .int .i64 n
section
variable {S : Nat → Addr} {w0 w : World} {R : Nat} {a : Option Addr} {cap : Nat} {l : List UInt8} {p : Nat}
theorem wire_at (h : WR w R a cap l p) : Calls Tryz.prog 58 #[pt R] w fun e w' => e = .returned (.int .i64 p) ∧ w = w' := by
  have q1 : w.cell? ⟨R, 1, none⟩ = some (.int .i64 p) := (World.own_cell h.c 1 _ rfl).1
  go_enter Tryz.func58, Tryz.ntmps58
  go_wp2
  go_ret
  exact ⟨rfl, rfl⟩
set_option maxRecDepth 100000 in
theorem number_cl (hS : Sents S w0) (hg0 : Grew w0 w) (hR0 : w0.heap.size ≤ R) (h : WR w R a cap l p) {b0 b1 b2 : Nat} (m : Int) (hm : 0 ≤ m) (hm2 : m ≤ 9223372036854775807)
    (c0 : w.cell? ⟨b0, 0, none⟩ = some (pt R)) (c1 : w.cell? ⟨b1, 0, none⟩ = some (.int .i64 m)) (hb2 : w.heap[b2]? = some (.cells #[.int .i64 0] 3 (0, 0))) (n2 : b2 ≠ R) (na : ∀ q, a = some q → q.block ≠ b2) :
    Calls Tryz.prog 139 #[pt b0, pt b1, pt b2] w fun e w' => match scan l m 9 0 0 p with
      | .ok (n, q) => GrewX [R, b2] w w' ∧ e = .returned (.tuple #[]) ∧ WR w' R a cap l q ∧ w'.heap[b2]? = some (.cells #[.int .i64 n] 3 (0, 0))
      | .error c => GrewX [R] w w' ∧ e = .panicked [{ v := stopV S c, recovered := false }] ∧ ∃ q, WR w' R a cap l q := by
  have WN := Lib.hid (wire_num hS hg0 hR0 h m hm hm2)
  have HB2 := Lib.hid hb2
  clear hb2
  cases hsc : scan l m 9 0 0 p with
  | error c =>
    rw [hsc] at WN
    clear hsc
    go_enter Tryz.func139, Tryz.ntmps139
    go_wp2_with (go_at_call 92; refine WN.out.mono ?_; rintro e w1 ⟨hg1, rfl, hc0, hc1, hq⟩)
    exact ⟨rfl, hg1, rfl, hq⟩
  | ok x =>
    obtain ⟨n, q⟩ := x
    rw [hsc] at WN
    clear hsc
    go_enter Tryz.func139, Tryz.ntmps139
    go_wp2_with (go_at_call 92; refine WN.out.mono ?_; rintro e w1 ⟨hg1, rfl, hn9, hr1⟩; have hbx := hg1.heap HB2.out (by simpa using n2); obtain ⟨k0, m0⟩ := World.own_cell hbx 0 _ rfl; have hlb : b2 < w1.heap.size := (Array.getElem?_eq_some_iff.1 hbx).1; have HX := Lib.hid (And.intro hg1 (And.intro hr1 hbx)); clear hg1 hr1 hbx)
    obtain ⟨hg1, hr1, hbx⟩ := HX.out
    go_end0
    exact ⟨(hg1.mono (by simp)).set (.inl (by simp)) _, rfl, hr1.grewX (ks := [b2]) ((GrewX.refl _ _).set (.inl (by simp)) _) (by simpa using Ne.symm n2) (fun q hq => by simpa using na q hq), World.own_set2 hbx 0 _ _ rfl⟩
set_option maxRecDepth 100000 in
set_option maxHeartbeats 1000000 in
theorem wire_Number (hS : Sents S w0) (hg0 : Grew w0 w) (hR0 : w0.heap.size ≤ R) (h : WR w R a cap l p) (ha : ∀ q, a = some q → q.block < w.heap.size) (m : Int) (hm : 0 ≤ m) (hm2 : m ≤ 9223372036854775807) :
    Calls Tryz.prog 86 #[pt R, .int .i64 m] w fun e w' => GrewX [R] w w' ∧ WPost S R a cap l encN (.int .i64 0) (wNumber l m p) e w' := by
  have hmf : ∀ (fn : Fn) (first cap : Array Value) (w : World), (Instr.makeFunc fn first cap).run Tryz.prog w = .ok (.func fn first cap) w := fun _ _ _ _ => rfl
  have hcf : ∀ (caps : Array Value) W, (callFunc 139 caps).run Tryz.prog W = .ok (.enter 139 caps) W := fun caps W => MuLone.run_callFunc_enter Tryz.func139 (by kernel_rfl) rfl _ W
  have HCF := Lib.hid hcf
  have lR : R < w.heap.size := (Array.getElem?_eq_some_iff.1 h.c).1
  have H := Lib.hid h
  have HA := Lib.hid ha
  have HS := Lib.hid hS
  have HG0 := Lib.hid hg0
  clear h ha hS hg0 hcf
  go_enter Tryz.func86, Tryz.ntmps86
  go_wp2_with fail
  clear hmf
  have hb0 : (((w.alloc (.cells #[pt R] 81)).alloc (.cells #[.int .i64 m] 3)).alloc (.cells #[.int .i64 0] 3)).heap[w.heap.size]? = some (.cells #[pt R] 81 (0, 0)) := Grew.heap (((Grew.refl _).alloc _).alloc _) (heap_alloc_at _ _ _ rfl)
  have hb1 : (((w.alloc (.cells #[pt R] 81)).alloc (.cells #[.int .i64 m] 3)).alloc (.cells #[.int .i64 0] 3)).heap[w.heap.size + 1]? = some (.cells #[.int .i64 m] 3 (0, 0)) := Grew.heap ((Grew.refl _).alloc _) (heap_alloc_at _ _ _ (by simp [go_sem]))
  have hb2 : (((w.alloc (.cells #[pt R] 81)).alloc (.cells #[.int .i64 m] 3)).alloc (.cells #[.int .i64 0] 3)).heap[w.heap.size + 1 + 1]? = some (.cells #[.int .i64 0] 3 (0, 0)) := heap_alloc_at _ _ _ (by simp [go_sem])
  have hgw : Grew w (((w.alloc (.cells #[pt R] 81)).alloc (.cells #[.int .i64 m] 3)).alloc (.cells #[.int .i64 0] 3)) := by repeat (first | with_reducible exact HG.out | with_reducible exact Grew.refl _ | with_reducible assumption | with_reducible apply Grew.plus | with_reducible apply Grew.drewN | with_reducible apply Grew.drew | with_reducible apply Grew.alloc | with_reducible refine Grew.setCell ?_ (by simp [go_sem]; try omega) _)
  have hsz : (((w.alloc (.cells #[pt R] 81)).alloc (.cells #[.int .i64 m] 3)).alloc (.cells #[.int .i64 0] 3)).heap.size = w.heap.size + 1 + 1 + 1 := by simp [go_sem]
  generalize (((w.alloc (.cells #[pt R] 81)).alloc (.cells #[.int .i64 m] 3)).alloc (.cells #[.int .i64 0] 3)) = W3 at *
  have hdo : ∀ W, Grew W3 W → Calls Tryz.prog 139 #[pt w.heap.size, pt (w.heap.size + 1), pt (w.heap.size + 1 + 1)] W fun e w' => match scan l m 9 0 0 p with
      | .ok (n, q) => GrewX [R, w.heap.size + 1 + 1] W w' ∧ e = .returned (.tuple #[]) ∧ WR w' R a cap l q ∧ w'.heap[w.heap.size + 1 + 1]? = some (.cells #[.int .i64 n] 3 (0, 0))
      | .error c => GrewX [R] W w' ∧ e = .panicked [{ v := stopV S c, recovered := false }] ∧ ∃ q, WR w' R a cap l q := fun W hW =>
    number_cl HS.out ((HG0.out.trans hgw).trans hW) hR0 (H.out.grew (hgw.trans hW)) m hm hm2 (World.own_cell (Grew.heap hW hb0) 0 _ rfl).1 (World.own_cell (Grew.heap hW hb1) 0 _ rfl).1 (Grew.heap hW hb2) (by omega) (fun q hq => by have := HA.out q hq; omega)
  have hks : ∀ k ∈ [R, w.heap.size + 1 + 1], k < W3.heap.size := fun k hk => by simp at hk; omega
  have HF : ∀ w' : World, GrewX [R, w.heap.size + 1 + 1] W3 w' → GrewX [R] w w' := fun w' hg => ((GrewX.of_grew (ks := [R, w.heap.size + 1 + 1]) hgw).trans hg).fresh (fun k hk => by
    rcases List.mem_cons.1 hk with rfl | hk
    · exact .inl (by simp)
    · exact .inr (by have := List.mem_singleton.1 hk; omega))
  cases hsc : scan l m 9 0 0 p with
  | error c =>
    simp only [hsc] at hdo
    have hcc := scan_code _ _ _ _ _ _ _ hsc
    have hks1 : ∀ k ∈ [R], k < W3.heap.size := fun k hk => hks k (by simp at hk; simp [hk])
    have RN := reads_no (S := S) (H.out.grew hgw) bNumber 139 _ _ hks1 c (by omega) (by omega) (HCF.out _) (fun W hW => (hdo W hW).mono fun e w' ⟨h1, h2, q, h5⟩ => ⟨h2, h1, q, h5.c⟩)
    have HB2 := Lib.hid hb2
    have HGW := Lib.hid hgw
    clear hdo hb0 hb1 hb2 hgw HF
    refine RN.mono ?_
    rintro e w1 ⟨v, rfl, he, hg1⟩
    have hbx := hg1.heap HB2.out (by simp; omega)
    obtain ⟨n0, m0⟩ := World.own_cell hbx 0 _ rfl
    simp only [List.getElem_toArray, List.getElem_cons_zero] at n0
    have hlb : w.heap.size + 1 + 1 < w1.heap.size := (Array.getElem?_eq_some_iff.1 hbx).1
    have HX := Lib.hid (And.intro he hg1)
    clear RN he hg1 hbx
    go_wp2_with fail
    rw [World.setCell_self n0]
    exact bodyPost_ret (v := .tuple #[.int .i64 0, v]) (by simp [results, Tryz.results86, go_sem, n0]) rfl ⟨((GrewX.of_grew (ks := [R]) HGW.out).trans (HX.out.2.mono (by simp))), by unfold wNumber; rw [hsc]; exact ⟨v, rfl, by omega, by omega, HX.out.1⟩⟩
  | ok x =>
    obtain ⟨n, q⟩ := x
    simp only [hsc] at hdo
    have RO := reads_ok (H.out.grew hgw) bNumber 139 _ _ hks (fun w' => WR w' R a cap l q ∧ w'.heap[w.heap.size + 1 + 1]? = some (.cells #[.int .i64 n] 3 (0, 0))) (HCF.out _) (fun W hW => (hdo W hW).mono fun e w' ⟨h1, h2, h3, h4⟩ => ⟨h2, ⟨h3, h4⟩, h1⟩)
    have HFF := Lib.hid HF
    clear hdo hb0 hb1 hb2 hgw HF
    refine RO.mono ?_
    rintro e w1 ⟨rfl, ⟨hr1, hbx⟩, hg1⟩
    obtain ⟨n0, m0⟩ := World.own_cell hbx 0 _ rfl
    simp only [List.getElem_toArray, List.getElem_cons_zero] at n0
    have hlb : w.heap.size + 1 + 1 < w1.heap.size := (Array.getElem?_eq_some_iff.1 hbx).1
    have HX := Lib.hid (And.intro hr1 hg1)
    clear RO hr1 hg1 hbx
    go_wp2_with fail
    rw [World.setCell_self n0]
    exact bodyPost_ret (v := .tuple #[encN n, .nilIface]) (by simp [results, Tryz.results86, go_sem, n0, encN]) rfl ⟨HFF.out _ HX.out.2, by unfold wNumber; rw [hsc]; exact ⟨rfl, HX.out.1⟩⟩
end
end Go.Proofs.YtnhmekdnfinmiaaGreatDoor
/- Walks: wire's reader's calls: Byte, End. -/
namespace Go.Proofs.YtnhmekdnfinmiaaGreatDoor
open Go.RowKit Go.Par
set_option linter.unusedSimpArgs false
set_option linter.unusedVariables false
abbrev encB (b : UInt8) : Value := .int .u8 b.toNat
section
variable {S : Nat → Addr} {w0 w : World} {R : Nat} {a : Option Addr} {cap : Nat} {l : List UInt8} {p : Nat}
set_option maxRecDepth 100000 in
theorem byte_cl (hS : Sents S w) (h : WR w R a cap l p) {b0 b1 : Nat}
    (c0 : w.cell? ⟨b0, 0, none⟩ = some (pt R)) (hb1 : w.heap[b1]? = some (.cells #[.int .u8 0] 5 (0, 0))) (n1 : b1 ≠ R) (na : ∀ q, a = some q → q.block ≠ b1) :
    Calls Tryz.prog 137 #[pt b0, pt b1] w fun e w' => match l[p]? with
      | some b => GrewX [R, b1] w w' ∧ e = .returned (.tuple #[]) ∧ WR w' R a cap l (p + 1) ∧ w'.heap[b1]? = some (.cells #[encB b] 5 (0, 0))
      | none => GrewX [R] w w' ∧ e = .panicked [{ v := stopV S 7, recovered := false }] ∧ ∃ q, WR w' R a cap l q := by
  have H := Lib.hid h
  have HS := Lib.hid hS
  have HB1 := Lib.hid hb1
  clear hb1 h hS
  cases hsc : l[p]? with
  | none =>
    go_enter Tryz.func137, Tryz.ntmps137
    go_wp2_with (go_at_call 138; refine (wire_byte_none HS.out H.out hsc).mono ?_; rintro e w1 ⟨rfl, gx, rfl⟩)
    exact ⟨rfl, GrewX.of_grew (by repeat (first | with_reducible exact HG.out | with_reducible exact Grew.refl _ | with_reducible assumption | with_reducible apply Grew.plus | with_reducible apply Grew.drewN | with_reducible apply Grew.drew | with_reducible apply Grew.alloc | with_reducible refine Grew.setCell ?_ (by simp [go_sem]; try omega) _)), rfl, p, H.out.grew (by repeat (first | with_reducible exact HG.out | with_reducible exact Grew.refl _ | with_reducible assumption | with_reducible apply Grew.plus | with_reducible apply Grew.drewN | with_reducible apply Grew.drew | with_reducible apply Grew.alloc | with_reducible refine Grew.setCell ?_ (by simp [go_sem]; try omega) _))⟩
  | some b =>
    go_enter Tryz.func137, Tryz.ntmps137
    go_wp2_with (go_at_call 138; refine (wire_byte_some H.out b hsc).mono ?_; rintro e w1 ⟨rfl, hr1, hg1⟩; have hbx := hg1.heap HB1.out (by simpa using n1); obtain ⟨k0, m0⟩ := World.own_cell hbx 0 _ rfl; have hlb : b1 < w1.heap.size := (Array.getElem?_eq_some_iff.1 hbx).1; have HX := Lib.hid (And.intro hg1 (And.intro hr1 hbx)); clear hg1 hr1 hbx)
    obtain ⟨hg1, hr1, hbx⟩ := HX.out
    go_end0
    exact ⟨(hg1.mono (by simp)).set (.inl (by simp)) _, rfl, hr1.grewX (ks := [b1]) ((GrewX.refl _ _).set (.inl (by simp)) _) (by simpa using Ne.symm n1) (fun q hq => by simpa using na q hq), World.own_set2 hbx 0 _ _ rfl⟩
set_option maxRecDepth 100000 in
set_option maxHeartbeats 1000000 in
theorem wire_Byte (hS : Sents S w0) (hg0 : Grew w0 w) (hR0 : w0.heap.size ≤ R) (h : WR w R a cap l p) (ha : ∀ q, a = some q → q.block < w.heap.size) :
    Calls Tryz.prog 85 #[pt R] w fun e w' => GrewX [R] w w' ∧ WPost S R a cap l encB (.int .u8 0) (wByte l p) e w' := by
  have hmf : ∀ (fn : Fn) (first cap : Array Value) (w : World), (Instr.makeFunc fn first cap).run Tryz.prog w = .ok (.func fn first cap) w := fun _ _ _ _ => rfl
  have hcf : ∀ (caps : Array Value) W, (callFunc 137 caps).run Tryz.prog W = .ok (.enter 137 caps) W := fun caps W => MuLone.run_callFunc_enter Tryz.func137 (by kernel_rfl) rfl _ W
  have HCF := Lib.hid hcf
  have lR : R < w.heap.size := (Array.getElem?_eq_some_iff.1 h.c).1
  have H := Lib.hid h
  have HA := Lib.hid ha
  have HS := Lib.hid hS
  have HG0 := Lib.hid hg0
  clear h ha hS hg0 hcf
  go_enter Tryz.func85, Tryz.ntmps85
  go_wp2_with fail
  clear hmf
  have hb0 : ((w.alloc (.cells #[pt R] 81)).alloc (.cells #[.int .u8 0] 5)).heap[w.heap.size]? = some (.cells #[pt R] 81 (0, 0)) := Grew.heap ((Grew.refl _).alloc _) (heap_alloc_at _ _ _ rfl)
  have hb1 : ((w.alloc (.cells #[pt R] 81)).alloc (.cells #[.int .u8 0] 5)).heap[w.heap.size + 1]? = some (.cells #[.int .u8 0] 5 (0, 0)) := heap_alloc_at _ _ _ (by simp [go_sem])
  have hgw : Grew w ((w.alloc (.cells #[pt R] 81)).alloc (.cells #[.int .u8 0] 5)) := by repeat (first | with_reducible exact HG.out | with_reducible exact Grew.refl _ | with_reducible assumption | with_reducible apply Grew.plus | with_reducible apply Grew.drewN | with_reducible apply Grew.drew | with_reducible apply Grew.alloc | with_reducible refine Grew.setCell ?_ (by simp [go_sem]; try omega) _)
  have hsz : ((w.alloc (.cells #[pt R] 81)).alloc (.cells #[.int .u8 0] 5)).heap.size = w.heap.size + 1 + 1 := by simp [go_sem]
  generalize ((w.alloc (.cells #[pt R] 81)).alloc (.cells #[.int .u8 0] 5)) = W3 at *
  have hdo : ∀ W, Grew W3 W → Calls Tryz.prog 137 #[pt w.heap.size, pt (w.heap.size + 1)] W fun e w' => match l[p]? with
      | some b => GrewX [R, w.heap.size + 1] W w' ∧ e = .returned (.tuple #[]) ∧ WR w' R a cap l (p + 1) ∧ w'.heap[w.heap.size + 1]? = some (.cells #[encB b] 5 (0, 0))
      | none => GrewX [R] W w' ∧ e = .panicked [{ v := stopV S 7, recovered := false }] ∧ ∃ q, WR w' R a cap l q := fun W hW =>
    byte_cl (HS.out.grew ((HG0.out.trans hgw).trans hW)) (H.out.grew (hgw.trans hW)) (World.own_cell (Grew.heap hW hb0) 0 _ rfl).1 (Grew.heap hW hb1) (by omega) (fun q hq => by have := HA.out q hq; omega)
  have hks : ∀ k ∈ [R, w.heap.size + 1], k < W3.heap.size := fun k hk => by simp at hk; omega
  have HF : ∀ w' : World, GrewX [R, w.heap.size + 1] W3 w' → GrewX [R] w w' := fun w' hg => ((GrewX.of_grew (ks := [R, w.heap.size + 1]) hgw).trans hg).fresh (fun k hk => by
    rcases List.mem_cons.1 hk with rfl | hk
    · exact .inl (by simp)
    · exact .inr (by have := List.mem_singleton.1 hk; omega))
  cases hsc : l[p]? with
  | none =>
    simp only [hsc] at hdo
    have hks1 : ∀ k ∈ [R], k < W3.heap.size := fun k hk => hks k (by simp at hk; simp [hk])
    have RN := reads_no (S := S) (H.out.grew hgw) bByte 137 _ _ hks1 7 (by omega) (by omega) (HCF.out _) (fun W hW => (hdo W hW).mono fun e w' ⟨h1, h2, q, h5⟩ => ⟨h2, h1, q, h5.c⟩)
    have HB2 := Lib.hid hb1
    have HGW := Lib.hid hgw
    clear hdo hb0 hb1 hgw HF
    refine RN.mono ?_
    rintro e w1 ⟨v, rfl, he, hg1⟩
    have hbx := hg1.heap HB2.out (by simp; omega)
    obtain ⟨n0, m0⟩ := World.own_cell hbx 0 _ rfl
    simp only [List.getElem_toArray, List.getElem_cons_zero] at n0
    have hlb : w.heap.size + 1 < w1.heap.size := (Array.getElem?_eq_some_iff.1 hbx).1
    have HX := Lib.hid (And.intro he hg1)
    clear RN he hg1 hbx
    go_wp2_with fail
    rw [World.setCell_self n0]
    exact bodyPost_ret (v := .tuple #[.int .u8 0, v]) (by simp [results, Tryz.results85, go_sem, n0]) rfl ⟨((GrewX.of_grew (ks := [R]) HGW.out).trans (HX.out.2.mono (by simp))), by unfold wByte; rw [hsc]; exact ⟨v, rfl, by omega, by omega, HX.out.1⟩⟩
  | some b =>
    simp only [hsc] at hdo
    have RO := reads_ok (H.out.grew hgw) bByte 137 _ _ hks (fun w' => WR w' R a cap l (p + 1) ∧ w'.heap[w.heap.size + 1]? = some (.cells #[encB b] 5 (0, 0))) (HCF.out _) (fun W hW => (hdo W hW).mono fun e w' ⟨h1, h2, h3, h4⟩ => ⟨h2, ⟨h3, h4⟩, h1⟩)
    have HFF := Lib.hid HF
    clear hdo hb0 hb1 hgw HF
    refine RO.mono ?_
    rintro e w1 ⟨rfl, ⟨hr1, hbx⟩, hg1⟩
    obtain ⟨n0, m0⟩ := World.own_cell hbx 0 _ rfl
    simp only [List.getElem_toArray, List.getElem_cons_zero, encB] at n0
    have hlb : w.heap.size + 1 < w1.heap.size := (Array.getElem?_eq_some_iff.1 hbx).1
    have HX := Lib.hid (And.intro hr1 hg1)
    clear RO hr1 hg1 hbx
    go_wp2_with fail
    rw [World.setCell_self n0]
    exact bodyPost_ret (v := .tuple #[encB b, .nilIface]) (by simp [results, Tryz.results85, go_sem, n0, encB]) rfl ⟨HFF.out _ HX.out.2, by unfold wByte; rw [hsc]; exact ⟨rfl, HX.out.1⟩⟩
theorem end_cl (hS : Sents S w) (h : WR w R a cap l p) {b0 : Nat} (c0 : w.cell? ⟨b0, 0, none⟩ = some (pt R)) :
    Calls Tryz.prog 94 #[pt b0] w fun e w' => Grew w w' ∧ if p < l.length then e = .panicked [{ v := stopV S 6, recovered := false }] else e = .returned (.tuple #[]) := by
  have HL := Lib.hid (wire_left h)
  have hl := h.len
  have hp := h.le
  have s6 := hS.s6
  have l6 : 5 < w.heap.size := World.block_lt_of_cell? w _ s6
  clear h hS
  by_cases hlt : p < l.length
  · simp only [if_pos hlt]
    have h0 : (0 : Int) < (l.length : Int) - p := by omega
    go_enter Tryz.func94, Tryz.ntmps94
    go_wp2_with (go_at_call 93; refine HL.out.mono ?_; rintro e w' ⟨rfl, gx, rfl⟩)
    exact ⟨rfl, by repeat (first | with_reducible exact HG.out | with_reducible exact Grew.refl _ | with_reducible assumption | with_reducible apply Grew.plus | with_reducible apply Grew.drewN | with_reducible apply Grew.drew | with_reducible apply Grew.alloc | with_reducible refine Grew.setCell ?_ (by simp [go_sem]; try omega) _), rfl⟩
  · simp only [if_neg hlt]
    have h0 : ¬ (0 : Int) < (l.length : Int) - p := by omega
    go_enter Tryz.func94, Tryz.ntmps94
    go_wp2_with (go_at_call 93; refine HL.out.mono ?_; rintro e w' ⟨rfl, gx, rfl⟩)
    go_end0
    exact ⟨by repeat (first | with_reducible exact HG.out | with_reducible exact Grew.refl _ | with_reducible assumption | with_reducible apply Grew.plus | with_reducible apply Grew.drewN | with_reducible apply Grew.drew | with_reducible apply Grew.alloc | with_reducible refine Grew.setCell ?_ (by simp [go_sem]; try omega) _), rfl⟩
set_option maxRecDepth 100000 in
set_option maxHeartbeats 1000000 in
theorem wire_End (hS : Sents S w0) (hg0 : Grew w0 w) (h : WR w R a cap l p) :
    Calls Tryz.prog 61 #[pt R] w fun e w' => GrewX [R] w w' ∧ if p < l.length then (∃ v, e = .returned v ∧ WhyAt S w' (.wire bEnd p 6) v) else e = .returned .nilIface := by
  have hmf : ∀ (fn : Fn) (first cap : Array Value) (w : World), (Instr.makeFunc fn first cap).run Tryz.prog w = .ok (.func fn first cap) w := fun _ _ _ _ => rfl
  have hcf : ∀ (caps : Array Value) W, (callFunc 94 caps).run Tryz.prog W = .ok (.enter 94 caps) W := fun caps W => MuLone.run_callFunc_enter Tryz.func94 (by kernel_rfl) rfl _ W
  have HCF := Lib.hid hcf
  have lR : R < w.heap.size := (Array.getElem?_eq_some_iff.1 h.c).1
  have H := Lib.hid h
  have HS := Lib.hid hS
  have HG0 := Lib.hid hg0
  clear h hS hg0 hcf
  go_enter Tryz.func61, Tryz.ntmps61
  go_wp2_with fail
  clear hmf
  have hb0 : (w.alloc (.cells #[pt R] 81)).heap[w.heap.size]? = some (.cells #[pt R] 81 (0, 0)) := heap_alloc_at _ _ _ rfl
  have hgw : Grew w (w.alloc (.cells #[pt R] 81)) := by repeat (first | with_reducible exact HG.out | with_reducible exact Grew.refl _ | with_reducible assumption | with_reducible apply Grew.plus | with_reducible apply Grew.drewN | with_reducible apply Grew.drew | with_reducible apply Grew.alloc | with_reducible refine Grew.setCell ?_ (by simp [go_sem]; try omega) _)
  have hsz : (w.alloc (.cells #[pt R] 81)).heap.size = w.heap.size + 1 := by simp [go_sem]
  generalize (w.alloc (.cells #[pt R] 81)) = W3 at *
  have hdo := fun W (hW : Grew W3 W) => end_cl (HS.out.grew ((HG0.out.trans hgw).trans hW)) (H.out.grew (hgw.trans hW)) (World.own_cell (Grew.heap hW hb0) 0 _ rfl).1
  have HGW := Lib.hid hgw
  by_cases hlt : p < l.length
  · simp only [if_pos hlt] at hdo ⊢
    have RN := reads_no (S := S) (H.out.grew hgw) bEnd 94 _ [] (by simp) 6 (by omega) (by omega) (HCF.out _) (fun W hW => (hdo W hW).mono fun e w' ⟨h1, h2⟩ => ⟨h2, GrewX.of_grew h1, p, (H.out.grew ((hgw.trans hW).trans h1)).c⟩)
    clear hdo hb0 hgw
    refine RN.mono ?_
    rintro e w1 ⟨v, rfl, he, hg1⟩
    have HX := Lib.hid (And.intro he hg1)
    clear RN he hg1
    go_wp2_with fail
    go_ret
    exact ⟨(GrewX.of_grew HGW.out).trans HX.out.2, ⟨_, rfl, by omega, by omega, HX.out.1⟩⟩
  · simp only [if_neg hlt] at hdo ⊢
    have RO := reads_ok (H.out.grew hgw) bEnd 94 _ [] (by simp) (fun _ => True) (HCF.out _) (fun W hW => (hdo W hW).mono fun e w' ⟨h1, h2⟩ => ⟨h2, trivial, GrewX.of_grew h1⟩)
    clear hdo hb0 hgw
    refine RO.mono ?_
    rintro e w1 ⟨rfl, -, hg1⟩
    have HX := Lib.hid hg1
    clear RO hg1
    go_wp2_with fail
    go_ret
    exact ⟨(GrewX.of_grew HGW.out).trans (HX.out.mono (by simp)), rfl⟩
end
end Go.Proofs.YtnhmekdnfinmiaaGreatDoor
/- Walks: wire's reader's calls: Count. -/
namespace Go.Par
def cnt (l : List UInt8) (least : Nat) (m : Int) (p : Nat) : Except Nat (Nat × Nat) := match scan l m 9 0 0 p with
  | .ok (n, q) => if (l.length - q) / max least 1 < n then .error 7 else .ok (n, q)
  | .error c => .error c
theorem wCount_cnt (l : List UInt8) (least : Nat) (m : Int) (p : Nat) : wCount l least m p = match cnt l least m p with
    | .ok x => .ok x
    | .error c => .error (.wire bCount p c) := by
  unfold wCount cnt
  cases scan l m 9 0 0 p with
  | error c => rfl
  | ok x =>
    obtain ⟨n, q⟩ := x
    simp only
    split <;> rfl
theorem cnt_code (l : List UInt8) (least : Nat) (m : Int) (p c : Nat) (h : cnt l least m p = .error c) : c = 2 ∨ c = 6 ∨ c = 7 := by
  unfold cnt at h
  cases hs : scan l m 9 0 0 p with
  | error c' => rw [hs] at h; cases h; exact scan_code _ _ _ _ _ _ _ hs
  | ok x =>
    rw [hs] at h
    simp only at h
    split at h <;> cases h
    simp
end Go.Par
namespace Go.Proofs.YtnhmekdnfinmiaaGreatDoor
open Go.RowKit Go.Par
set_option linter.unusedSimpArgs false
set_option linter.unusedVariables false
section
variable {S : Nat → Addr} {w0 w : World} {R : Nat} {a : Option Addr} {cap : Nat} {l : List UInt8} {p : Nat}
set_option maxRecDepth 100000 in
set_option maxHeartbeats 1000000 in
theorem count_cl (hS : Sents S w0) (hg0 : Grew w0 w) (hR0 : w0.heap.size ≤ R) (h : WR w R a cap l p) {b0 b1 b2 b3 : Nat} (least : Nat) (hl1 : 1 ≤ least) (hl4 : least ≤ 4) (m : Int) (hm : 0 ≤ m) (hm2 : m ≤ 9223372036854775807)
    (c0 : w.cell? ⟨b0, 0, none⟩ = some (pt R)) (c1 : w.cell? ⟨b1, 0, none⟩ = some (.int .i64 least)) (c2 : w.cell? ⟨b2, 0, none⟩ = some (.int .i64 m)) (hb3 : w.heap[b3]? = some (.cells #[.int .i64 0] 3 (0, 0))) (n0 : b0 ≠ R) (n1 : b1 ≠ R) (n3 : b3 ≠ R) (na : ∀ q, a = some q → q.block ≠ b3) :
    Calls Tryz.prog 140 #[pt b0, pt b2, pt b1, pt b3] w fun e w' => match cnt l least m p with
      | .ok (n, q) => GrewX [R, b3] w w' ∧ e = .returned (.tuple #[]) ∧ WR w' R a cap l q ∧ w'.heap[b3]? = some (.cells #[.int .i64 n] 3 (0, 0))
      | .error c => GrewX [R] w w' ∧ e = .panicked [{ v := stopV S c, recovered := false }] ∧ ∃ q, WR w' R a cap l q := by
  have WN := Lib.hid (wire_num hS hg0 hR0 h m hm hm2)
  have HB3 := Lib.hid hb3
  have HS := Lib.hid hS
  have HG0 := Lib.hid hg0
  have lb0 : b0 < w.heap.size := World.block_lt_of_cell? w _ c0
  have lb1 : b1 < w.heap.size := World.block_lt_of_cell? w _ c1
  have lb3 : b3 < w.heap.size := (Array.getElem?_eq_some_iff.1 hb3).1
  clear hb3 hS hg0 h
  unfold cnt
  cases hsc : scan l m 9 0 0 p with
  | error c =>
    rw [hsc] at WN
    clear hsc
    go_enter Tryz.func140, Tryz.ntmps140
    go_wp2_with (go_at_call 92; refine WN.out.mono ?_; rintro e w1 ⟨hg1, rfl, hc0, hc1, hq⟩)
    exact ⟨rfl, hg1, rfl, hq⟩
  | ok x =>
    obtain ⟨n, q⟩ := x
    rw [hsc] at WN
    clear hsc
    simp only
    generalize hd : (l.length - q) / max least 1 = d
    by_cases hlt : d < n
    · simp only [if_pos hlt]
      have hlt2 : (d : Int) < n := by omega
      go_enter Tryz.func140, Tryz.ntmps140
      go_wp2_with (go_at_call 92; refine WN.out.mono ?_; rintro e w1 ⟨hg1, rfl, hn9, hr1⟩; have e0 := (hg1.cell (p := ⟨b0, 0, none⟩) lb0 (by simpa using n0)).trans c0; have e1 := (hg1.cell (p := ⟨b1, 0, none⟩) lb1 (by simpa using n1)).trans c1; have HX := Lib.hid (And.intro hg1 hr1); have HLF := Lib.hid (fun W (hW : Grew w1 W) => wire_left (hr1.grew hW)); have hl := hr1.len; have hq := hr1.le; clear hg1 hr1 c0 c1 c2)
      have lb01 : b0 < w1.heap.size := World.block_lt_of_cell? w1 _ e0
      have lb11 : b1 < w1.heap.size := World.block_lt_of_cell? w1 _ e1
      have hmx : max (least : Int) 1 = least := by omega
      have hz0 : ¬ (least : Int) = 0 := by omega
      have hz1 : ¬ least = 0 := by omega
      have hqw : IntKind.i64.wrap (((l.length : Int) - q).tdiv least) = ((l.length : Int) - q) / least := IntWalk.i64_quo _ _ (by omega)
      have hdiv : ((l.length : Int) - q) / least = (((l.length - q) / max least 1 : Nat) : Int) := by
        rw [show max least 1 = least by omega, Int.natCast_ediv]
        congr 1
        omega
      have hbin : binOp .quo 3 (.int .i64 ((l.length : Int) - q)) (.int .i64 least) = pure (.int .i64 ((d : Nat) : Int)) := by rw [← hd, ← hdiv]; simp [binOp, Op.intDiv, hz1, hqw]
      clear hqw hdiv hd hz0
      refine wp_region_plus (by kernel_rfl) (by kernel_rfl) ?_
      repeat (go_big_quiet_step ((first | (go_at_call 93; exact Calls.grew_of (HLF.out _ (by repeat (first | with_reducible exact HG.out | with_reducible exact Grew.refl _ | with_reducible assumption | with_reducible apply Grew.plus | with_reducible apply Grew.drewN | with_reducible apply Grew.drew | with_reducible apply Grew.alloc | with_reducible refine Grew.setCell ?_ (by simp [go_sem]; try omega) _)))))))
      refine wpQuiet_nil ?_
      intro _ hw'
      obtain ⟨nx, rfl⟩ := hw'
      clear hbin
      have HGX := Lib.hid (HX.out.1.trans (GrewX.of_grew (ks := [R]) ((Grew.refl w1).plus nx)))
      have HR2 := Lib.hid (HX.out.2.grew ((Grew.refl w1).plus nx))
      have hS2 := HS.out.grew (HGX.out.toGrew HG0.out (by simpa using hR0))
      have hb3 := HGX.out.heap HB3.out (by simpa using n3)
      clear e0 e1 lb01 lb11
      generalize w1.plus nx = w2 at *
      have s7 := hS2.s7
      have l7 : 6 < w2.heap.size := World.block_lt_of_cell? w2 _ s7
      clear hS2 hb3
      go_wp2_with fail
      exact ⟨rfl, HGX.out, rfl, q, HR2.out⟩
    · simp only [if_neg hlt]
      have hlt2 : ¬ (d : Int) < n := by omega
      go_enter Tryz.func140, Tryz.ntmps140
      go_wp2_with (go_at_call 92; refine WN.out.mono ?_; rintro e w1 ⟨hg1, rfl, hn9, hr1⟩; have e0 := (hg1.cell (p := ⟨b0, 0, none⟩) lb0 (by simpa using n0)).trans c0; have e1 := (hg1.cell (p := ⟨b1, 0, none⟩) lb1 (by simpa using n1)).trans c1; have HX := Lib.hid (And.intro hg1 hr1); have HLF := Lib.hid (fun W (hW : Grew w1 W) => wire_left (hr1.grew hW)); have hl := hr1.len; have hq := hr1.le; clear hg1 hr1 c0 c1 c2)
      have lb01 : b0 < w1.heap.size := World.block_lt_of_cell? w1 _ e0
      have lb11 : b1 < w1.heap.size := World.block_lt_of_cell? w1 _ e1
      have hmx : max (least : Int) 1 = least := by omega
      have hz0 : ¬ (least : Int) = 0 := by omega
      have hz1 : ¬ least = 0 := by omega
      have hqw : IntKind.i64.wrap (((l.length : Int) - q).tdiv least) = ((l.length : Int) - q) / least := IntWalk.i64_quo _ _ (by omega)
      have hdiv : ((l.length : Int) - q) / least = (((l.length - q) / max least 1 : Nat) : Int) := by
        rw [show max least 1 = least by omega, Int.natCast_ediv]
        congr 1
        omega
      have hbin : binOp .quo 3 (.int .i64 ((l.length : Int) - q)) (.int .i64 least) = pure (.int .i64 ((d : Nat) : Int)) := by rw [← hd, ← hdiv]; simp [binOp, Op.intDiv, hz1, hqw]
      clear hqw hdiv hd hz0
      refine wp_region_plus (by kernel_rfl) (by kernel_rfl) ?_
      repeat (go_big_quiet_step ((first | (go_at_call 93; exact Calls.grew_of (HLF.out _ (by repeat (first | with_reducible exact HG.out | with_reducible exact Grew.refl _ | with_reducible assumption | with_reducible apply Grew.plus | with_reducible apply Grew.drewN | with_reducible apply Grew.drew | with_reducible apply Grew.alloc | with_reducible refine Grew.setCell ?_ (by simp [go_sem]; try omega) _)))))))
      refine wpQuiet_nil ?_
      intro _ hw'
      obtain ⟨nx, rfl⟩ := hw'
      clear hbin
      have HGX := Lib.hid (HX.out.1.trans (GrewX.of_grew (ks := [R]) ((Grew.refl w1).plus nx)))
      have HR2 := Lib.hid (HX.out.2.grew ((Grew.refl w1).plus nx))
      have hS2 := HS.out.grew (HGX.out.toGrew HG0.out (by simpa using hR0))
      have hb3 := HGX.out.heap HB3.out (by simpa using n3)
      clear e0 e1 lb01 lb11
      generalize w1.plus nx = w2 at *
      obtain ⟨k0, m0⟩ := World.own_cell hb3 0 _ rfl
      have lb32 : b3 < w2.heap.size := (Array.getElem?_eq_some_iff.1 hb3).1
      have HB := Lib.hid hb3
      clear hb3 hS2
      go_wp2_with fail
      go_end0
      exact ⟨(HGX.out.mono (by simp)).set (.inl (by simp)) _, rfl, HR2.out.grewX (ks := [b3]) ((GrewX.refl _ _).set (.inl (by simp)) _) (by simpa using Ne.symm n3) (fun q hq => by simpa using na q hq), World.own_set2 HB.out 0 _ _ rfl⟩
set_option maxRecDepth 100000 in
set_option maxHeartbeats 1000000 in
theorem wire_Count (hS : Sents S w0) (hg0 : Grew w0 w) (hR0 : w0.heap.size ≤ R) (h : WR w R a cap l p) (ha : ∀ q, a = some q → q.block < w.heap.size) (least : Nat) (hl1 : 1 ≤ least) (hl4 : least ≤ 4) (m : Int) (hm : 0 ≤ m) (hm2 : m ≤ 9223372036854775807) :
    Calls Tryz.prog 87 #[pt R, .int .i64 least, .int .i64 m] w fun e w' => GrewX [R] w w' ∧ WPost S R a cap l encN (.int .i64 0) (wCount l least m p) e w' := by
  have hmf : ∀ (fn : Fn) (first cap : Array Value) (w : World), (Instr.makeFunc fn first cap).run Tryz.prog w = .ok (.func fn first cap) w := fun _ _ _ _ => rfl
  have hcf : ∀ (caps : Array Value) W, (callFunc 140 caps).run Tryz.prog W = .ok (.enter 140 caps) W := fun caps W => MuLone.run_callFunc_enter Tryz.func140 (by kernel_rfl) rfl _ W
  have HCF := Lib.hid hcf
  have lR : R < w.heap.size := (Array.getElem?_eq_some_iff.1 h.c).1
  have H := Lib.hid h
  have HA := Lib.hid ha
  have HS := Lib.hid hS
  have HG0 := Lib.hid hg0
  clear h ha hS hg0 hcf
  go_enter Tryz.func87, Tryz.ntmps87
  go_wp2_with fail
  clear hmf
  have hb0 : ((((w.alloc (.cells #[pt R] 81)).alloc (.cells #[.int .i64 least] 3)).alloc (.cells #[.int .i64 m] 3)).alloc (.cells #[.int .i64 0] 3)).heap[w.heap.size]? = some (.cells #[pt R] 81 (0, 0)) := Grew.heap ((((Grew.refl _).alloc _).alloc _).alloc _) (heap_alloc_at _ _ _ rfl)
  have hb1 : ((((w.alloc (.cells #[pt R] 81)).alloc (.cells #[.int .i64 least] 3)).alloc (.cells #[.int .i64 m] 3)).alloc (.cells #[.int .i64 0] 3)).heap[w.heap.size + 1]? = some (.cells #[.int .i64 least] 3 (0, 0)) := Grew.heap (((Grew.refl _).alloc _).alloc _) (heap_alloc_at _ _ _ (by simp [go_sem]))
  have hb2 : ((((w.alloc (.cells #[pt R] 81)).alloc (.cells #[.int .i64 least] 3)).alloc (.cells #[.int .i64 m] 3)).alloc (.cells #[.int .i64 0] 3)).heap[w.heap.size + 1 + 1]? = some (.cells #[.int .i64 m] 3 (0, 0)) := Grew.heap ((Grew.refl _).alloc _) (heap_alloc_at _ _ _ (by simp [go_sem]))
  have hb3 : ((((w.alloc (.cells #[pt R] 81)).alloc (.cells #[.int .i64 least] 3)).alloc (.cells #[.int .i64 m] 3)).alloc (.cells #[.int .i64 0] 3)).heap[w.heap.size + 1 + 1 + 1]? = some (.cells #[.int .i64 0] 3 (0, 0)) := heap_alloc_at _ _ _ (by simp [go_sem])
  have hgw : Grew w ((((w.alloc (.cells #[pt R] 81)).alloc (.cells #[.int .i64 least] 3)).alloc (.cells #[.int .i64 m] 3)).alloc (.cells #[.int .i64 0] 3)) := by repeat (first | with_reducible exact HG.out | with_reducible exact Grew.refl _ | with_reducible assumption | with_reducible apply Grew.plus | with_reducible apply Grew.drewN | with_reducible apply Grew.drew | with_reducible apply Grew.alloc | with_reducible refine Grew.setCell ?_ (by simp [go_sem]; try omega) _)
  have hsz : ((((w.alloc (.cells #[pt R] 81)).alloc (.cells #[.int .i64 least] 3)).alloc (.cells #[.int .i64 m] 3)).alloc (.cells #[.int .i64 0] 3)).heap.size = w.heap.size + 1 + 1 + 1 + 1 := by simp [go_sem]
  generalize ((((w.alloc (.cells #[pt R] 81)).alloc (.cells #[.int .i64 least] 3)).alloc (.cells #[.int .i64 m] 3)).alloc (.cells #[.int .i64 0] 3)) = W3 at *
  have hdo : ∀ W, Grew W3 W → Calls Tryz.prog 140 #[pt w.heap.size, pt (w.heap.size + 1 + 1), pt (w.heap.size + 1), pt (w.heap.size + 1 + 1 + 1)] W fun e w' => match cnt l least m p with
      | .ok (n, q) => GrewX [R, w.heap.size + 1 + 1 + 1] W w' ∧ e = .returned (.tuple #[]) ∧ WR w' R a cap l q ∧ w'.heap[w.heap.size + 1 + 1 + 1]? = some (.cells #[.int .i64 n] 3 (0, 0))
      | .error c => GrewX [R] W w' ∧ e = .panicked [{ v := stopV S c, recovered := false }] ∧ ∃ q, WR w' R a cap l q := fun W hW =>
    count_cl HS.out ((HG0.out.trans hgw).trans hW) hR0 (H.out.grew (hgw.trans hW)) least hl1 hl4 m hm hm2 (World.own_cell (Grew.heap hW hb0) 0 _ rfl).1 (World.own_cell (Grew.heap hW hb1) 0 _ rfl).1 (World.own_cell (Grew.heap hW hb2) 0 _ rfl).1 (Grew.heap hW hb3) (by omega) (by omega) (by omega) (fun q hq => by have := HA.out q hq; omega)
  have hks : ∀ k ∈ [R, w.heap.size + 1 + 1 + 1], k < W3.heap.size := fun k hk => by simp at hk; omega
  have HF : ∀ w' : World, GrewX [R, w.heap.size + 1 + 1 + 1] W3 w' → GrewX [R] w w' := fun w' hg => ((GrewX.of_grew (ks := [R, w.heap.size + 1 + 1 + 1]) hgw).trans hg).fresh (fun k hk => by
    rcases List.mem_cons.1 hk with rfl | hk
    · exact .inl (by simp)
    · exact .inr (by have := List.mem_singleton.1 hk; omega))
  cases hsc : cnt l least m p with
  | error c =>
    simp only [hsc] at hdo
    have hcc := cnt_code _ _ _ _ _ hsc
    have hks1 : ∀ k ∈ [R], k < W3.heap.size := fun k hk => hks k (by simp at hk; simp [hk])
    have RN := reads_no (S := S) (H.out.grew hgw) bCount 140 _ _ hks1 c (by omega) (by omega) (HCF.out _) (fun W hW => (hdo W hW).mono fun e w' ⟨h1, h2, q, h5⟩ => ⟨h2, h1, q, h5.c⟩)
    have HB3 := Lib.hid hb3
    have HGW := Lib.hid hgw
    clear hdo hb0 hb1 hb2 hb3 hgw HF
    refine RN.mono ?_
    rintro e w1 ⟨v, rfl, he, hg1⟩
    have hbx := hg1.heap HB3.out (by simp; omega)
    obtain ⟨n0, m0⟩ := World.own_cell hbx 0 _ rfl
    simp only [List.getElem_toArray, List.getElem_cons_zero] at n0
    have hlb : w.heap.size + 1 + 1 + 1 < w1.heap.size := (Array.getElem?_eq_some_iff.1 hbx).1
    have HX := Lib.hid (And.intro he hg1)
    clear RN he hg1 hbx
    go_wp2_with fail
    go_ret2
    exact ⟨((GrewX.of_grew (ks := [R]) HGW.out).trans (HX.out.2.mono (by simp))), by rw [wCount_cnt, hsc]; exact ⟨v, rfl, by omega, by omega, HX.out.1⟩⟩
  | ok x =>
    obtain ⟨n, q⟩ := x
    simp only [hsc] at hdo
    have RO := reads_ok (H.out.grew hgw) bCount 140 _ _ hks (fun w' => WR w' R a cap l q ∧ w'.heap[w.heap.size + 1 + 1 + 1]? = some (.cells #[.int .i64 n] 3 (0, 0))) (HCF.out _) (fun W hW => (hdo W hW).mono fun e w' ⟨h1, h2, h3, h4⟩ => ⟨h2, ⟨h3, h4⟩, h1⟩)
    have HFF := Lib.hid HF
    clear hdo hb0 hb1 hb2 hb3 hgw HF
    refine RO.mono ?_
    rintro e w1 ⟨rfl, ⟨hr1, hbx⟩, hg1⟩
    obtain ⟨n0, m0⟩ := World.own_cell hbx 0 _ rfl
    simp only [List.getElem_toArray, List.getElem_cons_zero] at n0
    have hlb : w.heap.size + 1 + 1 + 1 < w1.heap.size := (Array.getElem?_eq_some_iff.1 hbx).1
    have HX := Lib.hid (And.intro hr1 hg1)
    clear RO hr1 hg1 hbx
    go_wp2_with fail
    go_ret2
    exact ⟨HFF.out _ HX.out.2, by rw [wCount_cnt, hsc]; exact ⟨rfl, HX.out.1⟩⟩
end
end Go.Proofs.YtnhmekdnfinmiaaGreatDoor
/- Walks: wire's reader's calls: Text. -/
namespace Go.Par
def txt (l : List UInt8) (m : Int) (p : Nat) : Except Nat (List UInt8 × Nat) := match scan l m 9 0 0 p with
  | .ok (n, q) => if l.length - q < n then .error 7 else .ok ((l.drop q).take n, q + n)
  | .error c => .error c
theorem wText_txt (l : List UInt8) (m : Int) (p : Nat) : wText l m p = match txt l m p with
    | .ok x => .ok x
    | .error c => .error (.wire bText p c) := by
  unfold wText txt
  cases scan l m 9 0 0 p with
  | error c => rfl
  | ok x =>
    obtain ⟨n, q⟩ := x
    simp only
    split <;> rfl
theorem txt_code (l : List UInt8) (m : Int) (p c : Nat) (h : txt l m p = .error c) : c = 2 ∨ c = 6 ∨ c = 7 := by
  unfold txt at h
  cases hs : scan l m 9 0 0 p with
  | error c' => rw [hs] at h; cases h; exact scan_code _ _ _ _ _ _ _ hs
  | ok x =>
    rw [hs] at h
    simp only at h
    split at h <;> cases h
    simp
end Go.Par
namespace Go.Proofs.YtnhmekdnfinmiaaGreatDoor
open Go.RowKit Go.Par
set_option linter.unusedSimpArgs false
set_option linter.unusedVariables false
abbrev encT (b : List UInt8) : Value := .string ⟨b.toArray⟩
theorem quiet_conv {o : Oper} {a : Act} {C : World → Prop} {K : Act → Prop} {src dst : TypeId} {v r : Value} (x : Operand) (ho : o.op = .convert src dst x) (hx : a.eval x = v) (hl : ∀ W, C W → (convert src dst v).run Tryz.prog W = .ok r W)
    (hk : K (a.put o.dst r)) : o.quiet Tryz.prog a C K :=
  ⟨r, fun W hW => by
    have : (execOp a.eval o).run Tryz.prog W = .ok (.value r) W := by
      simp only [execOp, ho, hx, Sem.run_bind, hl W hW, Result.andThen_ok]
      rfl
    unfold Oper.quietAt
    rw [this]
    exact ⟨rfl, rfl⟩, hk⟩
theorem quiet_slice {o : Oper} {a : Act} {C : World → Prop} {K : Act → Prop} {t : TypeId} {v u1 u2 r : Value} (x y z : Operand) (ho : o.op = .slice t x (some y) (some z) none) (hx : a.eval x = v) (hy : a.eval y = u1) (hz : a.eval z = u2) (hl : ∀ W, C W → (Instr.sliceAt t v (some u1) (some u2) none).run Tryz.prog W = .ok r W)
    (hk : K (a.put o.dst r)) : o.quiet Tryz.prog a C K :=
  ⟨r, fun W hW => by
    have : (execOp a.eval o).run Tryz.prog W = .ok (.value r) W := by
      simp only [execOp, ho, hx, Option.map_some, Option.map_none, hy, hz, Sem.run_bind, hl W hW, Result.andThen_ok]
      rfl
    unfold Oper.quietAt
    rw [this]
    exact ⟨rfl, rfl⟩, hk⟩
def subA (a : Option Addr) (cap q : Nat) : Option Addr := if cap = q then a else a.map fun x => x.add (q * 1)
theorem subA_in {W : World} {a : Option Addr} {cap q n : Nat} {l : List UInt8} (h : CellsIn W a (bv l)) (hq : q + n ≤ l.length) (hc : l.length ≤ cap) : CellsIn W (subA a cap q) (bv ((l.drop q).take n)) := by
  cases n with
  | zero => rw [List.take_zero]; exact CellsIn.nil _ _
  | succ n =>
    obtain ⟨b, off, rfl, _, _⟩ := h.at' (by rw [bv_length]; omega)
    have hne : ¬ cap = q := by omega
    unfold subA
    rw [if_neg hne, bv_take, bv_drop]
    have := (h.drop q).take (n + 1)
    have e : (⟨b, off, none⟩ : Addr).add (q * 1) = ⟨b, off + q, none⟩ := by rw [Nat.mul_one]; exact Addr.add_lit _ _ _
    show CellsIn W (some ((⟨b, off, none⟩ : Addr).add (q * 1))) _
    rw [e]
    exact this
theorem slice_run (a : Option Addr) (cap q z N : Nat) (hq : q ≤ z) (hz : z ≤ cap) (W : World) : (Instr.sliceAt 22 (.slice a N cap) (some (.int .i64 q)) (some (.int .i64 z)) none).run Tryz.prog W = .ok (.slice (subA a cap q) (z - q) (cap - q)) W := by
  have hsz : (sizeOf 5).run Tryz.prog W = .ok 1 W := by kernel_rfl
  simp [Instr.sliceAt, Instr.slice, Instr.sliceBounds, Instr.sliceBound, asIntOf, Sem.run_bind, run_underlying Tryz.underlying22, hq, hz, hsz, subA]
section
variable {S : Nat → Addr} {w0 w : World} {R : Nat} {a : Option Addr} {cap : Nat} {l : List UInt8} {p : Nat}
set_option maxRecDepth 100000 in
set_option maxHeartbeats 1000000 in
theorem text_cl (hS : Sents S w0) (hg0 : Grew w0 w) (hR0 : w0.heap.size ≤ R) (h : WR w R a cap l p) {b0 b1 b2 : Nat} (m : Int) (hm : 0 ≤ m) (hm2 : m ≤ 9223372036854775807)
    (c0 : w.cell? ⟨b0, 0, none⟩ = some (pt R)) (c1 : w.cell? ⟨b1, 0, none⟩ = some (.int .i64 m)) (hb2 : w.heap[b2]? = some (.cells #[encT []] 9 (0, 0))) (n0 : b0 ≠ R) (n1 : b1 ≠ R) (n2 : b2 ≠ R) (n02 : b0 ≠ b2) (na : ∀ q, a = some q → q.block ≠ b2) :
    Calls Tryz.prog 91 #[pt b0, pt b1, pt b2] w fun e w' => match txt l m p with
      | .ok (s, q) => GrewX [R, b2] w w' ∧ e = .returned (.tuple #[]) ∧ WR w' R a cap l q ∧ w'.heap[b2]? = some (.cells #[encT s] 9 (0, 0))
      | .error c => GrewX [R] w w' ∧ e = .panicked [{ v := stopV S c, recovered := false }] ∧ ∃ q, WR w' R a cap l q := by
  have WN := Lib.hid (wire_num hS hg0 hR0 h m hm hm2)
  have HB2 := Lib.hid hb2
  have HC0 := Lib.hid c0
  have HS := Lib.hid hS
  have HG0 := Lib.hid hg0
  have lb0 : b0 < w.heap.size := World.block_lt_of_cell? w _ c0
  have lb1 : b1 < w.heap.size := World.block_lt_of_cell? w _ c1
  have lb2 : b2 < w.heap.size := (Array.getElem?_eq_some_iff.1 hb2).1
  clear hb2 hS hg0 h
  unfold txt
  cases hsc : scan l m 9 0 0 p with
  | error c =>
    rw [hsc] at WN
    clear hsc
    go_enter Tryz.func91, Tryz.ntmps91
    go_wp2_with (go_at_call 92; refine WN.out.mono ?_; rintro e w1 ⟨hg1, rfl, hc0, hc1, hq⟩)
    exact ⟨rfl, hg1, rfl, hq⟩
  | ok x =>
    obtain ⟨n, q⟩ := x
    rw [hsc] at WN
    clear hsc
    simp only
    by_cases hlt : l.length - q < n
    · simp only [if_pos hlt]
      go_enter Tryz.func91, Tryz.ntmps91
      go_wp2_with (go_at_call 92; refine WN.out.mono ?_; rintro e w1 ⟨hg1, rfl, hn9, hr1⟩; have e0 := (hg1.cell (p := ⟨b0, 0, none⟩) lb0 (by simpa using n0)).trans c0; have HX := Lib.hid (And.intro hg1 hr1); have HLF := Lib.hid (fun W (hW : Grew w1 W) => wire_left (hr1.grew hW)); have hl := hr1.len; have hq := hr1.le; have s7 := (HS.out.grew (hg1.toGrew HG0.out (by simpa using hR0))).s7; have l7 : 6 < w1.heap.size := World.block_lt_of_cell? w1 _ s7; have lb01 : b0 < w1.heap.size := World.block_lt_of_cell? w1 _ e0; have hlt2 : (l.length : Int) - q < n := (by omega); clear hg1 hr1 c0 c1)
      refine (HLF.out _ (Grew.refl _)).mono ?_
      rintro e w' ⟨rfl, gx, rfl⟩
      go_wp2_with fail
      exact ⟨rfl, HX.out.1.grew (by repeat (first | with_reducible exact HG.out | with_reducible exact Grew.refl _ | with_reducible assumption | with_reducible apply Grew.plus | with_reducible apply Grew.drewN | with_reducible apply Grew.drew | with_reducible apply Grew.alloc | with_reducible refine Grew.setCell ?_ (by simp [go_sem]; try omega) _)), rfl, q, HX.out.2.grew (by repeat (first | with_reducible exact HG.out | with_reducible exact Grew.refl _ | with_reducible assumption | with_reducible apply Grew.plus | with_reducible apply Grew.drewN | with_reducible apply Grew.drew | with_reducible apply Grew.alloc | with_reducible refine Grew.setCell ?_ (by simp [go_sem]; try omega) _))⟩
    · simp only [if_neg hlt]
      go_enter Tryz.func91, Tryz.ntmps91
      go_wp2_with (go_at_call 92; refine WN.out.mono ?_; rintro e w1 ⟨hg1, rfl, hn9, hr1⟩; have e0 := (hg1.cell (p := ⟨b0, 0, none⟩) lb0 (by simpa using n0)).trans c0; have HX := Lib.hid (And.intro hg1 hr1); have HLF := Lib.hid (fun W (hW : Grew w1 W) => wire_left (hr1.grew hW)); have hl := hr1.len; have hq := hr1.le; have hcp := hr1.cap; have lb01 : b0 < w1.heap.size := World.block_lt_of_cell? w1 _ e0; have hlt2 : ¬ (l.length : Int) - q < n := (by omega); clear hg1 hr1 c0 c1)
      refine (HLF.out _ (Grew.refl _)).mono ?_
      rintro e w' ⟨rfl, gx, rfl⟩
      go_wp2_with fail
      clear e0 lb01
      have hr2 := HX.out.2.grew ((Grew.refl w1).plus gx)
      have HGX := Lib.hid (HX.out.1.trans (GrewX.of_grew (ks := [R]) ((Grew.refl w1).plus gx)))
      generalize w1.plus gx = w2 at *
      have q0 : w2.cell? ⟨R, 0, none⟩ = some (.slice a l.length cap) := (World.own_cell hr2.c 0 _ rfl).1
      obtain ⟨q1, f1⟩ : w2.cell? ⟨R, 1, none⟩ = some (.int .i64 q) ∧ w2.frozen? ⟨R, 1, none⟩ = false := World.own_cell hr2.c 1 _ rfl
      have lR2 : R < w2.heap.size := World.block_lt_of_cell? w2 _ q0
      have hb2 := HGX.out.heap HB2.out (by simpa using n2)
      obtain ⟨k0, m0⟩ := World.own_cell hb2 0 _ rfl
      have lb22 : b2 < w2.heap.size := (Array.getElem?_eq_some_iff.1 hb2).1
      have e0 := (HGX.out.cell (p := ⟨b0, 0, none⟩) lb0 (by simpa using n0)).trans HC0.out
      have lb02 : b0 < w2.heap.size := World.block_lt_of_cell? w2 _ e0
      have hqn : q + n ≤ l.length := by omega
      have hlen : ((l.drop q).take n).length = n := by simp; omega
      have hsl : ∀ W, (Instr.sliceAt 22 (.slice a l.length cap) (some (.int .i64 q)) (some (.int .i64 ((q : Int) + n))) none).run Tryz.prog W = .ok (.slice (subA a cap q) n (cap - q)) W := fun W => by
        rw [show (q : Int) + n = ((q + n : Nat) : Int) by omega, slice_run a cap q (q + n) l.length (by omega) (by omega) W, show q + n - q = n by omega]
      have hcv : ∀ x, (convert 22 9 (.slice (subA a cap q) n (cap - q))).run Tryz.prog (w2.plus x) = .ok (encT ((l.drop q).take n)) (w2.plus x) := fun x => by
        have := conv_bytes (P := Tryz.prog) (w := w2.plus x) (src := 22) (dst := 9) (e := 5) Tryz.underlying22 (by kernel_rfl) (by kernel_rfl) (cap - q) (subA_in (hr2.row.grew ((Grew.refl w2).plus x)) hqn hcp.1)
        rw [hlen] at this
        exact this
      have HR2 := Lib.hid hr2
      have HBB := Lib.hid hb2
      simp only [List.getElem_toArray, List.getElem_cons_zero] at k0
      clear hr2 hb2
      unfold encT at hcv k0
      obtain ⟨sb, hsb⟩ : ∃ sb, (⟨((l.drop q).take n).toArray⟩ : ByteArray) = sb := ⟨_, rfl⟩
      rw [hsb] at hcv
      have HSB := Lib.hid hsb
      clear hsb
      refine wp_region_plus_tail 16 (by kernel_rfl) (by kernel_rfl) ?_
      simp only [List.take_succ_cons, List.take_zero, List.drop_succ_cons, List.drop_zero]
      repeat (first
        | (go_big_quiet_want; refine quiet_slice (.tmp 17) (.tmp 21) (.tmp 27) (by rfl) (by rfl) (by rfl) (by rfl) (fun W _ => hsl W) ?_; simp only [Act.put, List.setIfInBounds_toArray, List.set_cons_zero, List.set_cons_succ]; go_big_quiet_on)
        | (go_big_quiet_want; refine quiet_conv (.tmp 28) (by rfl) (by rfl) (fun W hW => by obtain ⟨x, rfl⟩ := hW; exact hcv x) ?_; simp only [Act.put, List.setIfInBounds_toArray, List.set_cons_zero, List.set_cons_succ]; go_big_quiet_on)
        | go_big_quiet_step (fail))
      refine wpQuiet_nil ?_
      intro _ hw'
      obtain ⟨nx, rfl⟩ := hw'
      go_wp2_with fail
      go_end0
      have hr3 := HR2.out.grewX (ks := [b2]) ((GrewX.refl _ _).set (p := ⟨b2, 0, none⟩) (.inl (by simp)) (.string sb)) (by simpa using Ne.symm n2) (fun q hq => by simpa using na q hq)
      have hr4 := hr3.set (q + n) hqn
      rw [show ((q + n : Nat) : Int) = (q : Int) + n by omega] at hr4
      refine ⟨(((HGX.out.mono (by simp)).set (.inl (by simp)) _).set (.inl (by simp)) _).plus nx, rfl, hr4.grew ((Grew.refl _).plus nx), Grew.heap ((Grew.refl _).plus nx) ?_⟩
      rw [World.block_setCell _ _ _ _ n2]
      unfold encT
      rw [HSB.out]
      exact World.own_set2 HBB.out 0 _ _ rfl
set_option maxRecDepth 100000 in
set_option maxHeartbeats 1000000 in
theorem wire_Text (hS : Sents S w0) (hg0 : Grew w0 w) (hR0 : w0.heap.size ≤ R) (h : WR w R a cap l p) (ha : ∀ q, a = some q → q.block < w.heap.size) (m : Int) (hm : 0 ≤ m) (hm2 : m ≤ 9223372036854775807) :
    Calls Tryz.prog 59 #[pt R, .int .i64 m] w fun e w' => GrewX [R] w w' ∧ WPost S R a cap l encT (.string ⟨#[]⟩) (wText l m p) e w' := by
  have hmf : ∀ (fn : Fn) (first cap : Array Value) (w : World), (Instr.makeFunc fn first cap).run Tryz.prog w = .ok (.func fn first cap) w := fun _ _ _ _ => rfl
  have hcf : ∀ (caps : Array Value) W, (callFunc 91 caps).run Tryz.prog W = .ok (.enter 91 caps) W := fun caps W => MuLone.run_callFunc_enter Tryz.func91 (by kernel_rfl) rfl _ W
  have HCF := Lib.hid hcf
  have lR : R < w.heap.size := (Array.getElem?_eq_some_iff.1 h.c).1
  have H := Lib.hid h
  have HA := Lib.hid ha
  have HS := Lib.hid hS
  have HG0 := Lib.hid hg0
  clear h ha hS hg0 hcf
  go_enter Tryz.func59, Tryz.ntmps59
  go_wp2_with fail
  clear hmf
  have hb0 : (((w.alloc (.cells #[pt R] 81)).alloc (.cells #[.int .i64 m] 3)).alloc (.cells #[.string ⟨#[]⟩] 9)).heap[w.heap.size]? = some (.cells #[pt R] 81 (0, 0)) := Grew.heap (((Grew.refl _).alloc _).alloc _) (heap_alloc_at _ _ _ rfl)
  have hb1 : (((w.alloc (.cells #[pt R] 81)).alloc (.cells #[.int .i64 m] 3)).alloc (.cells #[.string ⟨#[]⟩] 9)).heap[w.heap.size + 1]? = some (.cells #[.int .i64 m] 3 (0, 0)) := Grew.heap ((Grew.refl _).alloc _) (heap_alloc_at _ _ _ (by simp [go_sem]))
  have hb2 : (((w.alloc (.cells #[pt R] 81)).alloc (.cells #[.int .i64 m] 3)).alloc (.cells #[.string ⟨#[]⟩] 9)).heap[w.heap.size + 1 + 1]? = some (.cells #[encT []] 9 (0, 0)) := heap_alloc_at _ _ _ (by simp [go_sem])
  have hgw : Grew w (((w.alloc (.cells #[pt R] 81)).alloc (.cells #[.int .i64 m] 3)).alloc (.cells #[.string ⟨#[]⟩] 9)) := by repeat (first | with_reducible exact HG.out | with_reducible exact Grew.refl _ | with_reducible assumption | with_reducible apply Grew.plus | with_reducible apply Grew.drewN | with_reducible apply Grew.drew | with_reducible apply Grew.alloc | with_reducible refine Grew.setCell ?_ (by simp [go_sem]; try omega) _)
  have hsz : (((w.alloc (.cells #[pt R] 81)).alloc (.cells #[.int .i64 m] 3)).alloc (.cells #[.string ⟨#[]⟩] 9)).heap.size = w.heap.size + 1 + 1 + 1 := by simp [go_sem]
  generalize (((w.alloc (.cells #[pt R] 81)).alloc (.cells #[.int .i64 m] 3)).alloc (.cells #[.string ⟨#[]⟩] 9)) = W3 at *
  have hdo : ∀ W, Grew W3 W → Calls Tryz.prog 91 #[pt w.heap.size, pt (w.heap.size + 1), pt (w.heap.size + 1 + 1)] W fun e w' => match txt l m p with
      | .ok (n, q) => GrewX [R, w.heap.size + 1 + 1] W w' ∧ e = .returned (.tuple #[]) ∧ WR w' R a cap l q ∧ w'.heap[w.heap.size + 1 + 1]? = some (.cells #[encT n] 9 (0, 0))
      | .error c => GrewX [R] W w' ∧ e = .panicked [{ v := stopV S c, recovered := false }] ∧ ∃ q, WR w' R a cap l q := fun W hW =>
    text_cl HS.out ((HG0.out.trans hgw).trans hW) hR0 (H.out.grew (hgw.trans hW)) m hm hm2 (World.own_cell (Grew.heap hW hb0) 0 _ rfl).1 (World.own_cell (Grew.heap hW hb1) 0 _ rfl).1 (Grew.heap hW hb2) (by omega) (by omega) (by omega) (by omega) (fun q hq => by have := HA.out q hq; omega)
  have hks : ∀ k ∈ [R, w.heap.size + 1 + 1], k < W3.heap.size := fun k hk => by simp at hk; omega
  have HF : ∀ w' : World, GrewX [R, w.heap.size + 1 + 1] W3 w' → GrewX [R] w w' := fun w' hg => ((GrewX.of_grew (ks := [R, w.heap.size + 1 + 1]) hgw).trans hg).fresh (fun k hk => by
    rcases List.mem_cons.1 hk with rfl | hk
    · exact .inl (by simp)
    · exact .inr (by have := List.mem_singleton.1 hk; omega))
  cases hsc : txt l m p with
  | error c =>
    simp only [hsc] at hdo
    have hcc := txt_code _ _ _ _ hsc
    have hks1 : ∀ k ∈ [R], k < W3.heap.size := fun k hk => hks k (by simp at hk; simp [hk])
    have RN := reads_no (S := S) (H.out.grew hgw) bText 91 _ _ hks1 c (by omega) (by omega) (HCF.out _) (fun W hW => (hdo W hW).mono fun e w' ⟨h1, h2, q, h5⟩ => ⟨h2, h1, q, h5.c⟩)
    have HB3 := Lib.hid hb2
    have HGW := Lib.hid hgw
    clear hdo hb0 hb1 hb2 hgw HF
    refine RN.mono ?_
    rintro e w1 ⟨v, rfl, he, hg1⟩
    have hbx := hg1.heap HB3.out (by simp; omega)
    obtain ⟨n0, m0⟩ := World.own_cell hbx 0 _ rfl
    simp only [List.getElem_toArray, List.getElem_cons_zero, encT] at n0
    have hlb : w.heap.size + 1 + 1 < w1.heap.size := (Array.getElem?_eq_some_iff.1 hbx).1
    have HX := Lib.hid (And.intro he hg1)
    clear RN he hg1 hbx
    go_wp2_with fail
    go_ret2
    exact ⟨((GrewX.of_grew (ks := [R]) HGW.out).trans (HX.out.2.mono (by simp))), by rw [wText_txt, hsc]; exact ⟨v, rfl, by omega, by omega, HX.out.1⟩⟩
  | ok x =>
    obtain ⟨n, q⟩ := x
    simp only [hsc] at hdo
    have RO := reads_ok (H.out.grew hgw) bText 91 _ _ hks (fun w' => WR w' R a cap l q ∧ w'.heap[w.heap.size + 1 + 1]? = some (.cells #[encT n] 9 (0, 0))) (HCF.out _) (fun W hW => (hdo W hW).mono fun e w' ⟨h1, h2, h3, h4⟩ => ⟨h2, ⟨h3, h4⟩, h1⟩)
    have HFF := Lib.hid HF
    clear hdo hb0 hb1 hb2 hgw HF
    refine RO.mono ?_
    rintro e w1 ⟨rfl, ⟨hr1, hbx⟩, hg1⟩
    obtain ⟨n0, m0⟩ := World.own_cell hbx 0 _ rfl
    simp only [List.getElem_toArray, List.getElem_cons_zero, encT] at n0
    have hlb : w.heap.size + 1 + 1 < w1.heap.size := (Array.getElem?_eq_some_iff.1 hbx).1
    have HX := Lib.hid (And.intro hr1 hg1)
    clear RO hr1 hg1 hbx
    go_wp2_with fail
    go_ret2
    exact ⟨HFF.out _ HX.out.2, by rw [wText_txt, hsc]; exact ⟨rfl, HX.out.1⟩⟩
end
end Go.Proofs.YtnhmekdnfinmiaaGreatDoor
/- Walks: image's eye: must, number, count, byte. -/
namespace Go.Proofs.YtnhmekdnfinmiaaGreatDoor
open Go.RowKit Go.Par
set_option linter.unusedSimpArgs false
set_option linter.unusedVariables false
def placeOf : Ref → Nat
  | .wire _ p _ => p
  | .form p => p
def istop (at_ : Int) (v : Value) : Value := .iface 79 (.agg #[.int .i64 at_, v])
structure RA (S : Nat → Addr) (w0 : World) (R : Nat) (a : Option Addr) (cap : Nat) (l : List UInt8) (w : World) (p : Nat) : Prop where
  s : Sents S w0
  g : Grew w0 w
  r : WR w R a cap l p
  hR : w0.heap.size ≤ R
  ab : ∀ q, a = some q → q.block < w.heap.size
section
variable {S : Nat → Addr} {w0 w w' : World} {R : Nat} {a : Option Addr} {cap : Nat} {l : List UInt8} {p q : Nat}
theorem RA.step (h : RA S w0 R a cap l w p) (hg : GrewX [R] w w') (hr : WR w' R a cap l q) : RA S w0 R a cap l w' q := ⟨h.s, hg.toGrew h.g (by simpa using h.hR), hr, h.hR, fun x hx => Nat.lt_of_lt_of_le (h.ab x hx) hg.size⟩
theorem RA.grew (h : RA S w0 R a cap l w p) (hg : Grew w w') : RA S w0 R a cap l w' p := h.step (GrewX.of_grew hg) (h.r.grew hg)
theorem RA.lt (h : RA S w0 R a cap l w p) : R < w.heap.size := (Array.getElem?_eq_some_iff.1 h.r.c).1
theorem RA.set (h : RA S w0 R a cap l w p) {b i : Nat} (v : Value) (hb : w0.heap.size ≤ b) (hR : b ≠ R) (hab : ∀ q, a = some q → q.block ≠ b) : RA S w0 R a cap l (w.setCell ⟨b, i, none⟩ v) p :=
  ⟨h.s, h.g.setCell hb v, h.r.grewX (ks := [b]) ((GrewX.refl _ _).set (.inl (by simp)) _) (by simpa using Ne.symm hR) (fun q hq => by simpa using hab q hq), h.hR, fun x hx => by rw [World.setCell_size]; exact h.ab x hx⟩
def IPost {α : Type} (S : Nat → Addr) (w0 : World) (R : Nat) (a : Option Addr) (cap : Nat) (l : List UInt8) (enc : α → Ending → World → Prop) (r : Except Ref (α × Nat)) (e : Ending) (w' : World) : Prop := match r with
  | .ok (x, q) => enc x e w' ∧ RA S w0 R a cap l w' q
  | .error r => ∃ v, e = .panicked [{ v := istop (placeOf r) v, recovered := false }] ∧ WhyAt S w' r v
def isN (n : Nat) (e : Ending) (w' : World) : Prop := e = .returned (.int .i64 n)
theorem WhyAt.iface {r : Ref} {v : Value} (h : WhyAt S w r v) : ∃ t z, v = .iface t z := by
  cases r with
  | wire c p k => cases h.2.2 <;> exact ⟨_, _, rfl⟩
  | form p => cases (show ErrAt S w (.reason 6) v from h) <;> exact ⟨_, _, rfl⟩
theorem must_nil (n : Int) (w : World) : Calls Tryz.prog 60 #[.int .i64 n, .nilIface] w fun e w' => e = .returned (.tuple #[]) ∧ w = w' := by
  go_enter Tryz.func60, Tryz.ntmps60
  go_wp2
  go_end0
  exact ⟨rfl, rfl⟩
theorem must_err (n : Int) (t : TypeId) (z : Value) (w : World) : Calls Tryz.prog 60 #[.int .i64 n, .iface t z] w fun e w' => e = .panicked [{ v := istop n (.iface t z), recovered := false }] ∧ w = w' := by
  go_enter Tryz.func60, Tryz.ntmps60
  go_wp2
  exact ⟨rfl, rfl, rfl⟩
set_option maxRecDepth 100000 in
set_option maxHeartbeats 1000000 in
theorem eye_number (h : RA S w0 R a cap l w p) (least : Nat) (m : Int) (hm : 0 ≤ m) (hm2 : m ≤ 9223372036854775807) :
    Calls Tryz.prog 52 #[.agg #[pt R], .int .i64 least, .int .i64 m] w fun e w' => GrewX [R] w w' ∧ IPost S w0 R a cap l isN (pNum l least m p) e w' := by
  have lR := h.lt
  have H := Lib.hid h
  have WN := Lib.hid (fun W (hW : Grew w W) => wire_Number h.s (h.g.trans hW) h.hR (h.r.grew hW) (h.grew hW).ab m hm hm2)
  have WA := Lib.hid (fun W (hW : Grew w W) => wire_at (h.r.grew hW))
  clear h
  unfold pNum pChk
  cases hw : wNumber l m p with
  | error r =>
    rw [hw] at WN
    obtain ⟨c, k, rfl⟩ := wNumber_wired l m p r hw
    clear hw
    simp only
    go_enter Tryz.func52, Tryz.ntmps52
    go_wp2_with (first
      | (go_at_call 58; refine (WA.out _ (by repeat (first | with_reducible exact HG.out | with_reducible exact Grew.refl _ | with_reducible assumption | with_reducible apply Grew.plus | with_reducible apply Grew.drewN | with_reducible apply Grew.drew | with_reducible apply Grew.alloc | with_reducible refine Grew.setCell ?_ (by simp [go_sem]; try omega) _))).mono ?_; rintro e w' ⟨rfl, rfl⟩)
      | (go_at_call 86; refine (WN.out _ (by repeat (first | with_reducible exact HG.out | with_reducible exact Grew.refl _ | with_reducible assumption | with_reducible apply Grew.plus | with_reducible apply Grew.drewN | with_reducible apply Grew.drew | with_reducible apply Grew.alloc | with_reducible refine Grew.setCell ?_ (by simp [go_sem]; try omega) _))).mono ?_; rintro e w1 ⟨hg1, v, rfl, hv⟩; obtain ⟨t, z, rfl⟩ := hv.iface; have HV := Lib.hid (And.intro hg1 hv); clear hg1 hv)
      | (go_at_call 60; refine (must_err _ _ _ _).mono ?_; rintro e w' ⟨rfl, rfl⟩))
    exact ⟨rfl, (GrewX.of_grew (ks := [R]) (by exact by repeat (first | with_reducible exact HG.out | with_reducible exact Grew.refl _ | with_reducible assumption | with_reducible apply Grew.plus | with_reducible apply Grew.drewN | with_reducible apply Grew.drew | with_reducible apply Grew.alloc | with_reducible refine Grew.setCell ?_ (by simp [go_sem]; try omega) _))).trans HV.out.1, _, rfl, HV.out.2⟩
  | ok x =>
    obtain ⟨n, q⟩ := x
    rw [hw] at WN
    clear hw
    simp only
    by_cases hlt : n < least
    · simp only [decide_eq_true hlt, if_true]
      have hlt2 : (n : Int) < least := by omega
      go_enter Tryz.func52, Tryz.ntmps52
      go_wp2_with (first
        | (go_at_call 58; refine (WA.out _ (by repeat (first | with_reducible exact HG.out | with_reducible exact Grew.refl _ | with_reducible assumption | with_reducible apply Grew.plus | with_reducible apply Grew.drewN | with_reducible apply Grew.drew | with_reducible apply Grew.alloc | with_reducible refine Grew.setCell ?_ (by simp [go_sem]; try omega) _))).mono ?_; rintro e w' ⟨rfl, rfl⟩)
        | (go_at_call 86; refine (WN.out _ (by repeat (first | with_reducible exact HG.out | with_reducible exact Grew.refl _ | with_reducible assumption | with_reducible apply Grew.plus | with_reducible apply Grew.drewN | with_reducible apply Grew.drew | with_reducible apply Grew.alloc | with_reducible refine Grew.setCell ?_ (by simp [go_sem]; try omega) _))).mono ?_; rintro e w1 ⟨hg1, rfl, hr1⟩; have hgx := (GrewX.of_grew (ks := [R]) (show Grew w _ by exact by repeat (first | with_reducible exact HG.out | with_reducible exact Grew.refl _ | with_reducible assumption | with_reducible apply Grew.plus | with_reducible apply Grew.drewN | with_reducible apply Grew.drew | with_reducible apply Grew.alloc | with_reducible refine Grew.setCell ?_ (by simp [go_sem]; try omega) _))).trans hg1; have s6 := (H.out.s.grew (hgx.toGrew H.out.g (by simpa using H.out.hR))).s6; have l6 : 5 < w1.heap.size := World.block_lt_of_cell? w1 _ s6; have HX := Lib.hid hgx; clear hg1 hr1 hgx)
        | (go_at_call 60; first | (with_reducible refine (must_nil _ _).mono ?_; rintro e w' ⟨rfl, rfl⟩) | (with_reducible refine (must_err _ _ _ _).mono ?_; rintro e w' ⟨rfl, rfl⟩)))
      exact ⟨rfl, HX.out, _, rfl, .reason 6 (by omega) (by omega)⟩
    · simp only [decide_eq_false hlt, if_false, Bool.false_eq_true]
      have hlt2 : ¬ (n : Int) < least := by omega
      go_enter Tryz.func52, Tryz.ntmps52
      go_wp2_with (first
        | (go_at_call 58; refine (WA.out _ (by repeat (first | with_reducible exact HG.out | with_reducible exact Grew.refl _ | with_reducible assumption | with_reducible apply Grew.plus | with_reducible apply Grew.drewN | with_reducible apply Grew.drew | with_reducible apply Grew.alloc | with_reducible refine Grew.setCell ?_ (by simp [go_sem]; try omega) _))).mono ?_; rintro e w' ⟨rfl, rfl⟩)
        | (go_at_call 86; refine (WN.out _ (by repeat (first | with_reducible exact HG.out | with_reducible exact Grew.refl _ | with_reducible assumption | with_reducible apply Grew.plus | with_reducible apply Grew.drewN | with_reducible apply Grew.drew | with_reducible apply Grew.alloc | with_reducible refine Grew.setCell ?_ (by simp [go_sem]; try omega) _))).mono ?_; rintro e w1 ⟨hg1, rfl, hr1⟩; have hgx := (GrewX.of_grew (ks := [R]) (show Grew w _ by exact by repeat (first | with_reducible exact HG.out | with_reducible exact Grew.refl _ | with_reducible assumption | with_reducible apply Grew.plus | with_reducible apply Grew.drewN | with_reducible apply Grew.drew | with_reducible apply Grew.alloc | with_reducible refine Grew.setCell ?_ (by simp [go_sem]; try omega) _))).trans hg1; have HX := Lib.hid (And.intro hgx hr1); clear hg1 hr1 hgx)
        | (go_at_call 60; refine (must_nil _ _).mono ?_; rintro e w' ⟨rfl, rfl⟩))
      go_ret
      exact ⟨HX.out.1, rfl, H.out.step HX.out.1 HX.out.2⟩
end
end Go.Proofs.YtnhmekdnfinmiaaGreatDoor
/- Walks: image's eye: count, byte, id, last. -/
namespace Go.Proofs.YtnhmekdnfinmiaaGreatDoor
open Go.RowKit Go.Par
set_option linter.unusedSimpArgs false
set_option linter.unusedVariables false
section
variable {S : Nat → Addr} {w0 w w' : World} {R : Nat} {a : Option Addr} {cap : Nat} {l : List UInt8} {p q : Nat}
set_option maxRecDepth 100000 in
set_option maxHeartbeats 1000000 in
theorem eye_count (h : RA S w0 R a cap l w p) (least : Nat) (hl1 : 1 ≤ least) (hl4 : least ≤ 4) :
    Calls Tryz.prog 53 #[.agg #[pt R], .int .i64 least] w fun e w' => GrewX [R] w w' ∧ IPost S w0 R a cap l isN (pCount l least p) e w' := by
  have lR := h.lt
  have H := Lib.hid h
  have WN := Lib.hid (fun W (hW : Grew w W) => wire_Count h.s (h.g.trans hW) h.hR (h.r.grew hW) (h.grew hW).ab least hl1 hl4 2147483647 (by omega) (by omega))
  have WA := Lib.hid (fun W (hW : Grew w W) => wire_at (h.r.grew hW))
  clear h
  unfold pCount
  cases hw : wCount l least 2147483647 p with
  | error r =>
    rw [hw] at WN
    obtain ⟨c, k, rfl⟩ := wCount_wired l least 2147483647 p r hw
    clear hw
    go_enter Tryz.func53, Tryz.ntmps53
    go_wp2_with (first
      | (go_at_call 58; refine (WA.out _ (by repeat (first | with_reducible exact HG.out | with_reducible exact Grew.refl _ | with_reducible assumption | with_reducible apply Grew.plus | with_reducible apply Grew.drewN | with_reducible apply Grew.drew | with_reducible apply Grew.alloc | with_reducible refine Grew.setCell ?_ (by simp [go_sem]; try omega) _))).mono ?_; rintro e w' ⟨rfl, rfl⟩)
      | (go_at_call 87; refine (WN.out _ (by repeat (first | with_reducible exact HG.out | with_reducible exact Grew.refl _ | with_reducible assumption | with_reducible apply Grew.plus | with_reducible apply Grew.drewN | with_reducible apply Grew.drew | with_reducible apply Grew.alloc | with_reducible refine Grew.setCell ?_ (by simp [go_sem]; try omega) _))).mono ?_; rintro e w1 ⟨hg1, v, rfl, hv⟩; obtain ⟨t, z, rfl⟩ := hv.iface; have HV := Lib.hid (And.intro hg1 hv); clear hg1 hv)
      | (go_at_call 60; refine (must_err _ _ _ _).mono ?_; rintro e w' ⟨rfl, rfl⟩))
    exact ⟨rfl, (GrewX.of_grew (ks := [R]) (by exact by repeat (first | with_reducible exact HG.out | with_reducible exact Grew.refl _ | with_reducible assumption | with_reducible apply Grew.plus | with_reducible apply Grew.drewN | with_reducible apply Grew.drew | with_reducible apply Grew.alloc | with_reducible refine Grew.setCell ?_ (by simp [go_sem]; try omega) _))).trans HV.out.1, _, rfl, HV.out.2⟩
  | ok x =>
    obtain ⟨n, q⟩ := x
    rw [hw] at WN
    clear hw
    go_enter Tryz.func53, Tryz.ntmps53
    go_wp2_with (first
      | (go_at_call 58; refine (WA.out _ (by repeat (first | with_reducible exact HG.out | with_reducible exact Grew.refl _ | with_reducible assumption | with_reducible apply Grew.plus | with_reducible apply Grew.drewN | with_reducible apply Grew.drew | with_reducible apply Grew.alloc | with_reducible refine Grew.setCell ?_ (by simp [go_sem]; try omega) _))).mono ?_; rintro e w' ⟨rfl, rfl⟩)
      | (go_at_call 87; refine (WN.out _ (by repeat (first | with_reducible exact HG.out | with_reducible exact Grew.refl _ | with_reducible assumption | with_reducible apply Grew.plus | with_reducible apply Grew.drewN | with_reducible apply Grew.drew | with_reducible apply Grew.alloc | with_reducible refine Grew.setCell ?_ (by simp [go_sem]; try omega) _))).mono ?_; rintro e w1 ⟨hg1, rfl, hr1⟩; have hgx := (GrewX.of_grew (ks := [R]) (show Grew w _ by exact by repeat (first | with_reducible exact HG.out | with_reducible exact Grew.refl _ | with_reducible assumption | with_reducible apply Grew.plus | with_reducible apply Grew.drewN | with_reducible apply Grew.drew | with_reducible apply Grew.alloc | with_reducible refine Grew.setCell ?_ (by simp [go_sem]; try omega) _))).trans hg1; have HX := Lib.hid (And.intro hgx hr1); clear hg1 hr1 hgx)
      | (go_at_call 60; refine (must_nil _ _).mono ?_; rintro e w' ⟨rfl, rfl⟩))
    go_ret
    exact ⟨HX.out.1, rfl, H.out.step HX.out.1 HX.out.2⟩
def isB (b : UInt8) (e : Ending) (w' : World) : Prop := e = .returned (.int .i64 b.toNat)
set_option maxRecDepth 100000 in
set_option maxHeartbeats 1000000 in
theorem eye_byte (h : RA S w0 R a cap l w p) (lo hi : Nat) :
    Calls Tryz.prog 51 #[.agg #[pt R], .int .u8 lo, .int .u8 hi] w fun e w' => GrewX [R] w w' ∧ IPost S w0 R a cap l isB (pByte l lo hi p) e w' := by
  have lR := h.lt
  have H := Lib.hid h
  have WN := Lib.hid (fun W (hW : Grew w W) => wire_Byte h.s (h.g.trans hW) h.hR (h.r.grew hW) (h.grew hW).ab)
  have WA := Lib.hid (fun W (hW : Grew w W) => wire_at (h.r.grew hW))
  clear h
  unfold pByte pChk
  cases hw : wByte l p with
  | error r =>
    rw [hw] at WN
    obtain ⟨c, k, rfl⟩ := wByte_wired l p r hw
    clear hw
    simp only
    go_enter Tryz.func51, Tryz.ntmps51
    go_wp2_with (first
      | (go_at_call 58; refine (WA.out _ (by repeat (first | with_reducible exact HG.out | with_reducible exact Grew.refl _ | with_reducible assumption | with_reducible apply Grew.plus | with_reducible apply Grew.drewN | with_reducible apply Grew.drew | with_reducible apply Grew.alloc | with_reducible refine Grew.setCell ?_ (by simp [go_sem]; try omega) _))).mono ?_; rintro e w' ⟨rfl, rfl⟩)
      | (go_at_call 85; refine (WN.out _ (by repeat (first | with_reducible exact HG.out | with_reducible exact Grew.refl _ | with_reducible assumption | with_reducible apply Grew.plus | with_reducible apply Grew.drewN | with_reducible apply Grew.drew | with_reducible apply Grew.alloc | with_reducible refine Grew.setCell ?_ (by simp [go_sem]; try omega) _))).mono ?_; rintro e w1 ⟨hg1, v, rfl, hv⟩; obtain ⟨t, z, rfl⟩ := hv.iface; have HV := Lib.hid (And.intro hg1 hv); clear hg1 hv)
      | (go_at_call 60; refine (must_err _ _ _ _).mono ?_; rintro e w' ⟨rfl, rfl⟩))
    exact ⟨rfl, (GrewX.of_grew (ks := [R]) (by exact by repeat (first | with_reducible exact HG.out | with_reducible exact Grew.refl _ | with_reducible assumption | with_reducible apply Grew.plus | with_reducible apply Grew.drewN | with_reducible apply Grew.drew | with_reducible apply Grew.alloc | with_reducible refine Grew.setCell ?_ (by simp [go_sem]; try omega) _))).trans HV.out.1, _, rfl, HV.out.2⟩
  | ok x =>
    obtain ⟨b, q⟩ := x
    rw [hw] at WN
    clear hw
    simp only
    have hb256 : b.toNat < 256 := b.toNat_lt
    by_cases h1 : b.toNat < lo
    · simp only [decide_eq_true h1, Bool.true_or, if_true]
      have hlt2 : (b.toNat : Int) < lo := by omega
      go_enter Tryz.func51, Tryz.ntmps51
      go_wp2_with (first
        | (go_at_call 58; refine (WA.out _ (by repeat (first | with_reducible exact HG.out | with_reducible exact Grew.refl _ | with_reducible assumption | with_reducible apply Grew.plus | with_reducible apply Grew.drewN | with_reducible apply Grew.drew | with_reducible apply Grew.alloc | with_reducible refine Grew.setCell ?_ (by simp [go_sem]; try omega) _))).mono ?_; rintro e w' ⟨rfl, rfl⟩)
        | (go_at_call 85; refine (WN.out _ (by repeat (first | with_reducible exact HG.out | with_reducible exact Grew.refl _ | with_reducible assumption | with_reducible apply Grew.plus | with_reducible apply Grew.drewN | with_reducible apply Grew.drew | with_reducible apply Grew.alloc | with_reducible refine Grew.setCell ?_ (by simp [go_sem]; try omega) _))).mono ?_; rintro e w1 ⟨hg1, rfl, hr1⟩; have hgx := (GrewX.of_grew (ks := [R]) (show Grew w _ by exact by repeat (first | with_reducible exact HG.out | with_reducible exact Grew.refl _ | with_reducible assumption | with_reducible apply Grew.plus | with_reducible apply Grew.drewN | with_reducible apply Grew.drew | with_reducible apply Grew.alloc | with_reducible refine Grew.setCell ?_ (by simp [go_sem]; try omega) _))).trans hg1; have s6 := (H.out.s.grew (hgx.toGrew H.out.g (by simpa using H.out.hR))).s6; have l6 : 5 < w1.heap.size := World.block_lt_of_cell? w1 _ s6; have HX := Lib.hid hgx; clear hg1 hr1 hgx)
        | (go_at_call 60; first | (with_reducible refine (must_nil _ _).mono ?_; rintro e w' ⟨rfl, rfl⟩) | (with_reducible refine (must_err _ _ _ _).mono ?_; rintro e w' ⟨rfl, rfl⟩)))
      exact ⟨rfl, HX.out, _, rfl, .reason 6 (by omega) (by omega)⟩
    · by_cases h2 : hi < b.toNat
      · simp only [decide_eq_true h2, Bool.or_true, if_true]
        have hlt2 : ¬ (b.toNat : Int) < lo := by omega
        have hlt3 : (hi : Int) < b.toNat := by omega
        go_enter Tryz.func51, Tryz.ntmps51
        go_wp2_with (first
          | (go_at_call 58; refine (WA.out _ (by repeat (first | with_reducible exact HG.out | with_reducible exact Grew.refl _ | with_reducible assumption | with_reducible apply Grew.plus | with_reducible apply Grew.drewN | with_reducible apply Grew.drew | with_reducible apply Grew.alloc | with_reducible refine Grew.setCell ?_ (by simp [go_sem]; try omega) _))).mono ?_; rintro e w' ⟨rfl, rfl⟩)
          | (go_at_call 85; refine (WN.out _ (by repeat (first | with_reducible exact HG.out | with_reducible exact Grew.refl _ | with_reducible assumption | with_reducible apply Grew.plus | with_reducible apply Grew.drewN | with_reducible apply Grew.drew | with_reducible apply Grew.alloc | with_reducible refine Grew.setCell ?_ (by simp [go_sem]; try omega) _))).mono ?_; rintro e w1 ⟨hg1, rfl, hr1⟩; have hgx := (GrewX.of_grew (ks := [R]) (show Grew w _ by exact by repeat (first | with_reducible exact HG.out | with_reducible exact Grew.refl _ | with_reducible assumption | with_reducible apply Grew.plus | with_reducible apply Grew.drewN | with_reducible apply Grew.drew | with_reducible apply Grew.alloc | with_reducible refine Grew.setCell ?_ (by simp [go_sem]; try omega) _))).trans hg1; have s6 := (H.out.s.grew (hgx.toGrew H.out.g (by simpa using H.out.hR))).s6; have l6 : 5 < w1.heap.size := World.block_lt_of_cell? w1 _ s6; have HX := Lib.hid hgx; clear hg1 hr1 hgx)
          | (go_at_call 60; first | (with_reducible refine (must_nil _ _).mono ?_; rintro e w' ⟨rfl, rfl⟩) | (with_reducible refine (must_err _ _ _ _).mono ?_; rintro e w' ⟨rfl, rfl⟩)))
        exact ⟨rfl, HX.out, _, rfl, .reason 6 (by omega) (by omega)⟩
      · simp only [decide_eq_false h1, decide_eq_false h2, Bool.or_false, if_false, Bool.false_eq_true]
        have hlt2 : ¬ (b.toNat : Int) < lo := by omega
        have hlt3 : ¬ (hi : Int) < b.toNat := by omega
        go_enter Tryz.func51, Tryz.ntmps51
        go_wp2_with (first
          | (go_at_call 58; refine (WA.out _ (by repeat (first | with_reducible exact HG.out | with_reducible exact Grew.refl _ | with_reducible assumption | with_reducible apply Grew.plus | with_reducible apply Grew.drewN | with_reducible apply Grew.drew | with_reducible apply Grew.alloc | with_reducible refine Grew.setCell ?_ (by simp [go_sem]; try omega) _))).mono ?_; rintro e w' ⟨rfl, rfl⟩)
          | (go_at_call 85; refine (WN.out _ (by repeat (first | with_reducible exact HG.out | with_reducible exact Grew.refl _ | with_reducible assumption | with_reducible apply Grew.plus | with_reducible apply Grew.drewN | with_reducible apply Grew.drew | with_reducible apply Grew.alloc | with_reducible refine Grew.setCell ?_ (by simp [go_sem]; try omega) _))).mono ?_; rintro e w1 ⟨hg1, rfl, hr1⟩; have hgx := (GrewX.of_grew (ks := [R]) (show Grew w _ by exact by repeat (first | with_reducible exact HG.out | with_reducible exact Grew.refl _ | with_reducible assumption | with_reducible apply Grew.plus | with_reducible apply Grew.drewN | with_reducible apply Grew.drew | with_reducible apply Grew.alloc | with_reducible refine Grew.setCell ?_ (by simp [go_sem]; try omega) _))).trans hg1; have HX := Lib.hid (And.intro hgx hr1); clear hg1 hr1 hgx)
          | (go_at_call 60; refine (must_nil _ _).mono ?_; rintro e w' ⟨rfl, rfl⟩))
        go_ret
        exact ⟨HX.out.1, rfl, H.out.step HX.out.1 HX.out.2⟩
theorem eye_last (i n : Nat) (hi : i ≤ 1000) (hn : n ≤ 1000) (w : World) : Calls Tryz.prog 89 #[.int .i64 i, .int .i64 n] w fun e w' => e = .returned (.int .i64 (lastOf i n)) ∧ w = w' := by
  unfold lastOf
  by_cases h : i + 1 = n
  · simp only [if_pos h]
    have h1 : (i : Int) = n - 1 := by omega
    go_enter Tryz.func89, Tryz.ntmps89
    go_wp2
    go_ret
    exact ⟨rfl, rfl⟩
  · simp only [if_neg h]
    have h1 : ¬ (i : Int) = n - 1 := by omega
    go_enter Tryz.func89, Tryz.ntmps89
    go_wp2
    go_ret
    exact ⟨rfl, rfl⟩
end
end Go.Proofs.YtnhmekdnfinmiaaGreatDoor
/- Walks: image's eye: id. -/
namespace Go.Proofs.YtnhmekdnfinmiaaGreatDoor
open Go.RowKit Go.Par
set_option linter.unusedSimpArgs false
set_option linter.unusedVariables false
def idV (i : PId) : Value := .agg #[.int .i64 i.ep, .int .i64 i.rp, .int .i64 i.nb]
def isId (i : PId) (e : Ending) (w' : World) : Prop := e = .returned (idV i)
section
variable {S : Nat → Addr} {w0 w w' : World} {R : Nat} {a : Option Addr} {cap : Nat} {l : List UInt8} {p q : Nat}
theorem number_no (h : RA S w0 R a cap l w p) {least : Nat} {m : Int} (hm : 0 ≤ m) (hm2 : m ≤ 9223372036854775807) {r : Ref} (hn : pNum l least m p = .error r) :
    Calls Tryz.prog 52 #[.agg #[pt R], .int .i64 least, .int .i64 m] w fun e w' => ∃ v, e = .panicked [{ v := istop (placeOf r) v, recovered := false }] ∧ WhyAt S w' r v ∧ GrewX [R] w w' :=
  (eye_number h least m hm hm2).mono fun e w' ⟨h1, h2⟩ => by rw [hn] at h2; obtain ⟨v, h3, h4⟩ := h2; exact ⟨v, h3, h4, h1⟩
theorem number_ok (h : RA S w0 R a cap l w p) {least : Nat} {m : Int} (hm : 0 ≤ m) (hm2 : m ≤ 9223372036854775807) {n q : Nat} (hn : pNum l least m p = .ok (n, q)) :
    Calls Tryz.prog 52 #[.agg #[pt R], .int .i64 least, .int .i64 m] w fun e w' => e = .returned (.int .i64 n) ∧ RA S w0 R a cap l w' q ∧ GrewX [R] w w' :=
  (eye_number h least m hm hm2).mono fun e w' ⟨h1, h2⟩ => by rw [hn] at h2; exact ⟨h2.1, h2.2, h1⟩
set_option maxRecDepth 100000 in
set_option maxHeartbeats 1000000 in
theorem eye_id (h : RA S w0 R a cap l w p) :
    Calls Tryz.prog 54 #[.agg #[pt R]] w fun e w' => GrewX [R] w w' ∧ IPost S w0 R a cap l isId (pId l p) e w' := by
  have lR := h.lt
  have lR0 := h.hR
  have l0 := h.g.size
  have hab := h.ab
  have h2 := h.grew (((Grew.refl w).alloc (.cells #[pt R] 84)).alloc (.cells #[.int .i64 0, .int .i64 0, .int .i64 0] 36))
  have g2 : GrewX [R] w ((w.alloc (.cells #[pt R] 84)).alloc (.cells #[.int .i64 0, .int .i64 0, .int .i64 0] 36)) := GrewX.of_grew (((Grew.refl w).alloc _).alloc _)
  have a2 : ((w.alloc (.cells #[pt R] 84)).alloc (.cells #[.int .i64 0, .int .i64 0, .int .i64 0] 36)).heap[w.heap.size]? = some (.cells #[pt R] 84 (0, 0)) := Grew.heap ((Grew.refl _).alloc _) (heap_alloc_at _ _ _ rfl)
  have b2 : ((w.alloc (.cells #[pt R] 84)).alloc (.cells #[.int .i64 0, .int .i64 0, .int .i64 0] 36)).heap[w.heap.size + 1]? = some (.cells #[.int .i64 0, .int .i64 0, .int .i64 0] 36 (0, 0)) := heap_alloc_at _ _ _ (by simp [go_sem])
  have z2 : ((w.alloc (.cells #[pt R] 84)).alloc (.cells #[.int .i64 0, .int .i64 0, .int .i64 0] 36)).heap.size = w.heap.size + 1 + 1 := by simp [go_sem]
  have hBR : w.heap.size + 1 ≠ R := by omega
  have hB0 : w0.heap.size ≤ w.heap.size + 1 := by omega
  have hBa : ∀ q, a = some q → q.block ≠ w.heap.size + 1 := fun q hq => by have := hab q hq; omega
  have hAB : w.heap.size ≠ w.heap.size + 1 := by omega
  have hAR : w.heap.size ≠ R := by omega
  have HBa := Lib.hid hBa
  clear h lR0 l0 hab hBa
  go_enter Tryz.func54, Tryz.ntmps54
  go_wp2_with fail
  generalize ((w.alloc (.cells #[pt R] 84)).alloc (.cells #[.int .i64 0, .int .i64 0, .int .i64 0] 36)) = W at *
  generalize hBB : w.heap.size + 1 = B at *
  have HBB := Lib.hid hBB
  clear hBB
  cases h1 : pNum l 0 most p with
  | error r =>
    refine (number_no h2 (by decide) (by decide) h1).mono ?_
    rintro e w1 ⟨v, rfl, hv, hg⟩
    exact ⟨rfl, g2.trans hg, by unfold pId PM.bind; simp only [h1]; exact ⟨v, rfl, hv⟩⟩
  | ok x =>
    obtain ⟨n1, p1⟩ := x
    refine (number_ok h2 (by decide) (by decide) h1).mono ?_
    rintro e w1 ⟨rfl, hr1, hg1⟩
    have a3 := hg1.heap a2 (by simpa using hAR)
    have b3 := hg1.heap b2 (by simpa using hBR)
    have HX := Lib.hid (And.intro hr1 (And.intro (g2.trans hg1) (And.intro a3 b3)))
    have c0 : ∀ i u, (w1.setCell ⟨B, i, none⟩ u).cellsAt ⟨w.heap.size, 0, none⟩ 1 = some [pt R] := fun i u => World.cellsAt_block (by rw [World.block_setCell _ _ _ _ hAB]; exact a3) 1 rfl
    obtain ⟨k0, m0⟩ := World.own_cell b3 0 _ rfl
    have lB : B < w1.heap.size := (Array.getElem?_eq_some_iff.1 b3).1
    simp only [List.getElem_toArray, List.getElem_cons_zero] at k0
    clear h2 g2 a2 b2 z2 hr1 hg1 a3 b3
    go_wp2_with fail
    obtain ⟨hr1, hg1, a3, b3⟩ := HX.out
    have hr2 := hr1.set (b := B) (i := 0) (.int .i64 n1) hB0 hBR HBa.out
    have hg2 : GrewX [R] w (w1.setCell ⟨B, 0, none⟩ (.int .i64 n1)) := hg1.set (.inr (by have := HBB.out; simp only []; omega)) _
    have a4 : (w1.setCell ⟨B, 0, none⟩ (.int .i64 n1)).heap[w.heap.size]? = some (.cells #[pt R] 84 (0, 0)) := by rw [World.block_setCell _ _ _ _ hAB]; exact a3
    have b4 := World.own_set2 b3 0 (.int .i64 n1) #[.int .i64 n1, .int .i64 0, .int .i64 0] rfl
    clear c0 k0 m0 lB hr1 hg1 a3 b3 HX
    generalize w1.setCell ⟨B, 0, none⟩ (.int .i64 n1) = w2 at *
    cases h2 : pNum l 0 most p1 with
    | error r =>
      refine (number_no hr2 (by decide) (by decide) h2).mono ?_
      rintro e w3 ⟨v, rfl, hv, hg⟩
      exact ⟨rfl, hg2.trans hg, by unfold pId PM.bind; simp only [h1, h2]; exact ⟨v, rfl, hv⟩⟩
    | ok x =>
      obtain ⟨n2, p2⟩ := x
      refine (number_ok hr2 (by decide) (by decide) h2).mono ?_
      rintro e w3 ⟨rfl, hr3, hg3⟩
      have a5 := hg3.heap a4 (by simpa using hAR)
      have b5 := hg3.heap b4 (by simpa using hBR)
      have HX := Lib.hid (And.intro hr3 (And.intro (hg2.trans hg3) (And.intro a5 b5)))
      have c0 : ∀ i u, (w3.setCell ⟨B, i, none⟩ u).cellsAt ⟨w.heap.size, 0, none⟩ 1 = some [pt R] := fun i u => World.cellsAt_block (by rw [World.block_setCell _ _ _ _ hAB]; exact a5) 1 rfl
      obtain ⟨k0, m0⟩ := World.own_cell b5 1 _ rfl
      have lB : B < w3.heap.size := (Array.getElem?_eq_some_iff.1 b5).1
      clear hr2 hg2 a4 b4 hr3 hg3 a5 b5
      go_wp2_with fail
      obtain ⟨hr3, hg3, a5, b5⟩ := HX.out
      have hr4 := hr3.set (b := B) (i := 1) (.int .i64 n2) hB0 hBR HBa.out
      have hg4 : GrewX [R] w (w3.setCell ⟨B, 1, none⟩ (.int .i64 n2)) := hg3.set (.inr (by have := HBB.out; simp only []; omega)) _
      have b6 := World.own_set2 b5 1 (.int .i64 n2) #[.int .i64 n1, .int .i64 n2, .int .i64 0] rfl
      clear c0 k0 m0 lB hr3 hg3 a5 b5 HX
      generalize w3.setCell ⟨B, 1, none⟩ (.int .i64 n2) = w4 at *
      cases h3 : pNum l 0 most p2 with
      | error r =>
        refine (number_no hr4 (by decide) (by decide) h3).mono ?_
        rintro e w5 ⟨v, rfl, hv, hg⟩
        exact ⟨rfl, hg4.trans hg, by unfold pId PM.bind; simp only [h1, h2, h3]; exact ⟨v, rfl, hv⟩⟩
      | ok x =>
        obtain ⟨n3, p3⟩ := x
        refine (number_ok hr4 (by decide) (by decide) h3).mono ?_
        rintro e w5 ⟨rfl, hr5, hg5⟩
        have b7 := hg5.heap b6 (by simpa using hBR)
        have HX := Lib.hid (And.intro hr5 (And.intro (hg4.trans hg5) b7))
        obtain ⟨k0, m0⟩ := World.own_cell b7 2 _ rfl
        have lB : B < w5.heap.size := (Array.getElem?_eq_some_iff.1 b7).1
        have b8 := World.own_set2 b7 2 (.int .i64 n3) #[.int .i64 n1, .int .i64 n2, .int .i64 n3] rfl
        have c8 := World.cellsAt_block b8 3 rfl
        obtain ⟨f0, g0⟩ := World.own_cell b8 0 _ rfl
        obtain ⟨f1, g1⟩ := World.own_cell b8 1 _ rfl
        obtain ⟨f2, g2⟩ := World.own_cell b8 2 _ rfl
        simp only [List.getElem_toArray, List.getElem_cons_zero, List.getElem_cons_succ] at f0 f1 f2
        clear hr4 hg4 b6 hr5 hg5 b7
        go_wp2_with fail
        rw [World.setCell_self f0, World.setCell_self f1, World.setCell_self f2]
        obtain ⟨hr5, hg5, b7⟩ := HX.out
        exact bodyPost_ret (v := idV ⟨n1, n2, n3⟩) (by simp [results, Tryz.results54, go_sem, f0, f1, f2, idV]) rfl ⟨hg5.set (.inr (by have := HBB.out; simp only []; omega)) _, by unfold pId PM.bind; simp only [h1, h2, h3]; exact ⟨rfl, hr5.set (.int .i64 n3) hB0 hBR HBa.out⟩⟩
end
end Go.Proofs.YtnhmekdnfinmiaaGreatDoor
/- Walks: image's eye: row. -/
namespace Go.Par
theorem scan_le (l : List UInt8) (m : Int) : ∀ f k n p x q, scan l m f k n p = .ok (x, q) → (x : Int) ≤ m
  | 0, k, n, p, x, q, h => by rw [scan] at h; cases h
  | f + 1, k, n, p, x, q, h => by
    rw [scan] at h
    split at h
    · cases h
    · simp only at h
      split at h
      · exact scan_le l m f _ _ _ _ _ h
      · split at h
        · cases h
        · split at h
          · cases h
          · rename_i hh
            cases h
            omega
theorem pNum_le {l : List UInt8} {least : Nat} {m : Int} {p n q : Nat} (h : pNum l least m p = .ok (n, q)) : (n : Int) ≤ m ∧ least ≤ n := by
  unfold pNum pChk wNumber at h
  cases hs : scan l m 9 0 0 p with
  | error c => rw [hs] at h; cases h
  | ok x =>
    obtain ⟨y, z⟩ := x
    rw [hs] at h
    simp only at h
    split at h
    · cases h
    · rename_i hh
      cases h
      exact ⟨scan_le l m _ _ _ _ _ _ hs, by simpa using hh⟩
theorem pLoop_zero {σ : Type} (b : Nat → σ → PM σ) (i : Nat) (x : σ) (p : Nat) : pLoop b 0 i x p = .ok (x, p) := rfl
theorem pLoop_ok {σ : Type} {b : Nat → σ → PM σ} {n i p q : Nat} {x y : σ} (h : b i x p = .ok (y, q)) : pLoop b (n + 1) i x p = pLoop b n (i + 1) y q := by
  show PM.bind _ _ p = _
  unfold PM.bind
  rw [h]
theorem pLoop_no {σ : Type} {b : Nat → σ → PM σ} {n i p : Nat} {x : σ} {r : Ref} (h : b i x p = .error r) : pLoop b (n + 1) i x p = .error r := by
  show PM.bind _ _ p = _
  unfold PM.bind
  rw [h]
theorem bind_ok {α β : Type} {m : PM α} {f : α → PM β} {p q : Nat} {x : α} (h : m p = .ok (x, q)) : (m.bind f) p = f x q := by unfold PM.bind; rw [h]
theorem bind_no {α β : Type} {m : PM α} {f : α → PM β} {p : Nat} {r : Ref} (h : m p = .error r) : (m.bind f) p = .error r := by unfold PM.bind; rw [h]
end Go.Par
namespace Go.Proofs.YtnhmekdnfinmiaaGreatDoor
open Go.RowKit Go.Par
set_option linter.unusedSimpArgs false
set_option linter.unusedVariables false
def putRow (cs : Array Value) (o : Nat) : List Nat → Array Value
  | [] => cs
  | x :: xs => putRow (cs.setIfInBounds o (.int .i64 x)) (o + 1) xs
theorem putRow_push : ∀ (xs : List Nat) (cs : Array Value) (o v : Nat), putRow cs o (xs ++ [v]) = (putRow cs o xs).setIfInBounds (o + xs.length) (.int .i64 v)
  | [], cs, o, v => rfl
  | x :: xs, cs, o, v => by
    show putRow _ (o + 1) (xs ++ [v]) = _
    rw [putRow_push xs]
    show _ = (putRow (cs.setIfInBounds o _) (o + 1) xs).setIfInBounds (o + (xs.length + 1)) _
    rw [show o + 1 + xs.length = o + (xs.length + 1) by omega]
theorem putRow_size : ∀ (xs : List Nat) (cs : Array Value) (o : Nat), (putRow cs o xs).size = cs.size
  | [], cs, o => rfl
  | x :: xs, cs, o => by
    show (putRow _ (o + 1) xs).size = _
    rw [putRow_size xs, Array.size_setIfInBounds]
def rowB (l : List UInt8) (m : Int) (n i : Nat) (xs : List Nat) : PM (List Nat) := (pNum l (lastOf i n) m).bind fun v => PM.pure (xs ++ [v])
section
variable {S : Nat → Addr} {w0 w w' : World} {R : Nat} {a : Option Addr} {cap : Nat} {l : List UInt8} {p q : Nat}
set_option maxRecDepth 100000 in
set_option maxHeartbeats 1000000 in
theorem eye_row (h : RA S w0 R a cap l w p) (m : Int) (hm : 0 ≤ m) (hm2 : m ≤ 9223372036854775807) {A off : Nat} {cs : Array Value} {t : TypeId} (hA : w.heap[A]? = some (.cells cs t (0, 0))) (ho : off + 8 ≤ cs.size) (hAR : A ≠ R) (hA0 : w0.heap.size ≤ A) (hAa : ∀ q, a = some q → q.block ≠ A) :
    Calls Tryz.prog 88 #[.agg #[pt R], .slice (some ⟨A, off, none⟩) 8 8, .int .i64 m] w fun e w' => GrewX [R, A] w w' ∧ IPost S w0 R a cap l (fun xs e w' => e = .returned (.tuple #[]) ∧ w'.heap[A]? = some (.cells (putRow cs off xs) t (0, 0))) (pRow l m p) e w' := by
  have lR := h.lt
  have lA : A < w.heap.size := (Array.getElem?_eq_some_iff.1 hA).1
  have h2 := h.grew ((Grew.refl w).alloc (.cells #[pt R] 84))
  have g2 : GrewX [R, A] w (w.alloc (.cells #[pt R] 84)) := GrewX.of_grew ((Grew.refl w).alloc _)
  have a2 : (w.alloc (.cells #[pt R] 84)).heap[w.heap.size]? = some (.cells #[pt R] 84 (0, 0)) := heap_alloc_at _ _ _ rfl
  have b2 : (w.alloc (.cells #[pt R] 84)).heap[A]? = some (.cells cs t (0, 0)) := Grew.heap ((Grew.refl _).alloc _) hA
  have hBR : w.heap.size ≠ R := by omega
  have hBA : w.heap.size ≠ A := by omega
  have HAa := Lib.hid hAa
  clear h hA hAa
  go_enter Tryz.func88, Tryz.ntmps88
  go_wp2_with fail
  generalize (w.alloc (.cells #[pt R] 84)) = W at *
  generalize w.heap.size = B at *
  cases h1 : pNum l 0 8 p with
  | error r =>
    refine (number_no h2 (by decide) (by decide) h1).mono ?_
    rintro e w1 ⟨v, rfl, hv, hg⟩
    exact ⟨rfl, g2.trans (hg.mono (by simp)), by unfold pRow; rw [bind_no h1]; exact ⟨v, rfl, hv⟩⟩
  | ok x =>
    obtain ⟨n, p1⟩ := x
    have hn8 : n ≤ 8 := by have := (pNum_le h1).1; omega
    refine (number_ok h2 (by decide) (by decide) h1).mono ?_
    rintro e w1 ⟨rfl, hr1, hg1⟩
    have hx1 : GrewX [R, A] w w1 := g2.trans (hg1.mono (by simp))
    have a3 := hg1.heap a2 (by simpa using hBR)
    have b3 := hg1.heap b2 (by simpa using hAR)
    have HX := Lib.hid (And.intro hr1 (And.intro hx1 (And.intro a3 b3)))
    have H1 := Lib.hid h1
    clear h2 g2 a2 b2 hr1 hg1 a3 b3 hx1 h1
    go_wp2_with fail
    go_loopw [11] (fun i wr => ∃ (k : Nat) (xs : List Nat) (q : Nat), k ≤ n ∧ i = .int .i64 k ∧ xs.length = k ∧ pLoop (rowB l m n) (n - k) k xs q = pLoop (rowB l m n) n 0 [] p1 ∧ RA S w0 R a cap l wr q ∧ GrewX [R, A] w wr ∧ wr.heap[B]? = some (.cells #[pt R] 84 (0, 0)) ∧ wr.heap[A]? = some (.cells (putRow cs off xs) t (0, 0))) (fun i _ => n - (intOf i).toNat)
    case atStart => obtain ⟨hr1, hx1, a3, b3⟩ := HX.out; exact ⟨0, [], p1, by omega, rfl, rfl, rfl, hr1, hx1, a3, b3⟩
    case round =>
      obtain ⟨k, xs, q, hk, rfl, hxl, hl, hr, hg, ha, hb⟩ := hrel
      by_cases hlt : k < n
      · have c0 := World.cellsAt_block ha 1 rfl
        have lB : B < wr.heap.size := (Array.getElem?_eq_some_iff.1 ha).1
        have lA2 : A < wr.heap.size := (Array.getElem?_eq_some_iff.1 hb).1
        have hi : off + k < (putRow cs off xs).size := by rw [putRow_size]; omega
        obtain ⟨k0, m0⟩ := World.own_cell hb (off + k) _ (Array.getElem?_eq_getElem hi)
        have HB : Hid (∀ W2, GrewX [R, A] wr W2 → W2.cellsAt ⟨B, 0, none⟩ 1 = some [pt R]) := Lib.hid fun W2 hW => World.cellsAt_block (hW.heap ha (by simp [hBR, hBA])) 1 rfl
        have HC : Hid (∀ W2, GrewX [R] wr W2 → W2.cell? ⟨A, off + k, none⟩ = some (putRow cs off xs)[off + k] ∧ W2.frozen? ⟨A, off + k, none⟩ = false) := Lib.hid fun W2 hW => World.own_cell (hW.heap hb (by simpa using hAR)) (off + k) _ (Array.getElem?_eq_getElem hi)
        have HY := Lib.hid (And.intro hr (And.intro hg (And.intro ha hb)))
        have HLL := Lib.hid hl
        generalize (putRow cs off xs)[off + k] = old at *
        clear hr hg ha hb hl
        cases h3 : pNum l (lastOf k n) m q with
        | error r =>
          have HN := Lib.hid (fun W2 (hW : Grew wr W2) => number_no (HY.out.1.grew hW) hm hm2 h3)
          have LA := Lib.hid (fun W2 => eye_last k n (by omega) (by omega) W2)
          have HW := Lib.hid (show pRow l m p = .error r by
            unfold pRow
            rw [bind_ok H1.out]
            show pLoop (rowB l m n) n 0 [] p1 = _
            rw [← HLL.out, show n - k = (n - k - 1) + 1 by omega]
            exact pLoop_no (bind_no h3))
          clear h3
          go_wp2_with fail
          refine wp_region_held_drew (S := fun w' => w'.cellsAt ⟨B, 0, none⟩ 1 = some [pt R] ∧ Grew wr w') (by kernel_rfl) ⟨HB.out _ (by repeat (first | with_reducible exact HG.out | with_reducible exact GrewX.refl _ _ | with_reducible assumption | with_reducible apply GrewX.plus | with_reducible apply GrewX.drewN | with_reducible apply GrewX.drew | with_reducible apply GrewX.alloc | with_reducible refine GrewX.set ?_ (.inl (by simp)) _)), by repeat (first | with_reducible exact HG.out | with_reducible exact Grew.refl _ | with_reducible assumption | with_reducible apply Grew.plus | with_reducible apply Grew.drewN | with_reducible apply Grew.drew | with_reducible apply Grew.alloc | with_reducible refine Grew.setCell ?_ (by simp [go_sem]; try omega) _)⟩ (fun hHeld => ?_)
          refine wpAnyH_take (i := 0) (v := ?_) rfl (by kernel_rfl) (by kernel_rfl) (by kernel_rfl) (by first | exact fun _ _ _ h => h | exact fun _ _ _ h => HQP _ _ _ _ (by rfl) h) (Or.inl ⟨by rfl, ?_⟩) (by assumption) ?_
          rotate_left 1
          · (intro w hSw; (try dsimp only at hSw); go_simp; (try with_reducible rfl))
          (try simp only [List.getElem_toArray, List.getElem_cons_zero, List.getElem_cons_succ])
          (try simp only [Act.put, List.setIfInBounds_toArray, List.set_cons_zero, List.set_cons_succ])
          refine wpAnyH_take (i := 1) (v := ?_) rfl (by kernel_rfl) (by kernel_rfl) (by kernel_rfl) (by first | exact fun _ _ _ h => h | exact fun _ _ _ h => HQP _ _ _ _ (by rfl) h) (Or.inl ⟨by rfl, ?_⟩) (by assumption) ?_
          rotate_left 1
          · (intro w hSw; (try dsimp only at hSw); go_simp; (try with_reducible rfl))
          (try simp only [List.getElem_toArray, List.getElem_cons_zero, List.getElem_cons_succ])
          (try simp only [Act.put, List.setIfInBounds_toArray, List.set_cons_zero, List.set_cons_succ])
          refine wpAnyH_take (i := 2) (v := ?_) rfl (by kernel_rfl) (by kernel_rfl) (by kernel_rfl) (by first | exact fun _ _ _ h => h | exact fun _ _ _ h => HQP _ _ _ _ (by rfl) h) (Or.inl ⟨by rfl, ?_⟩) (by assumption) ?_
          rotate_left 1
          · (intro w hSw; (try dsimp only at hSw); go_simp; (try with_reducible rfl))
          (try simp only [List.getElem_toArray, List.getElem_cons_zero, List.getElem_cons_succ])
          (try simp only [Act.put, List.setIfInBounds_toArray, List.set_cons_zero, List.set_cons_succ])
          refine wpAnyH_take (i := 3) (v := ?_) rfl (by kernel_rfl) (by kernel_rfl) (by kernel_rfl) (by first | exact fun _ _ _ h => h | exact fun _ _ _ h => HQP _ _ _ _ (by rfl) h) (Or.inl ⟨by rfl, ?_⟩) (by assumption) ?_
          rotate_left 1
          · (intro w hSw; (try dsimp only at hSw); go_simp; (try with_reducible rfl))
          (try simp only [List.getElem_toArray, List.getElem_cons_zero, List.getElem_cons_succ])
          (try simp only [Act.put, List.setIfInBounds_toArray, List.set_cons_zero, List.set_cons_succ])
          refine wpAnyH_take (i := 4) (v := ?_) rfl (by kernel_rfl) (by kernel_rfl) (by kernel_rfl) (by first | exact fun _ _ _ h => h | exact fun _ _ _ h => HQP _ _ _ _ (by rfl) h) (Or.inl ⟨by rfl, ?_⟩) (by assumption) ?_
          rotate_left 1
          · (intro w hSw; (try dsimp only at hSw); go_simp; (try with_reducible rfl))
          (try simp only [List.getElem_toArray, List.getElem_cons_zero, List.getElem_cons_succ])
          (try simp only [Act.put, List.setIfInBounds_toArray, List.set_cons_zero, List.set_cons_succ])
          refine wpAnyH_take (i := 6) (v := ?_) rfl (by kernel_rfl) (by kernel_rfl) (by kernel_rfl) (by first | exact fun _ _ _ h => h | exact fun _ _ _ h => HQP _ _ _ _ (by rfl) h) (Or.inl ⟨by rfl, ?_⟩) (by assumption) ?_
          rotate_left 1
          · (intro w hSw; (try dsimp only at hSw); go_simp; (try with_reducible rfl))
          (try simp only [List.getElem_toArray, List.getElem_cons_zero, List.getElem_cons_succ])
          (try simp only [Act.put, List.setIfInBounds_toArray, List.set_cons_zero, List.set_cons_succ])
          refine wpAnyH_ready (rs := [5]) (by kernel_rfl) (by simp) ?_
          refine AllReadyH.cons rfl (fun K hK => ?_) AllReadyH.nil
          go_simp
          go_at_call 89
          refine (LA.out _).mono ?_
          rintro e w' ⟨rfl, rfl⟩
          refine hK.out _ _ hHeld (fun _ => ?_)
          clear hK K
          (try simp only [Act.put, List.setIfInBounds_toArray, List.set_cons_zero, List.set_cons_succ])
          refine wpAnyH_ready (rs := [7]) (by kernel_rfl) (by simp) ?_
          refine AllReadyH.cons rfl (fun K hK => ?_) AllReadyH.nil
          go_simp
          go_at_call 52
          refine (HN.out _ hHeld.2).mono ?_
          rintro e w2 ⟨v, rfl, hv, hg⟩
          exact ⟨rfl, HY.out.2.1.trans ((GrewX.of_grew hHeld.2).trans (hg.mono (by simp))), by rw [HW.out]; exact ⟨v, rfl, hv⟩⟩
        | ok x =>
          obtain ⟨v, q1⟩ := x
          have HN := Lib.hid (fun W2 (hW : Grew wr W2) => number_ok (HY.out.1.grew hW) hm hm2 h3)
          have LA := Lib.hid (fun W2 => eye_last k n (by omega) (by omega) W2)
          have HLL2 := Lib.hid (show pLoop (rowB l m n) (n - (k + 1)) (k + 1) (xs ++ [v]) q1 = pLoop (rowB l m n) n 0 [] p1 by
            rw [← HLL.out, show n - k = (n - (k + 1)) + 1 by omega]
            exact (pLoop_ok (bind_ok h3)).symm)
          clear h3
          have b1 : (0 : Int) ≤ k := by omega
          have b2 : (k : Int) < 8 := by omega
          have b3 : (k : Int).toNat = k := by omega
          have hkn2 : IntKind.i64.wrap ((k : Int) + 1) = ((k + 1 : Nat) : Int) := by rw [IntKind.wrap_i64]; omega
          have b4 : (k : Int) < n := by omega
          go_wp2_with fail
          refine wp_region_held_drew (S := fun w' => w'.cellsAt ⟨B, 0, none⟩ 1 = some [pt R]) (by kernel_rfl) (HB.out _ (by repeat (first | with_reducible exact HG.out | with_reducible exact GrewX.refl _ _ | with_reducible assumption | with_reducible apply GrewX.plus | with_reducible apply GrewX.drewN | with_reducible apply GrewX.drew | with_reducible apply GrewX.alloc | with_reducible refine GrewX.set ?_ (.inl (by simp)) _))) (fun hHeld => ?_)
          refine wpAnyH_take (i := 0) (v := ?_) rfl (by kernel_rfl) (by kernel_rfl) (by kernel_rfl) (by first | exact fun _ _ _ h => h | exact fun _ _ _ h => HQP _ _ _ _ (by rfl) h) (Or.inl ⟨by rfl, ?_⟩) (by assumption) ?_
          rotate_left 1
          · (intro w hSw; (try dsimp only at hSw); go_simp; (try with_reducible rfl))
          (try simp only [List.getElem_toArray, List.getElem_cons_zero, List.getElem_cons_succ])
          (try simp only [Act.put, List.setIfInBounds_toArray, List.set_cons_zero, List.set_cons_succ])
          refine wpAnyH_take (i := 1) (v := ?_) rfl (by kernel_rfl) (by kernel_rfl) (by kernel_rfl) (by first | exact fun _ _ _ h => h | exact fun _ _ _ h => HQP _ _ _ _ (by rfl) h) (Or.inl ⟨by rfl, ?_⟩) (by assumption) ?_
          rotate_left 1
          · (intro w hSw; (try dsimp only at hSw); go_simp; (try with_reducible rfl))
          (try simp only [List.getElem_toArray, List.getElem_cons_zero, List.getElem_cons_succ])
          (try simp only [Act.put, List.setIfInBounds_toArray, List.set_cons_zero, List.set_cons_succ])
          refine wpAnyH_take (i := 2) (v := ?_) rfl (by kernel_rfl) (by kernel_rfl) (by kernel_rfl) (by first | exact fun _ _ _ h => h | exact fun _ _ _ h => HQP _ _ _ _ (by rfl) h) (Or.inl ⟨by rfl, ?_⟩) (by assumption) ?_
          rotate_left 1
          · (intro w hSw; (try dsimp only at hSw); go_simp; (try with_reducible rfl))
          (try simp only [List.getElem_toArray, List.getElem_cons_zero, List.getElem_cons_succ])
          (try simp only [Act.put, List.setIfInBounds_toArray, List.set_cons_zero, List.set_cons_succ])
          refine wpAnyH_take (i := 3) (v := ?_) rfl (by kernel_rfl) (by kernel_rfl) (by kernel_rfl) (by first | exact fun _ _ _ h => h | exact fun _ _ _ h => HQP _ _ _ _ (by rfl) h) (Or.inl ⟨by rfl, ?_⟩) (by assumption) ?_
          rotate_left 1
          · (intro w hSw; (try dsimp only at hSw); go_simp; (try with_reducible rfl))
          (try simp only [List.getElem_toArray, List.getElem_cons_zero, List.getElem_cons_succ])
          (try simp only [Act.put, List.setIfInBounds_toArray, List.set_cons_zero, List.set_cons_succ])
          refine wpAnyH_take (i := 4) (v := ?_) rfl (by kernel_rfl) (by kernel_rfl) (by kernel_rfl) (by first | exact fun _ _ _ h => h | exact fun _ _ _ h => HQP _ _ _ _ (by rfl) h) (Or.inl ⟨by rfl, ?_⟩) (by assumption) ?_
          rotate_left 1
          · (intro w hSw; (try dsimp only at hSw); go_simp; (try with_reducible rfl))
          (try simp only [List.getElem_toArray, List.getElem_cons_zero, List.getElem_cons_succ])
          (try simp only [Act.put, List.setIfInBounds_toArray, List.set_cons_zero, List.set_cons_succ])
          refine wpAnyH_take (i := 6) (v := ?_) rfl (by kernel_rfl) (by kernel_rfl) (by kernel_rfl) (by first | exact fun _ _ _ h => h | exact fun _ _ _ h => HQP _ _ _ _ (by rfl) h) (Or.inl ⟨by rfl, ?_⟩) (by assumption) ?_
          rotate_left 1
          · (intro w hSw; (try dsimp only at hSw); go_simp; (try with_reducible rfl))
          (try simp only [List.getElem_toArray, List.getElem_cons_zero, List.getElem_cons_succ])
          (try simp only [Act.put, List.setIfInBounds_toArray, List.set_cons_zero, List.set_cons_succ])
          refine wpAnyH_ready (rs := [5]) (by kernel_rfl) (by simp) ?_
          refine AllReadyH.cons rfl (fun K hK => ?_) AllReadyH.nil
          go_simp
          go_at_call 89
          refine (LA.out _).mono ?_
          rintro e w' ⟨rfl, rfl⟩
          refine hK.out _ _ hHeld (fun _ => ?_)
          clear hK K
          (try simp only [Act.put, List.setIfInBounds_toArray, List.set_cons_zero, List.set_cons_succ])
          refine wpAnyH_ready (rs := [7]) (by kernel_rfl) (by simp) ?_
          refine AllReadyH.cons rfl (fun K hK => ?_) AllReadyH.nil
          go_simp
          go_at_call 52
          refine (HN.out _ (by repeat (first | with_reducible exact HG.out | with_reducible exact Grew.refl _ | with_reducible assumption | with_reducible apply Grew.plus | with_reducible apply Grew.drewN | with_reducible apply Grew.drew | with_reducible apply Grew.alloc | with_reducible refine Grew.setCell ?_ (by simp [go_sem]; try omega) _))).mono ?_
          rintro e w2 ⟨rfl, hr2, hg2⟩
          have hg3 : GrewX [R] wr w2 := (GrewX.of_grew (by exact by repeat (first | with_reducible exact HG.out | with_reducible exact Grew.refl _ | with_reducible assumption | with_reducible apply Grew.plus | with_reducible apply Grew.drewN | with_reducible apply Grew.drew | with_reducible apply Grew.alloc | with_reducible refine Grew.setCell ?_ (by simp [go_sem]; try omega) _))).trans hg2
          clear hg2
          have HG := Lib.hid (hg3.mono (ks' := [R, A]) (by simp))
          refine hK.out _ _ (HB.out _ (by repeat (first | with_reducible exact HG.out | with_reducible exact GrewX.refl _ _ | with_reducible assumption | with_reducible apply GrewX.plus | with_reducible apply GrewX.drewN | with_reducible apply GrewX.drew | with_reducible apply GrewX.alloc | with_reducible refine GrewX.set ?_ (.inl (by simp)) _))) (fun hHeld2 => ?_)
          clear hK K
          (try simp only [Act.put, List.setIfInBounds_toArray, List.set_cons_zero, List.set_cons_succ])
          obtain ⟨k0, m0⟩ := HC.out w2 hg3
          refine wpAnyH_take (i := 8) (v := ?_) rfl (by kernel_rfl) (by kernel_rfl) (by kernel_rfl) (by first | exact fun _ _ _ h => h | exact fun _ _ _ h => HQP _ _ _ _ (by rfl) h) (Or.inl ⟨by rfl, ?_⟩) (by assumption) ?_
          rotate_left 1
          · (intro w hSw; (try dsimp only at hSw); go_simp; (try with_reducible rfl))
          (try simp only [List.getElem_toArray, List.getElem_cons_zero, List.getElem_cons_succ])
          (try simp only [Act.put, List.setIfInBounds_toArray, List.set_cons_zero, List.set_cons_succ])
          refine wpAnyH_ready (rs := [9]) (by kernel_rfl) (by simp) ?_
          refine AllReadyH.cons rfl (fun K hK => ?_) AllReadyH.nil
          go_simp
          refine hK.out _ _ (HB.out _ (by repeat (first | with_reducible exact HG.out | with_reducible exact GrewX.refl _ _ | with_reducible assumption | with_reducible apply GrewX.plus | with_reducible apply GrewX.drewN | with_reducible apply GrewX.drew | with_reducible apply GrewX.alloc | with_reducible refine GrewX.set ?_ (.inl (by simp)) _))) (fun hHeld3 => ?_)
          clear hK K
          (try simp only [Act.put, List.setIfInBounds_toArray, List.set_cons_zero, List.set_cons_succ])
          refine wpAnyH_done (by kernel_rfl) ?_ _
          go_wp2_with fail
          obtain ⟨hr, hg, ha, hb⟩ := HY.out
          refine ⟨⟨k + 1, xs ++ [v], q1, by omega, rfl, by simp [hxl], HLL2.out, hr2.set _ hA0 (by simpa using hAR) HAa.out, hg.trans ((hg3.mono (by simp)).set (.inl (by simp)) _), ?_, ?_⟩, ?_⟩
          · rw [World.block_setCell _ _ _ _ (by simpa using hBA)]
            exact hg3.heap ha (by simpa using hBR)
          · rw [putRow_push, hxl]
            exact World.own_setCell (hg3.heap hb (by simpa using hAR)) _
          · show n - ((k : Int) + 1).toNat < n - (k : Int).toNat
            omega
      · have hkn : k = n := by omega
        subst hkn
        have HY := Lib.hid (And.intro hr (And.intro hg hb))
        rw [Nat.sub_self, pLoop_zero] at hl
        clear hr hg ha hb
        go_wp2_with fail
        go_end0
        obtain ⟨hr, hg, hb⟩ := HY.out
        refine ⟨hg, ?_⟩
        unfold pRow
        rw [bind_ok H1.out]
        show IPost S w0 R a cap l _ (pLoop (rowB l m k) k 0 [] p1) _ _
        rw [← hl]
        exact ⟨⟨rfl, hb⟩, hr⟩
end
end Go.Proofs.YtnhmekdnfinmiaaGreatDoor
/- Clocks as plain data: eight integers; covers, merge, meet, compare. No program in sight. -/
namespace Go

structure C8 where
  x0 : Int
  x1 : Int
  x2 : Int
  x3 : Int
  x4 : Int
  x5 : Int
  x6 : Int
  x7 : Int
deriving DecidableEq

namespace C8
def cells (c : C8) : Array Value := #[.int .i64 c.x0, .int .i64 c.x1, .int .i64 c.x2, .int .i64 c.x3, .int .i64 c.x4, .int .i64 c.x5, .int .i64 c.x6, .int .i64 c.x7]
def covers (a b : C8) : Bool := decide (b.x0 ≤ a.x0 ∧ b.x1 ≤ a.x1 ∧ b.x2 ≤ a.x2 ∧ b.x3 ≤ a.x3 ∧ b.x4 ≤ a.x4 ∧ b.x5 ≤ a.x5 ∧ b.x6 ≤ a.x6 ∧ b.x7 ≤ a.x7)
def merge (a b : C8) : C8 := ⟨max a.x0 b.x0, max a.x1 b.x1, max a.x2 b.x2, max a.x3 b.x3, max a.x4 b.x4, max a.x5 b.x5, max a.x6 b.x6, max a.x7 b.x7⟩
def meet (a b : C8) : C8 := ⟨min a.x0 b.x0, min a.x1 b.x1, min a.x2 b.x2, min a.x3 b.x3, min a.x4 b.x4, min a.x5 b.x5, min a.x6 b.x6, min a.x7 b.x7⟩
def compare (a b : C8) : Int := if a = b then 0 else if b.covers a then 1 else if a.covers b then 2 else 3
def get (c : C8) : Nat → Int
  | 0 => c.x0 | 1 => c.x1 | 2 => c.x2 | 3 => c.x3 | 4 => c.x4 | 5 => c.x5 | 6 => c.x6 | _ => c.x7
def set (c : C8) (i : Nat) (v : Int) : C8 :=
  match i with
  | 0 => { c with x0 := v } | 1 => { c with x1 := v } | 2 => { c with x2 := v } | 3 => { c with x3 := v }
  | 4 => { c with x4 := v } | 5 => { c with x5 := v } | 6 => { c with x6 := v } | _ => { c with x7 := v }
def zero : C8 := ⟨0, 0, 0, 0, 0, 0, 0, 0⟩

theorem cells_get (c : C8) (k : Nat) (h : k < 8) : c.cells[k]? = some (.int .i64 (c.get k)) := by
  match k, h with
  | 0, _ => rfl
  | 1, _ => rfl
  | 2, _ => rfl
  | 3, _ => rfl
  | 4, _ => rfl
  | 5, _ => rfl
  | 6, _ => rfl
  | 7, _ => rfl
def toL (c : C8) : List Int := [c.x0, c.x1, c.x2, c.x3, c.x4, c.x5, c.x6, c.x7]
theorem cells_toL (c : C8) : c.cells = (c.toL.map (Value.int .i64)).toArray := rfl
theorem toL_inj (a b : C8) : a.toL = b.toL ↔ a = b := by
  obtain ⟨⟩ := a; obtain ⟨⟩ := b
  simp [toL]
def isIn (r : Int) : Bool := decide (0 ≤ r) && decide (r < 8)
def has (a : C8) (r n : Int) : Bool := isIn r && (decide (1 ≤ n) && decide (n ≤ a.get r.toNat))
def Fits (c : C8) : Prop := ∀ i, i < 8 → -9223372036854775808 ≤ c.get i ∧ c.get i ≤ 9223372036854775807
end C8

structure ActD where
  kind : Int
  place : Int
  char : Int
  replica : Int
  number : Int
  clock : C8
deriving DecidableEq
namespace ActD
def cells (c : ActD) : Array Value := #[.int .i64 c.kind, .int .i64 c.place, .int .i32 c.char, .int .i64 c.replica, .int .i64 c.number, .int .i64 c.clock.x0, .int .i64 c.clock.x1, .int .i64 c.clock.x2, .int .i64 c.clock.x3, .int .i64 c.clock.x4, .int .i64 c.clock.x5, .int .i64 c.clock.x6, .int .i64 c.clock.x7]
theorem cells_clock (c : ActD) (k : Nat) (h : k < 8) : c.cells[5 + k]? = some (.int .i64 (c.clock.get k)) := by
  match k, h with
  | 0, _ => rfl
  | 1, _ => rfl
  | 2, _ => rfl
  | 3, _ => rfl
  | 4, _ => rfl
  | 5, _ => rfl
  | 6, _ => rfl
  | 7, _ => rfl
end ActD
def C8.ready (a : C8) (x : ActD) : Bool :=
  C8.isIn x.replica && (!(a.get x.replica.toNat == 9223372036854775807) && (decide (1 ≤ x.number) && (x.number == a.get x.replica.toNat + 1 && (x.clock.get x.replica.toNat == a.get x.replica.toNat && a.covers x.clock))))
def C8.folded (f : C8 → C8 → C8) : List C8 → C8
  | [] => C8.zero
  | x :: l => l.foldl f x
end Go
