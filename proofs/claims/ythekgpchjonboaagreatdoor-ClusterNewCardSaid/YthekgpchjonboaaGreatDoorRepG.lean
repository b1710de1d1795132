/- The walk of the law ReplicaNew. -/
import Derived.Test.YthekgpchjonboaaGreatDoorRepF
import Derived.Test.YthekgpchjonboaaGreatDoorErrS
namespace Go.Proofs.YthekgpchjonboaaGreatDoor
open Go.RowKit
set_option linter.unusedSimpArgs false
set_option linter.unusedVariables false
set_option maxRecDepth 100000 in
set_option maxHeartbeats 2000000 in
theorem right_wrong (w : World) (c0 c1 c2 c3 s : Int) (h : ¬ (1 ≤ c0 ∧ c0 ≤ 8 ∧ 0 ≤ c1 ∧ c1 ≤ 65536 ∧ 1 ≤ c2 ∧ c2 ≤ 256 ∧ 0 ≤ c3 ∧ c3 ≤ 256 ∧ 0 ≤ s ∧ s < c0)) :
    Calls Tryz.prog 41 #[.agg #[.int .i64 c0, .int .i64 c1, .int .i64 c2, .int .i64 c3], .int .i64 s] w fun e w' => e = .returned (.bool false) ∧ Grew w w' := by
  by_cases h0 : 1 ≤ c0
  rotate_left
  · have g : c0 < 1 := by omega
    have g2 : decide (1 ≤ c0) = false := by simpa using h0
    clear h
    go_enter Tryz.func41, Tryz.ntmps41
    go_wp2
    go_ret
    exact ⟨rfl, by repeat (first | with_reducible exact HG.out | with_reducible exact Grew.refl _ | with_reducible assumption | with_reducible apply Grew.plus | with_reducible apply Grew.drewN | with_reducible apply Grew.drew | with_reducible apply Grew.alloc | with_reducible refine Grew.setCell ?_ (by simp [go_sem]; try omega) _)⟩
  by_cases h1 : c0 ≤ 8
  rotate_left
  · have g : 8 < c0 := by omega
    have g2 : decide (c0 ≤ 8) = false := by simpa using h1
    clear h
    go_enter Tryz.func41, Tryz.ntmps41
    go_wp2
    go_ret
    exact ⟨rfl, by repeat (first | with_reducible exact HG.out | with_reducible exact Grew.refl _ | with_reducible assumption | with_reducible apply Grew.plus | with_reducible apply Grew.drewN | with_reducible apply Grew.drew | with_reducible apply Grew.alloc | with_reducible refine Grew.setCell ?_ (by simp [go_sem]; try omega) _)⟩
  by_cases h2 : 0 ≤ c1
  rotate_left
  · have g : c1 < 0 := by omega
    have g2 : decide (0 ≤ c1) = false := by simpa using h2
    clear h
    go_enter Tryz.func41, Tryz.ntmps41
    go_wp2
    go_ret
    exact ⟨rfl, by repeat (first | with_reducible exact HG.out | with_reducible exact Grew.refl _ | with_reducible assumption | with_reducible apply Grew.plus | with_reducible apply Grew.drewN | with_reducible apply Grew.drew | with_reducible apply Grew.alloc | with_reducible refine Grew.setCell ?_ (by simp [go_sem]; try omega) _)⟩
  by_cases h3 : c1 ≤ 65536
  rotate_left
  · have g : 65536 < c1 := by omega
    have g2 : decide (c1 ≤ 65536) = false := by simpa using h3
    clear h
    go_enter Tryz.func41, Tryz.ntmps41
    go_wp2
    go_ret
    exact ⟨rfl, by repeat (first | with_reducible exact HG.out | with_reducible exact Grew.refl _ | with_reducible assumption | with_reducible apply Grew.plus | with_reducible apply Grew.drewN | with_reducible apply Grew.drew | with_reducible apply Grew.alloc | with_reducible refine Grew.setCell ?_ (by simp [go_sem]; try omega) _)⟩
  by_cases h4 : 1 ≤ c2
  rotate_left
  · have g : c2 < 1 := by omega
    have g2 : decide (1 ≤ c2) = false := by simpa using h4
    clear h
    go_enter Tryz.func41, Tryz.ntmps41
    go_wp2
    go_ret
    exact ⟨rfl, by repeat (first | with_reducible exact HG.out | with_reducible exact Grew.refl _ | with_reducible assumption | with_reducible apply Grew.plus | with_reducible apply Grew.drewN | with_reducible apply Grew.drew | with_reducible apply Grew.alloc | with_reducible refine Grew.setCell ?_ (by simp [go_sem]; try omega) _)⟩
  by_cases h5 : c2 ≤ 256
  rotate_left
  · have g : 256 < c2 := by omega
    have g2 : decide (c2 ≤ 256) = false := by simpa using h5
    clear h
    go_enter Tryz.func41, Tryz.ntmps41
    go_wp2
    go_ret
    exact ⟨rfl, by repeat (first | with_reducible exact HG.out | with_reducible exact Grew.refl _ | with_reducible assumption | with_reducible apply Grew.plus | with_reducible apply Grew.drewN | with_reducible apply Grew.drew | with_reducible apply Grew.alloc | with_reducible refine Grew.setCell ?_ (by simp [go_sem]; try omega) _)⟩
  by_cases h6 : 0 ≤ c3
  rotate_left
  · have g : c3 < 0 := by omega
    have g2 : decide (0 ≤ c3) = false := by simpa using h6
    clear h
    go_enter Tryz.func41, Tryz.ntmps41
    go_wp2
    go_ret
    exact ⟨rfl, by repeat (first | with_reducible exact HG.out | with_reducible exact Grew.refl _ | with_reducible assumption | with_reducible apply Grew.plus | with_reducible apply Grew.drewN | with_reducible apply Grew.drew | with_reducible apply Grew.alloc | with_reducible refine Grew.setCell ?_ (by simp [go_sem]; try omega) _)⟩
  by_cases h7 : c3 ≤ 256
  rotate_left
  · have g : 256 < c3 := by omega
    have g2 : decide (c3 ≤ 256) = false := by simpa using h7
    clear h
    go_enter Tryz.func41, Tryz.ntmps41
    go_wp2
    go_ret
    exact ⟨rfl, by repeat (first | with_reducible exact HG.out | with_reducible exact Grew.refl _ | with_reducible assumption | with_reducible apply Grew.plus | with_reducible apply Grew.drewN | with_reducible apply Grew.drew | with_reducible apply Grew.alloc | with_reducible refine Grew.setCell ?_ (by simp [go_sem]; try omega) _)⟩
  by_cases h8 : 0 ≤ s
  rotate_left
  · have g : s < 0 := by omega
    have g2 : decide (0 ≤ s) = false := by simpa using h8
    clear h
    go_enter Tryz.func41, Tryz.ntmps41
    go_wp2
    go_ret
    exact ⟨rfl, by repeat (first | with_reducible exact HG.out | with_reducible exact Grew.refl _ | with_reducible assumption | with_reducible apply Grew.plus | with_reducible apply Grew.drewN | with_reducible apply Grew.drew | with_reducible apply Grew.alloc | with_reducible refine Grew.setCell ?_ (by simp [go_sem]; try omega) _)⟩
  by_cases h9 : s < c0
  rotate_left
  · have g : c0 ≤ s := by omega
    have g2 : decide (s < c0) = false := by simpa using h9
    clear h
    go_enter Tryz.func41, Tryz.ntmps41
    go_wp2
    go_ret
    exact ⟨rfl, by repeat (first | with_reducible exact HG.out | with_reducible exact Grew.refl _ | with_reducible assumption | with_reducible apply Grew.plus | with_reducible apply Grew.drewN | with_reducible apply Grew.drew | with_reducible apply Grew.alloc | with_reducible refine Grew.setCell ?_ (by simp [go_sem]; try omega) _)⟩
  exact absurd ⟨h0, h1, h2, h3, h4, h5, h6, h7, h8, h9⟩ h
set_option maxRecDepth 100000 in
set_option maxHeartbeats 2000000 in
theorem rfit_wrong (w : World) (c0 c1 c2 c3 s : Int) (h : ¬ (1 ≤ c0 ∧ c0 ≤ 8 ∧ 0 ≤ c1 ∧ c1 ≤ 65536 ∧ 1 ≤ c2 ∧ c2 ≤ 256 ∧ 0 ≤ c3 ∧ c3 ≤ 256 ∧ 0 ≤ s ∧ s < c0)) :
    Calls Tryz.prog 9 #[.agg #[.int .i64 c0, .int .i64 c1, .int .i64 c2, .int .i64 c3], .int .i64 s] w fun e w' => e = .returned (.bool false) ∧ Grew w w' := by
  by_cases h0 : 1 ≤ c0
  rotate_left
  · have g : c0 < 1 := by omega
    have g2 : decide (1 ≤ c0) = false := by simpa using h0
    clear h
    go_enter Tryz.func9, Tryz.ntmps9
    go_wp2
    go_ret
    exact ⟨rfl, by repeat (first | with_reducible exact HG.out | with_reducible exact Grew.refl _ | with_reducible assumption | with_reducible apply Grew.plus | with_reducible apply Grew.drewN | with_reducible apply Grew.drew | with_reducible apply Grew.alloc | with_reducible refine Grew.setCell ?_ (by simp [go_sem]; try omega) _)⟩
  by_cases h1 : c0 ≤ 8
  rotate_left
  · have g : 8 < c0 := by omega
    have g2 : decide (c0 ≤ 8) = false := by simpa using h1
    clear h
    go_enter Tryz.func9, Tryz.ntmps9
    go_wp2
    go_ret
    exact ⟨rfl, by repeat (first | with_reducible exact HG.out | with_reducible exact Grew.refl _ | with_reducible assumption | with_reducible apply Grew.plus | with_reducible apply Grew.drewN | with_reducible apply Grew.drew | with_reducible apply Grew.alloc | with_reducible refine Grew.setCell ?_ (by simp [go_sem]; try omega) _)⟩
  by_cases h2 : 0 ≤ c1
  rotate_left
  · have g : c1 < 0 := by omega
    have g2 : decide (0 ≤ c1) = false := by simpa using h2
    clear h
    go_enter Tryz.func9, Tryz.ntmps9
    go_wp2
    go_ret
    exact ⟨rfl, by repeat (first | with_reducible exact HG.out | with_reducible exact Grew.refl _ | with_reducible assumption | with_reducible apply Grew.plus | with_reducible apply Grew.drewN | with_reducible apply Grew.drew | with_reducible apply Grew.alloc | with_reducible refine Grew.setCell ?_ (by simp [go_sem]; try omega) _)⟩
  by_cases h3 : c1 ≤ 65536
  rotate_left
  · have g : 65536 < c1 := by omega
    have g2 : decide (c1 ≤ 65536) = false := by simpa using h3
    clear h
    go_enter Tryz.func9, Tryz.ntmps9
    go_wp2
    go_ret
    exact ⟨rfl, by repeat (first | with_reducible exact HG.out | with_reducible exact Grew.refl _ | with_reducible assumption | with_reducible apply Grew.plus | with_reducible apply Grew.drewN | with_reducible apply Grew.drew | with_reducible apply Grew.alloc | with_reducible refine Grew.setCell ?_ (by simp [go_sem]; try omega) _)⟩
  by_cases h4 : 1 ≤ c2
  rotate_left
  · have g : c2 < 1 := by omega
    have g2 : decide (1 ≤ c2) = false := by simpa using h4
    clear h
    go_enter Tryz.func9, Tryz.ntmps9
    go_wp2
    go_ret
    exact ⟨rfl, by repeat (first | with_reducible exact HG.out | with_reducible exact Grew.refl _ | with_reducible assumption | with_reducible apply Grew.plus | with_reducible apply Grew.drewN | with_reducible apply Grew.drew | with_reducible apply Grew.alloc | with_reducible refine Grew.setCell ?_ (by simp [go_sem]; try omega) _)⟩
  by_cases h5 : c2 ≤ 256
  rotate_left
  · have g : 256 < c2 := by omega
    have g2 : decide (c2 ≤ 256) = false := by simpa using h5
    clear h
    go_enter Tryz.func9, Tryz.ntmps9
    go_wp2
    go_ret
    exact ⟨rfl, by repeat (first | with_reducible exact HG.out | with_reducible exact Grew.refl _ | with_reducible assumption | with_reducible apply Grew.plus | with_reducible apply Grew.drewN | with_reducible apply Grew.drew | with_reducible apply Grew.alloc | with_reducible refine Grew.setCell ?_ (by simp [go_sem]; try omega) _)⟩
  by_cases h6 : 0 ≤ c3
  rotate_left
  · have g : c3 < 0 := by omega
    have g2 : decide (0 ≤ c3) = false := by simpa using h6
    clear h
    go_enter Tryz.func9, Tryz.ntmps9
    go_wp2
    go_ret
    exact ⟨rfl, by repeat (first | with_reducible exact HG.out | with_reducible exact Grew.refl _ | with_reducible assumption | with_reducible apply Grew.plus | with_reducible apply Grew.drewN | with_reducible apply Grew.drew | with_reducible apply Grew.alloc | with_reducible refine Grew.setCell ?_ (by simp [go_sem]; try omega) _)⟩
  by_cases h7 : c3 ≤ 256
  rotate_left
  · have g : 256 < c3 := by omega
    have g2 : decide (c3 ≤ 256) = false := by simpa using h7
    clear h
    go_enter Tryz.func9, Tryz.ntmps9
    go_wp2
    go_ret
    exact ⟨rfl, by repeat (first | with_reducible exact HG.out | with_reducible exact Grew.refl _ | with_reducible assumption | with_reducible apply Grew.plus | with_reducible apply Grew.drewN | with_reducible apply Grew.drew | with_reducible apply Grew.alloc | with_reducible refine Grew.setCell ?_ (by simp [go_sem]; try omega) _)⟩
  by_cases h8 : 0 ≤ s
  rotate_left
  · have g : s < 0 := by omega
    have g2 : decide (0 ≤ s) = false := by simpa using h8
    clear h
    go_enter Tryz.func9, Tryz.ntmps9
    go_wp2
    go_ret
    exact ⟨rfl, by repeat (first | with_reducible exact HG.out | with_reducible exact Grew.refl _ | with_reducible assumption | with_reducible apply Grew.plus | with_reducible apply Grew.drewN | with_reducible apply Grew.drew | with_reducible apply Grew.alloc | with_reducible refine Grew.setCell ?_ (by simp [go_sem]; try omega) _)⟩
  by_cases h9 : s < c0
  rotate_left
  · have g : c0 ≤ s := by omega
    have g2 : decide (s < c0) = false := by simpa using h9
    clear h
    go_enter Tryz.func9, Tryz.ntmps9
    go_wp2
    go_ret
    exact ⟨rfl, by repeat (first | with_reducible exact HG.out | with_reducible exact Grew.refl _ | with_reducible assumption | with_reducible apply Grew.plus | with_reducible apply Grew.drewN | with_reducible apply Grew.drew | with_reducible apply Grew.alloc | with_reducible refine Grew.setCell ?_ (by simp [go_sem]; try omega) _)⟩
  exact absurd ⟨h0, h1, h2, h3, h4, h5, h6, h7, h8, h9⟩ h
def bRep : ByteArray := ⟨#[114, 101, 112, 108, 105, 99, 97]⟩
def bNew : ByteArray := ⟨#[78, 101, 119]⟩
theorem new_wrong {S0 : Nat → Addr} {w : World} (hS : Sents S0 w) (c0 c1 c2 c3 s : Int) (h : ¬ (1 ≤ c0 ∧ c0 ≤ 8 ∧ 0 ≤ c1 ∧ c1 ≤ 65536 ∧ 1 ≤ c2 ∧ c2 ≤ 256 ∧ 0 ≤ c3 ∧ c3 ≤ 256 ∧ 0 ≤ s ∧ s < c0)) :
    Calls Tryz.prog 13 #[.agg #[.int .i64 c0, .int .i64 c1, .int .i64 c2, .int .i64 c3], .int .i64 s] w fun e w' => ∃ v, e = .returned (.tuple #[.pointer none, v]) ∧ ErrAt S0 w' (.fault bRep bNew (max s (-1)) (.reason 1)) v ∧ Grew w w' := by
  have hs1 := hS.s1
  have hp : 0 < w.heap.size := World.block_lt_of_cell? w _ hs1
  have hp1 : 0 ≠ w.heap.size := by omega
  have RW := Lib.hid (fun W => right_wrong W c0 c1 c2 c3 s h)
  clear h
  go_enter Tryz.func13, Tryz.ntmps13
  go_wp2_with (first
    | (go_at_call 41; refine (RW.out _).mono ?_; rintro e w' ⟨rfl, gx, rfl⟩)
    | (go_at_call 14; refine (new_any _ _ _ _ _ _).mono ?_; rintro e w' ⟨rfl, rfl⟩))
  go_ret2
  exact ⟨_, rfl, .fault (heap_alloc_at _ _ _ (by simp [go_sem])) (.reason 1 (by omega) (by omega)), by repeat (first | with_reducible exact HG.out | with_reducible exact Grew.refl _ | with_reducible assumption | with_reducible apply Grew.plus | with_reducible apply Grew.drewN | with_reducible apply Grew.drew | with_reducible apply Grew.alloc | with_reducible refine Grew.setCell ?_ (by simp [go_sem]; try omega) _)⟩
theorem set3_other (w : World) (B : Nat) (x y z : Value) (q : Nat) (hq : q ≠ B) : (((w.setCell ⟨B, 0, none⟩ x).setCell ⟨B, 1, none⟩ y).setCell ⟨B, 2, none⟩ z).heap[q]? = w.heap[q]? := by
  rw [World.block_setCell _ _ _ _ hq, World.block_setCell _ _ _ _ hq, World.block_setCell _ _ _ _ hq]
theorem rnew_wrong {w : World} (c0 c1 c2 c3 s : Int) (h : ¬ (1 ≤ c0 ∧ c0 ≤ 8 ∧ 0 ≤ c1 ∧ c1 ≤ 65536 ∧ 1 ≤ c2 ∧ c2 ≤ 256 ∧ 0 ≤ c3 ∧ c3 ≤ 256 ∧ 0 ≤ s ∧ s < c0)) :
    Calls Tryz.prog 16 #[.agg #[.int .i64 c0, .int .i64 c1, .int .i64 c2, .int .i64 c3], .int .i64 s] w fun e w' => ∃ ar cp b, e = .returned (.tuple #[.pointer none, noV 1 ar 1 cp b 1 1]) ∧ CellsIn w' ar (linkCells [(bRep, bNew, max s (-1))]) ∧ 1 ≤ cp ∧ cp ≤ 9223372036854775807 ∧ CellsIn w' b (nats [1]) ∧ Grew w w' := by
  have RW := Lib.hid (fun W => rfit_wrong W c0 c1 c2 c3 s h)
  have AS := Lib.hid (fun W => say_any bRep bNew s 1 (by omega) W)
  clear h
  have SY : Hid (∀ W, Calls Tryz.prog 44 #[.string bNew, .int .i64 s, .int .i64 1] W fun e w' => ∃ ar cp b, e = .returned (noV 1 ar 1 cp b 1 1) ∧ CellsIn w' ar (linkCells [(bRep, bNew, max s (-1))]) ∧ 1 ≤ cp ∧ cp ≤ 9223372036854775807 ∧ CellsIn w' b (nats [1]) ∧ (∀ q, ar = some q → W.heap.size < q.block) ∧ (∀ q, b = some q → W.heap.size < q.block) ∧ Grew W w') := Lib.hid fun W => by
    go_enter Tryz.func44, Tryz.ntmps44
    go_wp2_with fail
    refine (AS.out _).mono ?_
    rintro e w5 ⟨ar, cp, b5, rfl, h1, h2, h3, h4, h5, h6, hg5⟩
    have hb : w5.heap[W.heap.size]? = some (.cells #[.int .i64 0, .slice none 0 0, .slice none 0 0] 33 (0, 0)) := Grew.heap hg5 (heap_alloc_at _ _ _ rfl)
    have hlt : W.heap.size < w5.heap.size := (Array.getElem?_eq_some_iff.1 hb).1
    obtain ⟨n0, m0⟩ := World.own_cell hb 0 _ rfl
    obtain ⟨n1, m1⟩ := World.own_cell hb 1 _ rfl
    obtain ⟨n2, m2⟩ := World.own_cell hb 2 _ rfl
    have hg6 : Grew W w5 := ((Grew.refl W).alloc _).trans hg5
    have hs1 : (W.alloc (.cells #[.int .i64 0, .slice none 0 0, .slice none 0 0] 33)).heap.size = W.heap.size + 1 := h1a _ _
    rw [hs1] at h5 h6
    have k1 := World.own_setCell (i := 0) hb (.int .i64 1)
    have k2 := World.own_setCell (i := 1) k1 (.slice ar 1 cp)
    have k3 := World.own_setCell (i := 2) k2 (.slice b5 1 1)
    have f0 := (World.own_cell k3 0 (.int .i64 1) rfl).1
    have f1 := (World.own_cell k3 1 (.slice ar 1 cp) rfl).1
    have f2 := (World.own_cell k3 2 (.slice b5 1 1) rfl).1
    have c5 := h1.keepB (w' := ((w5.setCell ⟨W.heap.size, 0, none⟩ (.int .i64 1)).setCell ⟨W.heap.size, 1, none⟩ (.slice ar 1 cp)).setCell ⟨W.heap.size, 2, none⟩ (.slice b5 1 1)) (fun q hq _ => set3_other _ _ _ _ _ _ (fun e => by have := h5 q hq; omega))
    have c6 := h4.keepB (w' := ((w5.setCell ⟨W.heap.size, 0, none⟩ (.int .i64 1)).setCell ⟨W.heap.size, 1, none⟩ (.slice ar 1 cp)).setCell ⟨W.heap.size, 2, none⟩ (.slice b5 1 1)) (fun q hq _ => set3_other _ _ _ _ _ _ (fun e => by have := h6 q hq; omega))
    have HX := Lib.hid (And.intro c5 (And.intro c6 (And.intro k3 (And.intro hg6 (And.intro h5 h6)))))
    clear k1 k2 k3 c5 c6 hb hg6 h1 h4 h5 h6 hg5
    go_wp2_with fail
    obtain ⟨c5, c6, k3, hg6, h5, h6⟩ := HX.out
    exact bodyPost_ret (v := noV 1 ar 1 cp b5 1 1) (by simp [results, Tryz.results44, go_sem, f0, f1, f2]) rfl ⟨ar, cp, b5, rfl, c5, h2, h3, c6, fun q hq => by have := h5 q hq; omega, fun q hq => by have := h6 q hq; omega, ((hg6.setCell (p := ⟨W.heap.size, 0, none⟩) (Nat.le_refl _) _).setCell (p := ⟨W.heap.size, 1, none⟩) (Nat.le_refl _) _).setCell (p := ⟨W.heap.size, 2, none⟩) (Nat.le_refl _) _⟩
  go_enter Tryz.func16, Tryz.ntmps16
  go_wp2_with (go_at_call 9; refine (RW.out _).mono ?_; rintro e w' ⟨rfl, gx, rfl⟩)
  refine (SY.out _).mono ?_
  rintro e w5 ⟨ar, cp, b5, rfl, h1, h2, h3, h4, h5, h6, hg5⟩
  generalize hBe : w.heap.size + 1 = B at *
  have hgn : Grew ((w.alloc (.cells #[.int .i64 c0, .int .i64 c1, .int .i64 c2, .int .i64 c3] 23)).alloc (.cells #[.int .i64 0, .slice none 0 0, .slice none 0 0] 33)) w5 := Grew.trans (by repeat (first | with_reducible exact HG.out | with_reducible exact Grew.refl _ | with_reducible assumption | with_reducible apply Grew.plus | with_reducible apply Grew.drewN | with_reducible apply Grew.drew | with_reducible apply Grew.alloc | with_reducible refine Grew.setCell ?_ (by simp [go_sem]; try omega) _)) hg5
  have hb : w5.heap[B]? = some (.cells #[.int .i64 0, .slice none 0 0, .slice none 0 0] 33 (0, 0)) := Grew.heap hgn (heap_alloc_at _ _ _ (by simp [h1a, hBe]))
  have hlt : B < w5.heap.size := (Array.getElem?_eq_some_iff.1 hb).1
  obtain ⟨n0, m0⟩ := World.own_cell hb 0 _ rfl
  obtain ⟨n1, m1⟩ := World.own_cell hb 1 _ rfl
  obtain ⟨n2, m2⟩ := World.own_cell hb 2 _ rfl
  have hg6 : Grew w w5 := Grew.trans (by repeat (first | with_reducible exact HG.out | with_reducible exact Grew.refl _ | with_reducible assumption | with_reducible apply Grew.plus | with_reducible apply Grew.drewN | with_reducible apply Grew.drew | with_reducible apply Grew.alloc | with_reducible refine Grew.setCell ?_ (by simp [go_sem]; try omega) _)) hg5
  have hsz : B < (((w.alloc (.cells #[.int .i64 c0, .int .i64 c1, .int .i64 c2, .int .i64 c3] 23)).alloc (.cells #[.int .i64 0, .slice none 0 0, .slice none 0 0] 33)).plus gx).heap.size := by simp [World.plus, h1a]; omega
  have k1 := World.own_setCell (i := 0) hb (.int .i64 1)
  have k2 := World.own_setCell (i := 1) k1 (.slice ar 1 cp)
  have k3 := World.own_setCell (i := 2) k2 (.slice b5 1 1)
  have f0 := (World.own_cell k3 0 (.int .i64 1) rfl).1
  have f1 := (World.own_cell k3 1 (.slice ar 1 cp) rfl).1
  have f2 := (World.own_cell k3 2 (.slice b5 1 1) rfl).1
  have c5 := h1.keepB (w' := ((w5.setCell ⟨B, 0, none⟩ (.int .i64 1)).setCell ⟨B, 1, none⟩ (.slice ar 1 cp)).setCell ⟨B, 2, none⟩ (.slice b5 1 1)) (fun q hq _ => set3_other _ _ _ _ _ _ (fun e => by have := h5 q hq; omega))
  have c6 := h4.keepB (w' := ((w5.setCell ⟨B, 0, none⟩ (.int .i64 1)).setCell ⟨B, 1, none⟩ (.slice ar 1 cp)).setCell ⟨B, 2, none⟩ (.slice b5 1 1)) (fun q hq _ => set3_other _ _ _ _ _ _ (fun e => by have := h6 q hq; omega))
  have hwB : w.heap.size ≤ B := by omega
  have HX := Lib.hid (And.intro c5 (And.intro c6 hg6))
  clear k1 k2 k3 c5 c6 hb hg6 h1 h4 h5 h6 hg5 hgn hsz
  go_wp2_with fail
  obtain ⟨c5, c6, hg6⟩ := HX.out
  exact bodyPost_ret (v := .tuple #[.pointer none, noV 1 ar 1 cp b5 1 1]) (by simp [results, Tryz.results16, go_sem, f0, f1, f2]) rfl ⟨ar, cp, b5, rfl, c5, h2, h3, c6, ((hg6.setCell (p := ⟨B, 0, none⟩) hwB _).setCell (p := ⟨B, 1, none⟩) hwB _).setCell (p := ⟨B, 2, none⟩) hwB _⟩
end Go.Proofs.YthekgpchjonboaaGreatDoor
