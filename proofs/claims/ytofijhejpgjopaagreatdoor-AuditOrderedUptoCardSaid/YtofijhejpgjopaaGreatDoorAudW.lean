/- Walk: what the audit laws' wakes tries. -/
import Derived.Test.YtofijhejpgjopaaGreatDoorAudS
import Derived.Test.YtofijhejpgjopaaGreatDoorEl
import Derived.Test.YtofijhejpgjopaaGreatDoorErrS
namespace Go.Proofs.YtofijhejpgjopaaGreatDoor
open Go.RowKit
set_option linter.unusedSimpArgs false
set_option linter.unusedVariables false

theorem refused_one {S : Nat → Addr} {w : World} (hS : Sents S w) {l c : ByteArray} {i : Int} {k : Nat} (h0 : 1 ≤ k) (h1 : k ≤ 13) {v : Value} (he : ErrAt S w (.fault l c i (.reason k)) v) (a b : Option Addr) (cp : Nat) (ha : CellsIn w a (linkCells (Err.fault l c i (.reason k)).chain)) (hb : CellsIn w b (nats [k])) (hc : 1 ≤ cp) (hm : cp ≤ 9223372036854775807) :
    Calls Tryz.prog 35 #[v, noV k a 1 cp b 1 1] w fun x w' => x = .returned (.bool true) ∧ Grew w w' := by
  have hn : numOf k = k := by unfold numOf; rw [if_pos h1]
  have e1 : (Err.fault l c i (.reason k)).code = k := by
    show ((Err.fault l c i (.reason k)).walk codeF 99).1 = k
    rw [Err.walk, Err.walk, hn]
    simp [codeF]; omega
  have e2 : (Err.fault l c i (.reason k)).codes = [k] := by
    show ((Err.fault l c i (.reason k)).walk codesF []).1 = [k]
    rw [Err.walk, Err.walk, hn]
    simp [codesF]; omega
  have e3 : (Err.fault l c i (.reason k)).chain = [(l, c, i)] := by rw [Err.chain, Err.chain]
  have h := refused_some hS he (by rw [Err.size, Err.size]; omega) (by simp) (by rw [e1]; omega) a b cp 1 ha (by rw [e2]; exact hb) (by rw [e3]; exact hc) (by rw [e2]; simp) hm (by decide)
  rw [e1, e2, e3] at h
  exact h

theorem refused_one1 {S : Nat → Addr} {w : World} (hS : Sents S w) {l c : ByteArray} {i : Int} {v : Value} (he : ErrAt S w (.fault l c i (.reason 1)) v) (a b : Option Addr) (cp : Nat) (ha : CellsIn w a (linkCells (Err.fault l c i (.reason 1)).chain)) (hb : CellsIn w b (nats [1])) (hc : 1 ≤ cp) (hm : cp ≤ 9223372036854775807) :
    Calls Tryz.prog 35 #[v, noV 1 a 1 cp b 1 1] w fun x w' => x = .returned (.bool true) ∧ Grew w w' := refused_one hS (by decide) (by decide) he a b cp ha hb hc hm
theorem authors_x (B : Nat) (w : World) (h : w.heap[B]? = some (.cells #[.int .i64 0, .int .i64 3, .int .i64 0, .int .i32 120, .int .i64 0] 71 (0, 0))) :
    Calls Tryz.prog 14 #[.slice (some ⟨B, 0, none⟩) 1 1] w fun e w' => e = .returned (.agg (⟨0, 0, 0, 1, 0, 0, 0, 0⟩ : C8).cells) ∧ Grew w w' :=
  authors_any [⟨0, 3, 0, 120, 0⟩] (some ⟨B, 0, none⟩) 1 w (CellsIn.of_cells (fun i hi => by
    rw [Nat.zero_add, cell_of_row w B i _ _ _ h]
    match i, hi with
    | 0, _ | 1, _ | 2, _ | 3, _ | 4, _ => rfl)) (by decide)

set_option maxRecDepth 100000 in
set_option maxHeartbeats 1000000 in
theorem wakes20 {S0 : Nat → Addr} {w : World} (hS : Sents S0 w) : Calls Tryz.prog 10 #[] w fun e w' => e = .returned (.bool true) ∧ Grew w w' := by
  have AS := Lib.hid (fun W => say_any (⟨#[97, 117, 100, 105, 116]⟩ : ByteArray) (⟨#[83, 111, 117, 110, 100]⟩ : ByteArray) (-1) 1 (by omega) W)
  have HS := Lib.hid hS
  have N0 := Lib.hid (fun W => (rep_new W 2 8 4 4 0 (by decide) (by decide) (by decide) (by decide) (by decide) (by decide) (by decide) (by decide) (by decide) (by decide)).mono (R' := fun e w' => ∃ R, e = .returned (.tuple #[ptr R, .nilIface]) ∧ Grew W w' ∧ IsRep w' R 2 8) (fun e w' ⟨R, L, M, T, Bi, Bb, I, D, S, Bh, h1, h2, h3⟩ => ⟨R, h1, h2, _, _, _, _, _, _, _, _, _, _, _, _, h3⟩))
  have N1 := Lib.hid (fun W => (rep_new W 2 8 4 4 1 (by decide) (by decide) (by decide) (by decide) (by decide) (by decide) (by decide) (by decide) (by decide) (by decide)).mono (R' := fun e w' => ∃ R, e = .returned (.tuple #[ptr R, .nilIface]) ∧ Grew W w' ∧ IsRep w' R 2 8) (fun e w' ⟨R, L, M, T, Bi, Bb, I, D, S, Bh, h1, h2, h3⟩ => ⟨R, h1, h2, _, _, _, _, _, _, _, _, _, _, _, _, h3⟩))
  clear hS
  go_enter Tryz.func10, Tryz.ntmps10
  go_wp2_with fail
  refine (N0.out _).mono ?_
  rintro e w1 ⟨R, rfl, hg1, hr1⟩
  have hb1 : w1.heap[w.heap.size]? = some (.cells #[.int .i64 2, .int .i64 8, .int .i64 4, .int .i64 4] 56 (0, 0)) := Grew.heap hg1 (heap_alloc_at _ _ _ rfl)
  have k1 := World.cellsAt_block hb1 4 rfl
  have HG1 := Lib.hid (((Grew.refl w).alloc _).trans hg1)
  have HR1 := Lib.hid hr1
  clear hb1 hg1 hr1
  go_wp2_with fail
  refine (N1.out _).mono ?_
  rintro e w2 ⟨R', rfl, hg2, hr2⟩
  have HG2 := Lib.hid (HG1.out.trans hg2)
  have HA : Hid (∀ W, Grew w2 W → IsRep W R 2 8) := fun W hW => (HR1.out.grew hg2).grew hW
  have HB : Hid (∀ W, Grew w2 W → IsRep W R' 2 8) := fun W hW => hr2.grew hW
  have HS2 : Hid (∀ W, Grew w2 W → Sents S0 W) := fun W hW => HS.out.grew (HG2.out.trans hW)
  clear hg2 hr2 k1
  go_wp2_with (first
    | (go_at_call 33; (with_reducible refine (agree_nil _ _).mono ?_); rintro e w' ⟨rfl, rfl⟩)
    | (go_at_call 33; refine (agree_new (HA.out _ (by repeat (first | with_reducible exact HG.out | with_reducible exact Grew.refl _ | with_reducible assumption | with_reducible apply Grew.plus | with_reducible apply Grew.drewN | with_reducible apply Grew.drew | with_reducible apply Grew.alloc | with_reducible refine Grew.setCell ?_ (by simp [go_sem]; try omega) _))) (HB.out _ (by repeat (first | with_reducible exact HG.out | with_reducible exact Grew.refl _ | with_reducible assumption | with_reducible apply Grew.plus | with_reducible apply Grew.drewN | with_reducible apply Grew.drew | with_reducible apply Grew.alloc | with_reducible refine Grew.setCell ?_ (by simp [go_sem]; try omega) _)))).mono ?_; rintro e w' ⟨rfl, gx, rfl⟩)
    | (go_at_call 34; (with_reducible refine (sound_nil (HS2.out _ (by repeat (first | with_reducible exact HG.out | with_reducible exact Grew.refl _ | with_reducible assumption | with_reducible apply Grew.plus | with_reducible apply Grew.drewN | with_reducible apply Grew.drew | with_reducible apply Grew.alloc | with_reducible refine Grew.setCell ?_ (by simp [go_sem]; try omega) _)))).mono ?_); rintro e w4 ⟨v4, rfl, he4, hg4⟩; have HE4 := Lib.hid he4; have HG4 := Lib.hid (Grew.trans (show Grew w2 _ from by repeat (first | with_reducible exact HG.out | with_reducible exact Grew.refl _ | with_reducible assumption | with_reducible apply Grew.plus | with_reducible apply Grew.drewN | with_reducible apply Grew.drew | with_reducible apply Grew.alloc | with_reducible refine Grew.setCell ?_ (by simp [go_sem]; try omega) _)) hg4); clear he4 hg4)
    | (go_at_call 34; refine (sound_new (HA.out _ (by repeat (first | with_reducible exact HG.out | with_reducible exact Grew.refl _ | with_reducible assumption | with_reducible apply Grew.plus | with_reducible apply Grew.drewN | with_reducible apply Grew.drew | with_reducible apply Grew.alloc | with_reducible refine Grew.setCell ?_ (by simp [go_sem]; try omega) _)))).mono ?_; rintro e w' ⟨rfl, gx, rfl⟩)
    | (go_at_call 36; refine (AS.out _).mono ?_; rintro e w5 ⟨ar, cp, b5, rfl, h1, h2, h3, h4, h5, h6, hg5⟩; have HC5 := Lib.hid h1; have HN5 := Lib.hid h4; have HG5 := Lib.hid hg5; clear h1 h4 h5 h6 hg5)
    | (go_at_call 35; refine (refused_one1 (HS2.out _ (HG4.out.trans HG5.out)) (HE4.out.grew HG5.out) ar b5 cp HC5.out HN5.out h2 h3).mono ?_; rintro e w' ⟨rfl, gx, rfl⟩)
    | (go_at_call 14; refine (authors_x _ _ (by exact heap_alloc_at _ _ _ (by first | rfl | (simp [go_sem]; done)))).mono ?_; rintro e w' ⟨rfl, gx, rfl⟩))
  go_ret
  exact ⟨rfl, HG2.out.trans (HG4.out.trans (HG5.out.trans (by repeat (first | with_reducible exact HG.out | with_reducible exact Grew.refl _ | with_reducible assumption | with_reducible apply Grew.plus | with_reducible apply Grew.drewN | with_reducible apply Grew.drew | with_reducible apply Grew.alloc | with_reducible refine Grew.setCell ?_ (by simp [go_sem]; try omega) _))))⟩
end Go.Proofs.YtofijhejpgjopaaGreatDoor
