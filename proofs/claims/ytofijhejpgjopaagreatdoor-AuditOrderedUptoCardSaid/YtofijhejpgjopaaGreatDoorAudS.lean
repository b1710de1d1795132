/- Walks: Agree and Sound of new replicas. -/
import Derived.Test.YtofijhejpgjopaaGreatDoorAudN
import Derived.Deep.RegionHeld3
import Derived.IntWalk
namespace Go.Proofs.YtofijhejpgjopaaGreatDoor
open Go.RowKit
set_option linter.unusedSimpArgs false
set_option linter.unusedVariables false
section
variable {w : World} {R L M T Bi Bb I D S Bh : Nat} {c0 c1 c2 c3 s : Int} {R' L' M' T' Bi' Bb' I' D' S' Bh' : Nat} {s' : Int}

/-- A new replica of some configuration. -/
def IsRep (w : World) (R : Nat) (c0 c1 : Int) : Prop := ∃ L M T Bi Bb I D S Bh c2 c3 s, ERep w R L M T Bi Bb I D S Bh c0 c1 c2 c3 s
theorem IsRep.grew {W : World} (h : IsRep w R c0 c1) (hg : Grew w W) : IsRep W R c0 c1 := by
  obtain ⟨L, M, T, Bi, Bb, I, D, S, Bh, c2, c3, s, h⟩ := h
  exact ⟨L, M, T, Bi, Bb, I, D, S, Bh, c2, c3, s, h.grew hg⟩
theorem same_grew {P : Program} {f : FuncId} {a : Array Value} {v : Value} (h : Calls P f a w fun e w' => e = .returned v ∧ w = w') : Calls P f a w fun e w' => e = .returned v ∧ Grew w w' :=
  h.mono fun e w' ⟨h1, h2⟩ => ⟨h1, by subst h2; exact Grew.refl _⟩
section
variable (h : IsRep w R c0 c1)
include h
theorem is_epoch : Calls Tryz.prog 54 #[ptr R] w fun e w' => e = .returned (.int .i64 0) ∧ Grew w w' := by
  obtain ⟨L, M, T, Bi, Bb, I, D, S, Bh, c2, c3, s, h⟩ := h; exact same_grew (rep_epoch h)
theorem is_clock : Calls Tryz.prog 55 #[ptr R] w fun e w' => e = .returned (.agg zClock.cells) ∧ Grew w w' := by
  obtain ⟨L, M, T, Bi, Bb, I, D, S, Bh, c2, c3, s, h⟩ := h; exact rep_clock h
theorem is_elements : Calls Tryz.prog 57 #[ptr R] w fun e w' => e = .returned nilS ∧ Grew w w' := by
  obtain ⟨L, M, T, Bi, Bb, I, D, S, Bh, c2, c3, s, h⟩ := h; exact rep_elements h
theorem is_acts : Calls Tryz.prog 58 #[ptr R] w fun e w' => e = .returned nilS ∧ Grew w w' := by
  obtain ⟨L, M, T, Bi, Bb, I, D, S, Bh, c2, c3, s, h⟩ := h; exact same_grew (rep_acts h)
theorem is_held : Calls Tryz.prog 62 #[ptr R] w fun e w' => e = .returned nilS ∧ Grew w w' := by
  obtain ⟨L, M, T, Bi, Bb, I, D, S, Bh, c2, c3, s, h⟩ := h; exact same_grew (rep_held h)
theorem is_live : Calls Tryz.prog 65 #[ptr R] w fun e w' => e = .returned (.int .i64 0) ∧ Grew w w' := by
  obtain ⟨L, M, T, Bi, Bb, I, D, S, Bh, c2, c3, s, h⟩ := h; exact rep_live h
theorem is_len : Calls Tryz.prog 67 #[ptr R] w fun e w' => e = .returned (.int .i64 0) ∧ Grew w w' := by
  obtain ⟨L, M, T, Bi, Bb, I, D, S, Bh, c2, c3, s, h⟩ := h; exact same_grew (rep_len h)
theorem is_view : Calls Tryz.prog 66 #[ptr R] w fun e w' => e = .returned (.string .empty) ∧ Grew w w' := by
  obtain ⟨L, M, T, Bi, Bb, I, D, S, Bh, c2, c3, s, h⟩ := h; exact rep_view h
theorem is_credit : Calls Tryz.prog 68 #[ptr R] w fun e w' => e = .returned (.int .i64 (c1 / c0)) ∧ Grew w w' := by
  obtain ⟨L, M, T, Bi, Bb, I, D, S, Bh, c2, c3, s, h⟩ := h; exact same_grew (rep_credit h)
theorem is_cursor : Calls Tryz.prog 70 #[ptr R] w fun e w' => e = .returned (.int .i64 0) ∧ Grew w w' := by
  obtain ⟨L, M, T, Bi, Bb, I, D, S, Bh, c2, c3, s, h⟩ := h; exact rep_cursor h
theorem is_config : Calls Tryz.prog 60 #[ptr R] w fun e w' => (∃ c2 c3, e = .returned (.agg #[.int .i64 c0, .int .i64 c1, .int .i64 c2, .int .i64 c3])) ∧ Grew w w' := by
  obtain ⟨L, M, T, Bi, Bb, I, D, S, Bh, c2, c3, s, h⟩ := h; exact (rep_config h).mono fun e w' ⟨h1, h2⟩ => ⟨⟨c2, c3, h1⟩, h2⟩
end

theorem agree_nil (b : Value) (w : World) : Calls Tryz.prog 33 #[.pointer none, b] w fun e w' => e = .returned (.tuple #[.bool false, .bool false]) ∧ w = w' := by
  go_enter Tryz.func33, Tryz.ntmps33
  go_wp2
  go_ret2
  exact ⟨rfl, rfl⟩
set_option maxRecDepth 100000 in
theorem agree_new (h : IsRep w R c0 c1) (h' : IsRep w R' c0 c1) : Calls Tryz.prog 33 #[ptr R, ptr R'] w fun e w' => e = .returned (.tuple #[.bool true, .bool true]) ∧ Grew w w' := by
  have H : Hid (∀ W r, Grew w W → r = R ∨ r = R' → IsRep W r c0 c1) := fun W r hW hr => by rcases hr with rfl | rfl <;> first | exact h.grew hW | exact h'.grew hW
  clear h h'
  go_enter Tryz.func33, Tryz.ntmps33
  go_wp2_with (first
    | (go_at_call 54; refine (is_epoch (H.out _ _ (by repeat (first | with_reducible exact HG.out | with_reducible exact Grew.refl _ | with_reducible assumption | with_reducible apply Grew.plus | with_reducible apply Grew.drewN | with_reducible apply Grew.drew | with_reducible apply Grew.alloc | with_reducible refine Grew.setCell ?_ (by simp [go_sem]; try omega) _)) (by first | exact .inl rfl | exact .inr rfl))).mono ?_; rintro e w' ⟨rfl, gx, rfl⟩)
    | (go_at_call 55; refine (is_clock (H.out _ _ (by repeat (first | with_reducible exact HG.out | with_reducible exact Grew.refl _ | with_reducible assumption | with_reducible apply Grew.plus | with_reducible apply Grew.drewN | with_reducible apply Grew.drew | with_reducible apply Grew.alloc | with_reducible refine Grew.setCell ?_ (by simp [go_sem]; try omega) _)) (by first | exact .inl rfl | exact .inr rfl))).mono ?_; rintro e w' ⟨rfl, gx, rfl⟩)
    | (go_at_call 57; refine (is_elements (H.out _ _ (by repeat (first | with_reducible exact HG.out | with_reducible exact Grew.refl _ | with_reducible assumption | with_reducible apply Grew.plus | with_reducible apply Grew.drewN | with_reducible apply Grew.drew | with_reducible apply Grew.alloc | with_reducible refine Grew.setCell ?_ (by simp [go_sem]; try omega) _)) (by first | exact .inl rfl | exact .inr rfl))).mono ?_; rintro e w' ⟨rfl, gx, rfl⟩)
    | (go_at_call 56; refine (equal_nil _).mono ?_; rintro e w' ⟨rfl, rfl⟩))
  go_ret2
  exact ⟨rfl, by repeat (first | with_reducible exact HG.out | with_reducible exact Grew.refl _ | with_reducible assumption | with_reducible apply Grew.plus | with_reducible apply Grew.drewN | with_reducible apply Grew.drew | with_reducible apply Grew.alloc | with_reducible refine Grew.setCell ?_ (by simp [go_sem]; try omega) _)⟩

set_option maxRecDepth 100000 in
set_option maxHeartbeats 2000000 in
theorem sound_nil {S0 : Nat → Addr} (hS : Sents S0 w) : Calls Tryz.prog 34 #[.pointer none] w fun e w' => ∃ v, e = .returned v ∧ ErrAt S0 w' (.fault ⟨#[97, 117, 100, 105, 116]⟩ ⟨#[83, 111, 117, 110, 100]⟩ (-1) (.reason 1)) v ∧ Grew w w' := by
  have hs1 := hS.s1
  go_enter Tryz.func34, Tryz.ntmps34
  go_wp2_with (go_at_call 52; refine (new_any _ _ _ _ _ _).mono ?_; rintro e w' ⟨rfl, rfl⟩)
  go_ret
  exact ⟨_, rfl, .fault (heap_alloc_at _ _ _ rfl) (.reason 1 (by omega) (by omega)), by repeat (first | with_reducible exact HG.out | with_reducible exact Grew.refl _ | with_reducible assumption | with_reducible apply Grew.plus | with_reducible apply Grew.drewN | with_reducible apply Grew.drew | with_reducible apply Grew.alloc | with_reducible refine Grew.setCell ?_ (by simp [go_sem]; try omega) _)⟩
theorem is_credit4 (h : IsRep w R 2 8) : Calls Tryz.prog 68 #[ptr R] w fun e w' => e = .returned (.int .i64 4) ∧ Grew w w' := is_credit h
set_option maxRecDepth 100000 in
set_option maxHeartbeats 2000000 in
theorem sound_new (h : IsRep w R 2 8) : Calls Tryz.prog 34 #[ptr R] w fun e w' => e = .returned .nilIface ∧ Grew w w' := by
  have H : Hid (∀ W, Grew w W → IsRep W R 2 8) := fun W hW => h.grew hW
  clear h
  go_enter Tryz.func34, Tryz.ntmps34
  go_wp2_with (first
    | (go_at_call 57; refine (is_elements (H.out _ (by repeat (first | with_reducible exact HG.out | with_reducible exact Grew.refl _ | with_reducible assumption | with_reducible apply Grew.plus | with_reducible apply Grew.drewN | with_reducible apply Grew.drew | with_reducible apply Grew.alloc | with_reducible refine Grew.setCell ?_ (by simp [go_sem]; try omega) _)))).mono ?_; rintro e w' ⟨rfl, gx, rfl⟩)
    | (go_at_call 58; refine (is_acts (H.out _ (by repeat (first | with_reducible exact HG.out | with_reducible exact Grew.refl _ | with_reducible assumption | with_reducible apply Grew.plus | with_reducible apply Grew.drewN | with_reducible apply Grew.drew | with_reducible apply Grew.alloc | with_reducible refine Grew.setCell ?_ (by simp [go_sem]; try omega) _)))).mono ?_; rintro e w' ⟨rfl, gx, rfl⟩)
    | (go_at_call 55; refine (is_clock (H.out _ (by repeat (first | with_reducible exact HG.out | with_reducible exact Grew.refl _ | with_reducible assumption | with_reducible apply Grew.plus | with_reducible apply Grew.drewN | with_reducible apply Grew.drew | with_reducible apply Grew.alloc | with_reducible refine Grew.setCell ?_ (by simp [go_sem]; try omega) _)))).mono ?_; rintro e w3 ⟨rfl, hg⟩; have HG3 := Lib.hid (Grew.trans (show Grew w _ from (by repeat (first | with_reducible exact HG.out | with_reducible exact Grew.refl _ | with_reducible assumption | with_reducible apply Grew.plus | with_reducible apply Grew.drewN | with_reducible apply Grew.drew | with_reducible apply Grew.alloc | with_reducible refine Grew.setCell ?_ (by simp [go_sem]; try omega) _))) hg); clear hg)
    | (go_at_call 59; refine (seen_nil _).mono ?_; rintro e w' ⟨rfl, rfl⟩)
    | (go_at_call 44; refine (places_nil _).mono ?_; rintro e w5 ⟨rfl, hg⟩; have HG5 := Lib.hid hg; clear hg)
    | (go_at_call 60; refine (is_config (H.out _ (HG3.out.trans (((Grew.refl w3).alloc _).trans HG5.out)))).mono ?_; rintro e w6 ⟨⟨c2, c3, rfl⟩, hg⟩; have HG6 := Lib.hid hg; clear hg)
    | (go_at_call 62; refine (is_held (H.out _ (HG3.out.trans (((Grew.refl w3).alloc _).trans (HG5.out.trans HG6.out))))).mono ?_; rintro e w7 ⟨rfl, hg⟩; have HG7 := Lib.hid hg; clear hg)
    | (go_at_call 61; refine (contains_nil _ _).mono ?_; rintro e w' ⟨rfl, rfl⟩))
  have hb3 : (w3.alloc (.cells #[.int .i64 0, .int .i64 0, .int .i64 0, .int .i64 0, .int .i64 0, .int .i64 0, .int .i64 0, .int .i64 0] 50)).heap[w3.heap.size]? = some (.cells zClock.cells 50 (0, 0)) := heap_alloc_at _ _ _ rfl
  have HB : Hid (∀ W, Grew w7 W → W.cellsAt ⟨w3.heap.size, 0, none⟩ 8 = some [.int .i64 0, .int .i64 0, .int .i64 0, .int .i64 0, .int .i64 0, .int .i64 0, .int .i64 0, .int .i64 0]) := fun W hW => World.cellsAt_block (Grew.heap (HG5.out.trans (HG6.out.trans (HG7.out.trans hW))) hb3) 8 rfl
  have HI : Hid (∀ W, Grew w7 W → IsRep W R 2 8) := fun W hW => H.out _ (HG3.out.trans (((Grew.refl w3).alloc _).trans (HG5.out.trans (HG6.out.trans (HG7.out.trans hW)))))
  have HG := Lib.hid (HG3.out.trans (((Grew.refl w3).alloc _).trans (HG5.out.trans (HG6.out.trans HG7.out))))
  clear hb3
  have k1 := HB.out w7 (Grew.refl _)
  have hcv : ∀ W : World, (convert 76 9 nilS).run Tryz.prog W = .ok (.string .empty) W := fun W => run_convert_runes_nil W 76 9 21 _ _ Tryz.underlying76 Tryz.underlying21 Tryz.underlying9
  generalize w3.heap.size = B at *
  have hq4 : IntKind.i64.wrap 8 = 8 := rfl
  go_region_held3 (fun w' => w'.cellsAt ⟨B, 0, none⟩ 8 = some [.int .i64 0, .int .i64 0, .int .i64 0, .int .i64 0, .int .i64 0, .int .i64 0, .int .i64 0, .int .i64 0]) (exact HB.out _ (by repeat (first | with_reducible exact HG.out | with_reducible exact Grew.refl _ | with_reducible assumption | with_reducible apply Grew.plus | with_reducible apply Grew.drewN | with_reducible apply Grew.drew | with_reducible apply Grew.alloc | with_reducible refine Grew.setCell ?_ (by simp [go_sem]; try omega) _))) (first
    | (go_at_call 65; refine (is_live (HI.out _ (by repeat (first | with_reducible exact HG.out | with_reducible exact Grew.refl _ | with_reducible assumption | with_reducible apply Grew.plus | with_reducible apply Grew.drewN | with_reducible apply Grew.drew | with_reducible apply Grew.alloc | with_reducible refine Grew.setCell ?_ (by simp [go_sem]; try omega) _)))).mono ?_; rintro e w' ⟨rfl, gx, rfl⟩)
    | (go_at_call 66; refine (is_view (HI.out _ (by repeat (first | with_reducible exact HG.out | with_reducible exact Grew.refl _ | with_reducible assumption | with_reducible apply Grew.plus | with_reducible apply Grew.drewN | with_reducible apply Grew.drew | with_reducible apply Grew.alloc | with_reducible refine Grew.setCell ?_ (by simp [go_sem]; try omega) _)))).mono ?_; rintro e w' ⟨rfl, gx, rfl⟩)
    | (go_at_call 67; refine (is_len (HI.out _ (by repeat (first | with_reducible exact HG.out | with_reducible exact Grew.refl _ | with_reducible assumption | with_reducible apply Grew.plus | with_reducible apply Grew.drewN | with_reducible apply Grew.drew | with_reducible apply Grew.alloc | with_reducible refine Grew.setCell ?_ (by simp [go_sem]; try omega) _)))).mono ?_; rintro e w' ⟨rfl, gx, rfl⟩)
    | (go_at_call 68; refine (is_credit4 (HI.out _ (by repeat (first | with_reducible exact HG.out | with_reducible exact Grew.refl _ | with_reducible assumption | with_reducible apply Grew.plus | with_reducible apply Grew.drewN | with_reducible apply Grew.drew | with_reducible apply Grew.alloc | with_reducible refine Grew.setCell ?_ (by simp [go_sem]; try omega) _)))).mono ?_; rintro e w' ⟨rfl, gx, rfl⟩)
    | (go_at_call 7; refine (causal_nil _).mono ?_; rintro e w' ⟨rfl, gx, rfl⟩)
    | (go_at_call 69; refine (own_nil _).mono ?_; rintro e w' ⟨rfl, gx, rfl⟩)
    | (go_at_call 70; refine (is_cursor (HI.out _ (by repeat (first | with_reducible exact HG.out | with_reducible exact Grew.refl _ | with_reducible assumption | with_reducible apply Grew.plus | with_reducible apply Grew.drewN | with_reducible apply Grew.drew | with_reducible apply Grew.alloc | with_reducible refine Grew.setCell ?_ (by simp [go_sem]; try omega) _)))).mono ?_; rintro e w' ⟨rfl, gx, rfl⟩))
  rename_i a9 a8 a7 a6 a5 a4 a3 a2 a1 a0 hH
  clear hH k1 hq4 hcv
  generalize hW8 : (((((((((((w7.drew.plus a9).plus a8).plus a7).plus a6).plus a5).plus a4).plus a3).plus a2).plus a1).plus a0).plus gx) = w8
  have hg8 : Grew w7 w8 := by rw [← hW8]; exact by repeat (first | with_reducible exact HG.out | with_reducible exact Grew.refl _ | with_reducible assumption | with_reducible apply Grew.plus | with_reducible apply Grew.drewN | with_reducible apply Grew.drew | with_reducible apply Grew.alloc | with_reducible refine Grew.setCell ?_ (by simp [go_sem]; try omega) _)
  have hsz : w7.heap.size + a9.blocks.size + a8.blocks.size + a7.blocks.size + a6.blocks.size + a5.blocks.size + a4.blocks.size + a3.blocks.size + a2.blocks.size + a1.blocks.size + a0.blocks.size + gx.blocks.size = w8.heap.size := by rw [← hW8]; simp only [World.size_plus]; rfl
  rw [hsz]
  clear hsz
  have hb8 : (w8.alloc (.cells #[.bool true, .bool true, .bool true, .bool true, .bool true, .bool true, .bool true, .bool true] 4)).heap[w8.heap.size]? = some (.cells #[.bool true, .bool true, .bool true, .bool true, .bool true, .bool true, .bool true, .bool true] 4 (0, 0)) := heap_alloc_at _ _ _ rfl
  have HG8 := Lib.hid (HG.out.trans (hg8.alloc (.cells #[.bool true, .bool true, .bool true, .bool true, .bool true, .bool true, .bool true, .bool true] 4)))
  have hc8 : Hid (∀ k : Nat, k < 8 → (w8.alloc (.cells #[.bool true, .bool true, .bool true, .bool true, .bool true, .bool true, .bool true, .bool true] 4)).cell? ⟨w8.heap.size, k, none⟩ = some (.bool true)) := Lib.hid (fun k hk => (World.own_cell hb8 k _ (by match k, hk with | 0, _ | 1, _ | 2, _ | 3, _ | 4, _ | 5, _ | 6, _ | 7, _ => rfl)).1)
  clear hW8 hb8 hg8
  generalize w8.alloc (.cells #[.bool true, .bool true, .bool true, .bool true, .bool true, .bool true, .bool true, .bool true] 4) = w9 at *
  generalize w8.heap.size = B8 at *
  go_wp2
  go_loop [12, 94] (fun l i => l = nilS ∧ ∃ k : Nat, k ≤ 8 ∧ i = .int .i64 k) (fun _ i => 8 - (intOf i).toNat)
  case atStart => exact ⟨rfl, 0, by omega, rfl⟩
  case round =>
    obtain ⟨rfl, k, hk, rfl⟩ := hrel
    by_cases hlt : k < 8
    · have hck := hc8.out k hlt
      go_wp2
      go_round
      case rel => exact ⟨rfl, k + 1, by omega, by go_num⟩
      case measure => simp [intOf]; omega
    · obtain rfl : k = 8 := by omega
      go_wp2_with (go_at_call 71; refine (join_nil _).mono ?_; rintro e w' ⟨rfl, rfl⟩)
      go_ret
      exact ⟨rfl, HG8.out⟩
end
end Go.Proofs.YtofijhejpgjopaaGreatDoor
