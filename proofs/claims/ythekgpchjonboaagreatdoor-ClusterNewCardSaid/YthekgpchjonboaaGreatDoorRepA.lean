/- Walks: New of a configuration that fits; what a new replica tells. -/
import Derived.Test.YthekgpchjonboaaGreatDoorNewP
import Derived.Test.YthekgpchjonboaaGreatDoorClkW
namespace Go.Proofs.YthekgpchjonboaaGreatDoor
open Go.RowKit
set_option linter.unusedSimpArgs false
set_option linter.unusedVariables false

set_option maxRecDepth 100000 in
theorem rep_right (w : World) (c0 c1 c2 c3 s : Int) (h0 : 1 ≤ c0) (h0' : c0 ≤ 8) (h1 : 0 ≤ c1) (h1' : c1 ≤ 65536) (h2 : 1 ≤ c2) (h2' : c2 ≤ 256) (h3 : 0 ≤ c3) (h3' : c3 ≤ 256) (hs : 0 ≤ s) (hs' : s < c0) :
    Calls Tryz.prog 41 #[.agg #[.int .i64 c0, .int .i64 c1, .int .i64 c2, .int .i64 c3], .int .i64 s] w fun e w' => e = .returned (.bool true) ∧ Grew w w' := by
  go_enter Tryz.func41, Tryz.ntmps41
  go_wp2
  go_ret
  exact ⟨rfl, by repeat (first | with_reducible exact HG.out | with_reducible exact Grew.refl _ | with_reducible assumption | with_reducible apply Grew.plus | with_reducible apply Grew.drewN | with_reducible apply Grew.drew | with_reducible apply Grew.alloc | with_reducible refine Grew.setCell ?_ (by simp [go_sem]; try omega) _)⟩
set_option maxRecDepth 100000 in
theorem rep_new (w : World) (c0 c1 c2 c3 s : Int) (h0 : 1 ≤ c0) (h0' : c0 ≤ 8) (h1 : 0 ≤ c1) (h1' : c1 ≤ 65536) (h2 : 1 ≤ c2) (h2' : c2 ≤ 256) (h3 : 0 ≤ c3) (h3' : c3 ≤ 256) (hs : 0 ≤ s) (hs' : s < c0) :
    Calls Tryz.prog 13 #[.agg #[.int .i64 c0, .int .i64 c1, .int .i64 c2, .int .i64 c3], .int .i64 s] w fun e w' => ∃ R L M T Bi Bb I D S Bh, e = .returned (.tuple #[ptr R, .nilIface]) ∧ Grew w w' ∧ ERep w' R L M T Bi Bb I D S Bh c0 c1 c2 c3 s := by
  have RR := Lib.hid (fun W => rep_right W c0 c1 c2 c3 s h0 h0' h1 h1' h2 h2' h3 h3' hs hs')
  have RB := Lib.hid (fun W => rep_begun W c0 c1 c2 c3 s h0 h0' h1 h1' h3 h3' hs hs')
  go_enter Tryz.func13, Tryz.ntmps13
  go_wp2_with (first
    | (go_at_call 41; refine (RR.out _).mono ?_; rintro e w' ⟨rfl, gx, rfl⟩)
    | (go_at_call 42; refine (RB.out _).mono ?_; rintro e w1 ⟨R, L, M, T, Bi, Bb, I, D, S, Bh, rfl, hg, hr⟩; have HG := Lib.hid hg; have HR := Lib.hid hr; clear hg hr))
  go_ret2
  exact ⟨R, L, M, T, Bi, Bb, I, D, S, Bh, rfl, Grew.trans (by repeat (first | with_reducible exact HG.out | with_reducible exact Grew.refl _ | with_reducible assumption | with_reducible apply Grew.plus | with_reducible apply Grew.drewN | with_reducible apply Grew.drew | with_reducible apply Grew.alloc | with_reducible refine Grew.setCell ?_ (by simp [go_sem]; try omega) _)) HG.out, HR.out⟩

section
variable {w : World} {R L M T Bi Bb I D S Bh : Nat} {c0 c1 c2 c3 s : Int}
theorem ERep.grew {w' : World} (h : ERep w R L M T Bi Bb I D S Bh c0 c1 c2 c3 s) (hg : Grew w w') : ERep w' R L M T Bi Bb I D S Bh c0 c1 c2 c3 s :=
  ⟨Grew.heap hg h.r, h.l.grew hg, Grew.heap hg h.i, Grew.heap hg h.h, Grew.heap hg h.d, Grew.heap hg h.st⟩
theorem ERep.c (h : ERep w R L M T Bi Bb I D S Bh c0 c1 c2 c3 s) (i : Nat) (v : Value) (hv : (repRow c0 c1 c2 c3 s L nilS (ptr I) (ptr D) S (.int .i64 (c1 / c0)))[i]? = some v) : w.cell? ⟨R, i, none⟩ = some v := (World.own_cell h.r i v hv).1
theorem ERep.lt (h : ERep w R L M T Bi Bb I D S Bh c0 c1 c2 c3 s) : R < w.heap.size := (Array.getElem?_eq_some_iff.1 h.r).1
theorem ELog.lt {ep : Int} (h : ELog w L M T Bi Bb ep) : L < w.heap.size := (Array.getElem?_eq_some_iff.1 h.l).1

abbrev zClock : C8 := ⟨0, 0, 0, 0, 0, 0, 0, 0⟩
theorem log_epoch {ep : Int} (h : ELog w L M T Bi Bb ep) : Calls Tryz.prog 58 #[ptr L] w fun e w' => e = .returned (.int .i64 ep) ∧ w = w' := by
  have l0 : w.cell? ⟨L, 0, none⟩ = some (.int .i64 ep) := (World.own_cell h.l 0 _ rfl).1
  go_enter Tryz.func58, Tryz.ntmps58
  go_wp2
  go_ret
  exact ⟨rfl, rfl⟩
theorem rep_epoch (h : ERep w R L M T Bi Bb I D S Bh c0 c1 c2 c3 s) : Calls Tryz.prog 30 #[ptr R] w fun e w' => e = .returned (.int .i64 0) ∧ w = w' := by
  have r5 : w.cell? ⟨R, 5, none⟩ = some (ptr L) := h.c 5 _ rfl
  have HL := Lib.hid h.l
  go_enter Tryz.func30, Tryz.ntmps30
  go_wp2_with (go_at_call 58; refine (log_epoch HL.out).mono ?_; rintro e w' ⟨rfl, rfl⟩)
  go_ret
  exact ⟨rfl, rfl⟩
theorem log_clock {ep : Int} (h : ELog w L M T Bi Bb ep) : Calls Tryz.prog 59 #[ptr L] w fun e w' => e = .returned (.agg zClock.cells) ∧ Grew w w' := by
  have hl := h.lt
  have l5 : w.cellsAt ⟨L, 5, none⟩ 8 = some [.int .i64 0, .int .i64 0, .int .i64 0, .int .i64 0, .int .i64 0, .int .i64 0, .int .i64 0, .int .i64 0] := by
    have := World.cellsAt_sub (World.cellsAt_block h.l 13 rfl) 5 8 (by decide)
    simpa using this
  go_enter Tryz.func59, Tryz.ntmps59
  go_wp2
  exact bodyPost_ret (v := .agg zClock.cells) (by simp [results, Tryz.results59, go_sem]; rfl) rfl ⟨rfl, by repeat (first | with_reducible exact HG.out | with_reducible exact Grew.refl _ | with_reducible assumption | with_reducible apply Grew.plus | with_reducible apply Grew.drewN | with_reducible apply Grew.drew | with_reducible apply Grew.alloc | with_reducible refine Grew.setCell ?_ (by simp [go_sem]; try omega) _)⟩
theorem rep_clock (h : ERep w R L M T Bi Bb I D S Bh c0 c1 c2 c3 s) : Calls Tryz.prog 31 #[ptr R] w fun e w' => e = .returned (.agg zClock.cells) ∧ Grew w w' := by
  have hl := h.lt
  have r5 : w.cell? ⟨R, 5, none⟩ = some (ptr L) := h.c 5 _ rfl
  have HL := Lib.hid h.l
  go_enter Tryz.func31, Tryz.ntmps31
  go_wp2_with (go_at_call 59; refine (log_clock (HL.out.grew (by repeat (first | with_reducible exact HG.out | with_reducible exact Grew.refl _ | with_reducible assumption | with_reducible apply Grew.plus | with_reducible apply Grew.drewN | with_reducible apply Grew.drew | with_reducible apply Grew.alloc | with_reducible refine Grew.setCell ?_ (by simp [go_sem]; try omega) _)))).mono ?_; rintro e w' ⟨rfl, gx, rfl⟩)
  exact bodyPost_ret (v := .agg zClock.cells) (by simp [results, Tryz.results31, go_sem]; rfl) rfl ⟨rfl, by repeat (first | with_reducible exact HG.out | with_reducible exact Grew.refl _ | with_reducible assumption | with_reducible apply Grew.plus | with_reducible apply Grew.drewN | with_reducible apply Grew.drew | with_reducible apply Grew.alloc | with_reducible refine Grew.setCell ?_ (by simp [go_sem]; try omega) _)⟩

theorem rep_credit (h : ERep w R L M T Bi Bb I D S Bh c0 c1 c2 c3 s) : Calls Tryz.prog 32 #[ptr R] w fun e w' => e = .returned (.int .i64 (c1 / c0)) ∧ w = w' := by
  have r10 : w.cell? ⟨R, 10, none⟩ = some (.int .i64 (c1 / c0)) := h.c 10 _ rfl
  go_enter Tryz.func32, Tryz.ntmps32
  go_wp2
  go_ret
  exact ⟨rfl, rfl⟩
theorem log_acts {ep : Int} (h : ELog w L M T Bi Bb ep) : Calls Tryz.prog 210 #[ptr L] w fun e w' => e = .returned nilS ∧ w = w' := by
  have l3 : w.cell? ⟨L, 3, none⟩ = some nilS := (World.own_cell h.l 3 _ rfl).1
  go_enter Tryz.func210, Tryz.ntmps210
  go_wp2
  go_ret
  exact ⟨rfl, rfl⟩
theorem rep_acts (h : ERep w R L M T Bi Bb I D S Bh c0 c1 c2 c3 s) : Calls Tryz.prog 233 #[ptr R] w fun e w' => e = .returned nilS ∧ w = w' := by
  have r5 : w.cell? ⟨R, 5, none⟩ = some (ptr L) := h.c 5 _ rfl
  have HL := Lib.hid h.l
  go_enter Tryz.func233, Tryz.ntmps233
  go_wp2_with (go_at_call 210; refine (log_acts HL.out).mono ?_; rintro e w' ⟨rfl, rfl⟩)
  go_ret
  exact ⟨rfl, rfl⟩
theorem inbox_acts (h : w.cell? ⟨I, 1, none⟩ = some nilS) : Calls Tryz.prog 290 #[ptr I] w fun e w' => e = .returned nilS ∧ w = w' := by
  go_enter Tryz.func290, Tryz.ntmps290
  go_wp2
  go_ret
  exact ⟨rfl, rfl⟩
theorem rep_held (h : ERep w R L M T Bi Bb I D S Bh c0 c1 c2 c3 s) : Calls Tryz.prog 234 #[ptr R] w fun e w' => e = .returned nilS ∧ w = w' := by
  have r7 : w.cell? ⟨R, 7, none⟩ = some (ptr I) := h.c 7 _ rfl
  have HI := Lib.hid (World.own_cell h.i 1 _ rfl).1
  go_enter Tryz.func234, Tryz.ntmps234
  go_wp2_with (go_at_call 290; refine (inbox_acts HI.out).mono ?_; rintro e w' ⟨rfl, rfl⟩)
  go_ret
  exact ⟨rfl, rfl⟩
theorem ERep.mod (h : ERep w R L M T Bi Bb I D S Bh c0 c1 c2 c3 s) : Calls Tryz.prog 55 #[ptr R] w fun e w' => e = .returned (ptr M) ∧ w = w' :=
  rep_model (h.c 5 _ rfl) (World.own_cell h.l.l 2 _ rfl).1
theorem rep_elements (h : ERep w R L M T Bi Bb I D S Bh c0 c1 c2 c3 s) : Calls Tryz.prog 37 #[ptr R] w fun e w' => e = .returned nilS ∧ Grew w w' := by
  have H := Lib.hid h
  clear h
  go_enter Tryz.func37, Tryz.ntmps37
  go_wp2_with (first | (go_at_call 55; refine H.out.mod.mono ?_; rintro e w' ⟨rfl, rfl⟩) | (go_at_call 63; refine (model_elements H.out.l.m).mono ?_; rintro e w' ⟨rfl, gx, rfl⟩))
  go_ret
  exact ⟨rfl, by repeat (first | with_reducible exact HG.out | with_reducible exact Grew.refl _ | with_reducible assumption | with_reducible apply Grew.plus | with_reducible apply Grew.drewN | with_reducible apply Grew.drew | with_reducible apply Grew.alloc | with_reducible refine Grew.setCell ?_ (by simp [go_sem]; try omega) _)⟩
theorem rep_live (h : ERep w R L M T Bi Bb I D S Bh c0 c1 c2 c3 s) : Calls Tryz.prog 109 #[ptr R] w fun e w' => e = .returned (.int .i64 0) ∧ Grew w w' := by
  have H := Lib.hid h
  clear h
  go_enter Tryz.func109, Tryz.ntmps109
  go_wp2_with (first | (go_at_call 55; refine H.out.mod.mono ?_; rintro e w' ⟨rfl, rfl⟩) | (go_at_call 148; refine (model_live H.out.l.m).mono ?_; rintro e w' ⟨rfl, gx, rfl⟩))
  go_ret
  exact ⟨rfl, by repeat (first | with_reducible exact HG.out | with_reducible exact Grew.refl _ | with_reducible assumption | with_reducible apply Grew.plus | with_reducible apply Grew.drewN | with_reducible apply Grew.drew | with_reducible apply Grew.alloc | with_reducible refine Grew.setCell ?_ (by simp [go_sem]; try omega) _)⟩
theorem where_front (p : Nat) (x y z : Value) (w : World) : Calls Tryz.prog 273 #[ptr p, .agg #[.bool true, x, y, z]] w fun e w' => e = .returned (.tuple #[.int .i64 0, .bool true]) ∧ Grew w w' := by
  go_enter Tryz.func273, Tryz.ntmps273
  go_wp2
  go_ret2
  exact ⟨rfl, by repeat (first | with_reducible exact HG.out | with_reducible exact Grew.refl _ | with_reducible assumption | with_reducible apply Grew.plus | with_reducible apply Grew.drewN | with_reducible apply Grew.drew | with_reducible apply Grew.alloc | with_reducible refine Grew.setCell ?_ (by simp [go_sem]; try omega) _)⟩
end
end Go.Proofs.YthekgpchjonboaaGreatDoor
