/- Walks: Agree and Sound of new replicas. -/
import Derived.Test.YthekgpchjonboaaGreatDoorAudN
import Derived.Deep.RegionHeld3
import Derived.IntWalk
namespace Go.Proofs.YthekgpchjonboaaGreatDoor
open Go.RowKit
set_option linter.unusedSimpArgs false
set_option linter.unusedVariables false
section
variable {w : World} {R L M T Bi Bb I D S Bh : Nat} {c0 c1 c2 c3 s : Int} {R' L' M' T' Bi' Bb' I' D' S' Bh' : Nat} {s' : Int}

/-- A new replica of some configuration. -/
def IsRep (w : World) (R : Nat) (c0 c1 : Int) : Prop := ∃ L M T Bi Bb I D S Bh c2 c3 s, ERep w R L M T Bi Bb I D S Bh c0 c1 c2 c3 s
theorem IsRep.grew {W : World} (h : IsRep w R c0 c1) (hg : Grew w W) : IsRep W R c0 c1 := by
  obtain ⟨L, M, T, Bi, Bb, I, D, S, Bh, c2, c3, s, h⟩ := h
  exact ⟨L, M, T, Bi, Bb, I, D, S, Bh, c2, c3, s, h.grew hg⟩
theorem same_grew {P : Program} {f : FuncId} {a : Array Value} {v : Value} (h : Calls P f a w fun e w' => e = .returned v ∧ w = w') : Calls P f a w fun e w' => e = .returned v ∧ Grew w w' :=
  h.mono fun e w' ⟨h1, h2⟩ => ⟨h1, by subst h2; exact Grew.refl _⟩
section
variable (h : IsRep w R c0 c1)
include h
theorem is_epoch : Calls Tryz.prog 30 #[ptr R] w fun e w' => e = .returned (.int .i64 0) ∧ Grew w w' := by
  obtain ⟨L, M, T, Bi, Bb, I, D, S, Bh, c2, c3, s, h⟩ := h; exact same_grew (rep_epoch h)
theorem is_clock : Calls Tryz.prog 31 #[ptr R] w fun e w' => e = .returned (.agg zClock.cells) ∧ Grew w w' := by
  obtain ⟨L, M, T, Bi, Bb, I, D, S, Bh, c2, c3, s, h⟩ := h; exact rep_clock h
theorem is_elements : Calls Tryz.prog 37 #[ptr R] w fun e w' => e = .returned nilS ∧ Grew w w' := by
  obtain ⟨L, M, T, Bi, Bb, I, D, S, Bh, c2, c3, s, h⟩ := h; exact rep_elements h
theorem is_acts : Calls Tryz.prog 233 #[ptr R] w fun e w' => e = .returned nilS ∧ Grew w w' := by
  obtain ⟨L, M, T, Bi, Bb, I, D, S, Bh, c2, c3, s, h⟩ := h; exact same_grew (rep_acts h)
theorem is_held : Calls Tryz.prog 234 #[ptr R] w fun e w' => e = .returned nilS ∧ Grew w w' := by
  obtain ⟨L, M, T, Bi, Bb, I, D, S, Bh, c2, c3, s, h⟩ := h; exact same_grew (rep_held h)
theorem is_live : Calls Tryz.prog 109 #[ptr R] w fun e w' => e = .returned (.int .i64 0) ∧ Grew w w' := by
  obtain ⟨L, M, T, Bi, Bb, I, D, S, Bh, c2, c3, s, h⟩ := h; exact rep_live h
theorem is_view : Calls Tryz.prog 27 #[ptr R] w fun e w' => e = .returned (.string .empty) ∧ Grew w w' := by
  obtain ⟨L, M, T, Bi, Bb, I, D, S, Bh, c2, c3, s, h⟩ := h; exact rep_view h
theorem is_credit : Calls Tryz.prog 32 #[ptr R] w fun e w' => e = .returned (.int .i64 (c1 / c0)) ∧ Grew w w' := by
  obtain ⟨L, M, T, Bi, Bb, I, D, S, Bh, c2, c3, s, h⟩ := h; exact same_grew (rep_credit h)
end

theorem is_credit4 (h : IsRep w R 2 8) : Calls Tryz.prog 32 #[ptr R] w fun e w' => e = .returned (.int .i64 4) ∧ Grew w w' := is_credit h
end
end Go.Proofs.YthekgpchjonboaaGreatDoor
