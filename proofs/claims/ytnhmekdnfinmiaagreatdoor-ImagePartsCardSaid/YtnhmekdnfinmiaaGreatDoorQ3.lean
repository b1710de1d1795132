/- Texts of this proof, merged (printed by wip/pmerge.py out of ClkL, ErrC, ErrK, ErrR, ErrS, El, ElL, ClkW, ActL, EyeE, EyeF). -/
import Derived.Test.YtnhmekdnfinmiaaGreatDoorQ2
import Derived.Test.YtnhmekdnfinmiaaGreatDoorQ1
import Derived.Conc.MuLone
import Derived.Deep.RegionHeld3
import Derived.Test.YtnhmekdnfinmiaaGreatDoorProg
import Derived.IntWalk
import Derived.Deep.DeepCutAuto
import Derived.Deep.LoopGhost
/- The walk's rules for a clock's and an act's cells: read, folded again, written. -/
namespace Go
@[go_sem] theorem C8.cell0 (c : C8) : c.cells[0]? = some (.int .i64 c.x0) := by cases c; rfl
@[go_sem] theorem C8.cell1 (c : C8) : c.cells[1]? = some (.int .i64 c.x1) := by cases c; rfl
@[go_sem] theorem C8.cell2 (c : C8) : c.cells[2]? = some (.int .i64 c.x2) := by cases c; rfl
@[go_sem] theorem C8.cell3 (c : C8) : c.cells[3]? = some (.int .i64 c.x3) := by cases c; rfl
@[go_sem] theorem C8.cell4 (c : C8) : c.cells[4]? = some (.int .i64 c.x4) := by cases c; rfl
@[go_sem] theorem C8.cell5 (c : C8) : c.cells[5]? = some (.int .i64 c.x5) := by cases c; rfl
@[go_sem] theorem C8.cell6 (c : C8) : c.cells[6]? = some (.int .i64 c.x6) := by cases c; rfl
@[go_sem] theorem C8.cell7 (c : C8) : c.cells[7]? = some (.int .i64 c.x7) := by cases c; rfl
@[go_sem] theorem C8.fold (c : C8) : (#[.int .i64 c.x0, .int .i64 c.x1, .int .i64 c.x2, .int .i64 c.x3, .int .i64 c.x4, .int .i64 c.x5, .int .i64 c.x6, .int .i64 c.x7] : Array Value) = c.cells := by cases c; rfl
@[go_sem] theorem C8.toList_cells (c : C8) : c.cells.toList = [.int .i64 c.x0, .int .i64 c.x1, .int .i64 c.x2, .int .i64 c.x3, .int .i64 c.x4, .int .i64 c.x5, .int .i64 c.x6, .int .i64 c.x7] := by cases c; rfl
@[go_sem] theorem C8.size_cells' (c : C8) : c.cells.size = 8 := by cases c; rfl
@[go_sem] theorem ActD.cell0 (c : ActD) : c.cells[0]? = some (.int .i64 c.kind) := by cases c; rfl
@[go_sem] theorem ActD.cell1 (c : ActD) : c.cells[1]? = some (.int .i64 c.place) := by cases c; rfl
@[go_sem] theorem ActD.cell2 (c : ActD) : c.cells[2]? = some (.int .i32 c.char) := by cases c; rfl
@[go_sem] theorem ActD.cell3 (c : ActD) : c.cells[3]? = some (.int .i64 c.replica) := by cases c; rfl
@[go_sem] theorem ActD.cell4 (c : ActD) : c.cells[4]? = some (.int .i64 c.number) := by cases c; rfl
@[go_sem] theorem ActD.cell5 (c : ActD) : c.cells[5]? = some (.int .i64 c.clock.x0) := by cases c; rfl
@[go_sem] theorem ActD.cell6 (c : ActD) : c.cells[6]? = some (.int .i64 c.clock.x1) := by cases c; rfl
@[go_sem] theorem ActD.cell7 (c : ActD) : c.cells[7]? = some (.int .i64 c.clock.x2) := by cases c; rfl
@[go_sem] theorem ActD.cell8 (c : ActD) : c.cells[8]? = some (.int .i64 c.clock.x3) := by cases c; rfl
@[go_sem] theorem ActD.cell9 (c : ActD) : c.cells[9]? = some (.int .i64 c.clock.x4) := by cases c; rfl
@[go_sem] theorem ActD.cell10 (c : ActD) : c.cells[10]? = some (.int .i64 c.clock.x5) := by cases c; rfl
@[go_sem] theorem ActD.cell11 (c : ActD) : c.cells[11]? = some (.int .i64 c.clock.x6) := by cases c; rfl
@[go_sem] theorem ActD.cell12 (c : ActD) : c.cells[12]? = some (.int .i64 c.clock.x7) := by cases c; rfl
@[go_sem] theorem ActD.at0 (c : ActD) (h : 0 < c.cells.size) : c.cells[0]'h = .int .i64 c.kind := by cases c; rfl
@[go_sem] theorem ActD.at1 (c : ActD) (h : 1 < c.cells.size) : c.cells[1]'h = .int .i64 c.place := by cases c; rfl
@[go_sem] theorem ActD.at2 (c : ActD) (h : 2 < c.cells.size) : c.cells[2]'h = .int .i32 c.char := by cases c; rfl
@[go_sem] theorem ActD.at3 (c : ActD) (h : 3 < c.cells.size) : c.cells[3]'h = .int .i64 c.replica := by cases c; rfl
@[go_sem] theorem ActD.at4 (c : ActD) (h : 4 < c.cells.size) : c.cells[4]'h = .int .i64 c.number := by cases c; rfl
@[go_sem] theorem ActD.at5 (c : ActD) (h : 5 < c.cells.size) : c.cells[5]'h = .int .i64 c.clock.x0 := by cases c; rfl
@[go_sem] theorem ActD.at6 (c : ActD) (h : 6 < c.cells.size) : c.cells[6]'h = .int .i64 c.clock.x1 := by cases c; rfl
@[go_sem] theorem ActD.at7 (c : ActD) (h : 7 < c.cells.size) : c.cells[7]'h = .int .i64 c.clock.x2 := by cases c; rfl
@[go_sem] theorem ActD.at8 (c : ActD) (h : 8 < c.cells.size) : c.cells[8]'h = .int .i64 c.clock.x3 := by cases c; rfl
@[go_sem] theorem ActD.at9 (c : ActD) (h : 9 < c.cells.size) : c.cells[9]'h = .int .i64 c.clock.x4 := by cases c; rfl
@[go_sem] theorem ActD.at10 (c : ActD) (h : 10 < c.cells.size) : c.cells[10]'h = .int .i64 c.clock.x5 := by cases c; rfl
@[go_sem] theorem ActD.at11 (c : ActD) (h : 11 < c.cells.size) : c.cells[11]'h = .int .i64 c.clock.x6 := by cases c; rfl
@[go_sem] theorem ActD.at12 (c : ActD) (h : 12 < c.cells.size) : c.cells[12]'h = .int .i64 c.clock.x7 := by cases c; rfl
@[go_sem] theorem ActD.fold (c : ActD) : (#[.int .i64 c.kind, .int .i64 c.place, .int .i32 c.char, .int .i64 c.replica, .int .i64 c.number, .int .i64 c.clock.x0, .int .i64 c.clock.x1, .int .i64 c.clock.x2, .int .i64 c.clock.x3, .int .i64 c.clock.x4, .int .i64 c.clock.x5, .int .i64 c.clock.x6, .int .i64 c.clock.x7] : Array Value) = c.cells := by cases c; rfl
@[go_sem] theorem ActD.toList_cells (c : ActD) : c.cells.toList = [.int .i64 c.kind, .int .i64 c.place, .int .i32 c.char, .int .i64 c.replica, .int .i64 c.number, .int .i64 c.clock.x0, .int .i64 c.clock.x1, .int .i64 c.clock.x2, .int .i64 c.clock.x3, .int .i64 c.clock.x4, .int .i64 c.clock.x5, .int .i64 c.clock.x6, .int .i64 c.clock.x7] := by cases c; rfl
@[go_sem] theorem ActD.size_cells' (c : ActD) : c.cells.size = 13 := by cases c; rfl
@[go_sem] theorem ActD.part_clock (c : ActD) : c.cells.extract 5 13 = c.clock.cells := by cases c; rfl
@[go_sem] theorem C8.put0 (c : C8) (v : Value) : c.cells.setIfInBounds 0 v = #[v, .int .i64 c.x1, .int .i64 c.x2, .int .i64 c.x3, .int .i64 c.x4, .int .i64 c.x5, .int .i64 c.x6, .int .i64 c.x7] := by cases c; rfl
@[go_sem] theorem C8.put1 (c : C8) (v : Value) : c.cells.setIfInBounds 1 v = #[.int .i64 c.x0, v, .int .i64 c.x2, .int .i64 c.x3, .int .i64 c.x4, .int .i64 c.x5, .int .i64 c.x6, .int .i64 c.x7] := by cases c; rfl
@[go_sem] theorem C8.put2 (c : C8) (v : Value) : c.cells.setIfInBounds 2 v = #[.int .i64 c.x0, .int .i64 c.x1, v, .int .i64 c.x3, .int .i64 c.x4, .int .i64 c.x5, .int .i64 c.x6, .int .i64 c.x7] := by cases c; rfl
@[go_sem] theorem C8.put3 (c : C8) (v : Value) : c.cells.setIfInBounds 3 v = #[.int .i64 c.x0, .int .i64 c.x1, .int .i64 c.x2, v, .int .i64 c.x4, .int .i64 c.x5, .int .i64 c.x6, .int .i64 c.x7] := by cases c; rfl
@[go_sem] theorem C8.put4 (c : C8) (v : Value) : c.cells.setIfInBounds 4 v = #[.int .i64 c.x0, .int .i64 c.x1, .int .i64 c.x2, .int .i64 c.x3, v, .int .i64 c.x5, .int .i64 c.x6, .int .i64 c.x7] := by cases c; rfl
@[go_sem] theorem C8.put5 (c : C8) (v : Value) : c.cells.setIfInBounds 5 v = #[.int .i64 c.x0, .int .i64 c.x1, .int .i64 c.x2, .int .i64 c.x3, .int .i64 c.x4, v, .int .i64 c.x6, .int .i64 c.x7] := by cases c; rfl
@[go_sem] theorem C8.put6 (c : C8) (v : Value) : c.cells.setIfInBounds 6 v = #[.int .i64 c.x0, .int .i64 c.x1, .int .i64 c.x2, .int .i64 c.x3, .int .i64 c.x4, .int .i64 c.x5, v, .int .i64 c.x7] := by cases c; rfl
@[go_sem] theorem C8.put7 (c : C8) (v : Value) : c.cells.setIfInBounds 7 v = #[.int .i64 c.x0, .int .i64 c.x1, .int .i64 c.x2, .int .i64 c.x3, .int .i64 c.x4, .int .i64 c.x5, .int .i64 c.x6, v] := by cases c; rfl
@[go_sem] theorem C8.at_get (c : C8) (k : Nat) (h : k < c.cells.size) : c.cells[k]'h = .int .i64 (c.get k) := by
  have := c.cells_get k (by rw [C8.size_cells'] at h; exact h)
  rw [Array.getElem?_eq_getElem h] at this
  exact Option.some.inj this
@[go_sem] theorem ActD.at_clock (c : ActD) (k : Nat) (h : 5 + k < c.cells.size) : c.cells[5 + k]'h = .int .i64 (c.clock.get k) := by
  have := c.cells_clock k (by have h' : 5 + k < 13 := by rw [ActD.size_cells'] at h; exact h
                              omega)
  rw [Array.getElem?_eq_getElem h] at this
  exact Option.some.inj this
@[go_sem] theorem C8.get0 (c : C8) : c.get 0 = c.x0 := by cases c; rfl
@[go_sem] theorem C8.get1 (c : C8) : c.get 1 = c.x1 := by cases c; rfl
@[go_sem] theorem C8.get2 (c : C8) : c.get 2 = c.x2 := by cases c; rfl
@[go_sem] theorem C8.get3 (c : C8) : c.get 3 = c.x3 := by cases c; rfl
@[go_sem] theorem C8.get4 (c : C8) : c.get 4 = c.x4 := by cases c; rfl
@[go_sem] theorem C8.get5 (c : C8) : c.get 5 = c.x5 := by cases c; rfl
@[go_sem] theorem C8.get6 (c : C8) : c.get 6 = c.x6 := by cases c; rfl
@[go_sem] theorem C8.get7 (c : C8) : c.get 7 = c.x7 := by cases c; rfl
end Go
/- Walks: Code and Codes of an error that lies as a tree. -/
namespace Go.Proofs.YtnhmekdnfinmiaaGreatDoor
open Go.RowKit
set_option linter.unusedSimpArgs false
set_option linter.unusedVariables false

theorem elInt : Elem Tryz.prog 43 3 1 8 := Elem.of Tryz.underlying43 (by kernel_rfl) (by decide)

def codeF (s n : Nat) : Nat × Bool := (if n = 0 then s else n, n == 0)
def codesF (l : List Nat) (n : Nat) : List Nat × Bool := (if n = 0 then l else l ++ [n], true)
def Err.code (e : Err) : Nat := match e with | .none => 0 | e => (e.walk codeF 99).1
def Err.codes (e : Err) : List Nat := (e.walk codesF []).1
def nats (l : List Nat) : List Value := l.map fun n : Nat => Value.int .i64 (n : Int)

def CodeInv (w0 : World) (B : Nat) (m : Nat) (s : Nat) (w : World) : Prop := Grew w0 w ∧ w.heap[B]? = some (.cells #[.int .i64 s] 3 (0, 0))
def CodesInv (w0 : World) (B : Nat) (m : Nat) (l : List Nat) (w : World) : Prop :=
  Grew w0 w ∧ l.length + m ≤ 1000000000000 ∧ ∃ v, w.heap[B]? = some (.cells #[v] 43 (0, 0)) ∧ w.ownsRow (B + 1) 3 1 v l.length (nats l)

theorem mine_one {B : Nat} {w : World} {u : Value} {t : TypeId} (h : w.heap[B]? = some (.cells #[u] t (0, 0))) {k : Nat} (hm : Mine ⟨B, 0, none⟩ w k) : k = B ∨ u.ownBlock = some k := by
  rcases hm with e | ⟨v, hv, ho⟩
  · exact .inl e
  · rw [World.own_cell1 h] at hv
    cases hv
    exact .inr ho

theorem Keeps.setCell {B : Nat} {w : World} {u : Value} {t : TypeId} (h : w.heap[B]? = some (.cells #[u] t (0, 0))) (u' : Value) (hu : ∀ q, q < w.heap.size → ¬ Mine ⟨B, 0, none⟩ w q → u'.ownBlock ≠ some q) : Keeps ⟨B, 0, none⟩ w (w.setCell ⟨B, 0, none⟩ u') :=
  ⟨by rw [World.setCell_size]; exact Nat.le_refl _, fun q hq hm => ⟨World.block_setCell _ _ _ _ (fun e => hm (.inl e)), fun hm' => by
    rcases mine_one (by rw [World.own_setCell h]; rfl) hm' with e | e
    · exact hm (.inl e)
    · exact hu q hq hm e⟩⟩

set_option maxRecDepth 100000 in
set_option maxHeartbeats 2000000 in
theorem code1_any {S : Nat → Addr} {w0 : World} (hS : Sents S w0) (B : Nat) (hB : w0.heap.size ≤ B) (v : Value) (k m s : Nat) (w : World) (hk : IsNum S w0 v k) (hi : CodeInv w0 B (m + 1) s w) :
    Calls Tryz.prog 63 #[v, .pointer (some ⟨B, 0, none⟩)] w fun e w' => e = .returned (.bool (codeF s (numOf k)).2) ∧ CodeInv w0 B m (codeF s (numOf k)).1 w' ∧ Keeps ⟨B, 0, none⟩ w w' := by
  obtain ⟨hg, hb⟩ := hi
  have hlt := (Array.getElem?_eq_some_iff.1 hb).1
  have NC := Lib.hid (number_any hS v k hk hg)
  have HG0 := Lib.hid hg
  have HB0 := Lib.hid hb
  have hc : ∀ gx, (w.plus gx).cell? ⟨B, 0, none⟩ = some (.int .i64 s) := fun gx => (World.own_cell (Grew.heap ((Grew.refl w).plus gx) hb) 0 _ rfl).1
  have hf : ∀ gx, (w.plus gx).frozen? ⟨B, 0, none⟩ = false := fun gx => (World.own_cell (Grew.heap ((Grew.refl w).plus gx) hb) 0 _ rfl).2
  clear hg hb hk hS
  generalize numOf k = n at *
  by_cases h0 : n = 0
  · subst h0
    go_enter Tryz.func63, Tryz.ntmps63
    go_wp2_with (go_at_call 64; refine NC.out.mono ?_; rintro e w' ⟨rfl, gx, rfl⟩)
    go_ret
    exact ⟨rfl, ⟨HG0.out.plus gx, Grew.heap ((Grew.refl w).plus gx) HB0.out⟩, Keeps.of_grew ((Grew.refl w).plus gx) hlt⟩
  · have hn : ((n : Int) = 0) = False := by simp [h0]
    go_enter Tryz.func63, Tryz.ntmps63
    go_wp2_with (go_at_call 64; refine NC.out.mono ?_; rintro e w' ⟨rfl, gx, rfl⟩)
    go_ret
    have hb1 := World.own_setCell (i := 0) HB0.out (.int .i64 n)
    have hk1 := Keeps.setCell HB0.out (.int .i64 n) (fun q _ _ => by simp [Value.ownBlock])
    refine ⟨ret_bool (by rw [show (codeF s n).2 = (n == 0) from rfl, Bool.eq_iff_iff]; simp), ⟨(HG0.out.setCell hB _).plus gx, ?_⟩, hk1.trans (Keeps.of_grew ((Grew.refl _).plus gx) (by rw [World.setCell_size]; exact hlt))⟩
    rw [show (codeF s n).1 = n by simp [codeF, h0]]
    exact Grew.heap ((Grew.refl _).plus gx) hb1

set_option maxRecDepth 100000 in
set_option maxHeartbeats 4000000 in
theorem codes1_any {S : Nat → Addr} {w0 : World} (hS : Sents S w0) (B : Nat) (hB : w0.heap.size ≤ B) (v : Value) (k m : Nat) (l : List Nat) (w : World) (hk : IsNum S w0 v k) (hi : CodesInv w0 B (m + 1) l w) :
    Calls Tryz.prog 66 #[v, .pointer (some ⟨B, 0, none⟩)] w fun e w' => e = .returned (.bool (codesF l (numOf k)).2) ∧ CodesInv w0 B m (codesF l (numOf k)).1 w' ∧ Keeps ⟨B, 0, none⟩ w w' := by
  obtain ⟨hg, hlm, u, hb, ho⟩ := hi
  have hlt := (Array.getElem?_eq_some_iff.1 hb).1
  have NC := Lib.hid (number_any hS v k hk hg)
  have HG0 := Lib.hid hg
  have HB0 := Lib.hid hb
  have HO0 := Lib.hid ho
  have hc : ∀ gx, (w.plus gx).cell? ⟨B, 0, none⟩ = some u := fun gx => (World.own_cell (Grew.heap ((Grew.refl w).plus gx) hb) 0 _ rfl).1
  have hne : u.ownBlock ≠ some B := by
    rcases ho.2 with ⟨rfl, _⟩ | ⟨g, cap, cur, rfl, hb', _⟩
    · simp [Value.ownBlock]
    · simp [Value.ownBlock]; omega
  clear hg hb hk hS ho
  generalize numOf k = n at *
  by_cases h0 : n = 0
  · subst h0
    go_enter Tryz.func66, Tryz.ntmps66
    go_wp2_with (go_at_call 64; refine NC.out.mono ?_; rintro e w' ⟨rfl, gx, rfl⟩)
    go_ret
    exact ⟨rfl, ⟨HG0.out.plus gx, by simp [codesF]; omega, u, Grew.heap ((Grew.refl w).plus gx) HB0.out, HO0.out.grew ((Grew.refl w).plus gx)⟩, Keeps.of_grew ((Grew.refl w).plus gx) hlt⟩
  · have hn : ((n : Int) = 0) = False := by simp [h0]
    go_enter Tryz.func66, Tryz.ntmps66
    go_wp2_with (first | (go_at_call 64; refine NC.out.mono ?_; rintro e w' ⟨rfl, gx, rfl⟩) | (at_builtin; go_loud (refine wpList_app (by rfl) _ _ 43 (by rfl) elInt (B + 1) u l.length (nats l) (by rfl) ((HO0.out.grew ((Grew.refl w).plus gx)).grew ((Grew.refl _).alloc _)) _ 1 1 #[.int .i64 n] 3 (by rfl) (heap_alloc_at _ _ _ (by simp [go_sem])) (by rfl) (by intro u hu; simp at hu; subst hu; rfl) (by omega) (by omega) (by unfold maxLen; omega) w0 ((HG0.out.plus gx).alloc _) (by omega) (by simp [go_sem]; omega) ?_); intro g c2 w2 hg2 hown2 hkeep2 hsz2 hat2; have hB2 := World.kept_block hkeep2 (Grew.heap (((Grew.refl w).plus gx).alloc _) HB0.out) hne; have HB2 := Lib.hid hB2; have hc2 := (World.own_cell hB2 0 _ rfl).1; have hf2 := (World.own_cell hB2 0 _ rfl).2; have HK2 := Lib.hid hkeep2; have HO2 := Lib.hid hown2; have HG2 := Lib.hid hg2; clear hB2 hkeep2 hown2 hg2))
    go_ret
    have hW := ((Grew.refl w).plus gx).alloc (.cells #[.int .i64 n] 3)
    have hWs := hW.size
    have hgB : g ≠ B := by
      rcases hat2 with h | h
      · rintro rfl; exact hne h
      · omega
    have hb3 := World.own_setCell (i := 0) HB2.out (.slice (some ⟨g, 0, none⟩) (l.length + 1) c2)
    refine ⟨by simp [codesF], ⟨HG2.out.setCell hB _, ?_, .slice (some ⟨g, 0, none⟩) (l.length + 1) c2, hb3, ?_⟩, ?_, fun q hq hm => ?_⟩
    · simp [codesF, h0]; omega
    · have := HO2.out.setOther (q := B) (i := 0) (by simp [Value.ownBlock, hgB]) (.slice (some ⟨g, 0, none⟩) (l.length + 1) c2)
      simpa [codesF, h0, nats] using this
    · rw [World.setCell_size]; omega
    · have hqB : q ≠ B := fun e => hm (.inl e)
      have hqu : u.ownBlock ≠ some q := fun e => hm (.inr ⟨u, World.own_cell1 HB0.out, e⟩)
      refine ⟨?_, fun hm' => ?_⟩
      · rw [World.block_setCell _ _ _ _ hqB, HK2.out q (by omega) (fun e => hqu e.symm), hW.block q hq]
      · rcases mine_one hb3 hm' with e | e
        · exact hqB e
        · simp only [Value.ownBlock, Option.some.injEq] at e
          subst e
          rcases hat2 with h | h
          · exact hqu h
          · omega

set_option maxHeartbeats 2000000 in
theorem code_any {S : Nat → Addr} {w : World} (hS : Sents S w) {e : Err} {v : Value} (he : ErrAt S w e v) (hs : e.size ≤ 1000000000000) :
    Calls Tryz.prog 27 #[v] w fun x w' => x = .returned (.int .i64 e.code) ∧ Grew w w' := by
  by_cases h0 : e = .none
  · subst h0
    obtain rfl := he.nil_iff.2 rfl
    go_enter Tryz.func27, Tryz.ntmps27
    go_wp2_with fail
    go_ret
    exact ⟨rfl, by repeat (first | with_reducible exact HG.out | with_reducible exact Grew.refl _ | with_reducible assumption | with_reducible apply Grew.plus | with_reducible apply Grew.drewN | with_reducible apply Grew.drew | with_reducible apply Grew.alloc | with_reducible refine Grew.setCell ?_ (by simp [go_sem]; try omega) _)⟩
  · have hc : (e.code : Int) = (e.walk codeF 99).1 := by cases e <;> first | exact absurd rfl h0 | rfl
    have hv : ∃ t u, v = .iface t u := by cases he <;> first | exact absurd rfl h0 | exact ⟨_, _, rfl⟩
    obtain ⟨t, u, rfl⟩ := hv
    have hin := fun v' w' => (Go.MuLone.run_callFunc_enter (P := Tryz.prog) (f := 63) Tryz.func63 (by kernel_rfl) rfl #[v', .pointer (some ⟨w.heap.size, 0, none⟩)] w')
    have T := Lib.hid (through_any 63 ⟨w.heap.size, 0, none⟩ codeF (CodeInv w w.heap.size)
      (fun m s w1 w2 h hg => ⟨h.1.trans hg, Grew.heap hg h.2⟩) (fun m s w1 h => h.1)
      (fun m s w1 h k hk => by rcases mine_one h.2 hk with rfl | e; exact (Array.getElem?_eq_some_iff.1 h.2).1; cases e)
      (fun m m' s w1 _ h => h) hin
      (fun v' k m s w1 hk _ hi => code1_any hS _ (Nat.le_refl _) v' k m s w1 hk hi) hS he 0 99)
    have HC := Lib.hid hc
    clear hc hin
    go_enter Tryz.func27, Tryz.ntmps27
    go_wp2_with (go_at_call 62; refine (T.out _ ⟨by repeat (first | with_reducible exact HG.out | with_reducible exact Grew.refl _ | with_reducible assumption | with_reducible apply Grew.plus | with_reducible apply Grew.drewN | with_reducible apply Grew.drew | with_reducible apply Grew.alloc | with_reducible refine Grew.setCell ?_ (by simp [go_sem]; try omega) _), heap_alloc_new w _⟩).mono ?_; rintro x w' ⟨rfl, hci, _⟩; have hc2 := (World.own_cell hci.2 0 _ rfl).1; have HCI := Lib.hid hci; clear hci)
    go_ret
    exact ⟨by rw [HC.out]; rfl, HCI.out.1⟩

set_option maxHeartbeats 2000000 in
theorem codes_any {S : Nat → Addr} {w : World} (hS : Sents S w) {e : Err} {v : Value} (he : ErrAt S w e v) (hs : e.size ≤ 1000000000000) :
    Calls Tryz.prog 31 #[v] w fun x w' => ∃ s, x = .returned s ∧ w'.ownsRow w.heap.size 3 1 s e.codes.length (nats e.codes) ∧ Grew w w' := by
  have hin := fun v' w' => (Go.MuLone.run_callFunc_enter (P := Tryz.prog) (f := 66) Tryz.func66 (by kernel_rfl) rfl #[v', .pointer (some ⟨w.heap.size, 0, none⟩)] w')
  have T := Lib.hid (through_any 66 ⟨w.heap.size, 0, none⟩ codesF (CodesInv w w.heap.size)
    (fun m s w1 w2 h hg => ⟨h.1.trans hg, h.2.1, by obtain ⟨u, h1, h2⟩ := h.2.2; exact ⟨u, Grew.heap hg h1, h2.grew hg⟩⟩) (fun m s w1 h => h.1)
    (fun m s w1 h k hk => by
      obtain ⟨u, h1, h2⟩ := h.2.2
      rcases mine_one h1 hk with rfl | e
      · exact (Array.getElem?_eq_some_iff.1 h1).1
      · exact (h2.lt k e).2)
    (fun m m' s w1 hm h => ⟨h.1, by have := h.2.1; omega, h.2.2⟩) hin
    (fun v' k m s w1 hk _ hi => codes1_any hS _ (Nat.le_refl _) v' k m s w1 hk hi) hS he 0 [])
  clear hin
  go_enter Tryz.func31, Tryz.ntmps31
  go_wp2_with (go_at_call 62; refine (T.out _ ⟨by repeat (first | with_reducible exact HG.out | with_reducible exact Grew.refl _ | with_reducible assumption | with_reducible apply Grew.plus | with_reducible apply Grew.drewN | with_reducible apply Grew.drew | with_reducible apply Grew.alloc | with_reducible refine Grew.setCell ?_ (by simp [go_sem]; try omega) _), by simpa using hs, _, heap_alloc_new w _, ⟨rfl, .inl ⟨rfl, rfl⟩⟩⟩).mono ?_; rintro x w' ⟨rfl, hci, _⟩; obtain ⟨hg1, _, u1, hb1, ho1⟩ := hci; have hc2 := (World.own_cell hb1 0 _ rfl).1; have HG1 := Lib.hid hg1; have HO1 := Lib.hid ho1; clear hg1 ho1 hb1)
  go_ret
  exact ⟨u1, rfl, HO1.out.low (by omega), HG1.out⟩
end Go.Proofs.YtnhmekdnfinmiaaGreatDoor
/- Walks: Chain of an error that lies as a tree. -/
namespace Go
open Go.RowKit
theorem step_app {P : Program} {ops : Array Oper} {o : Oper} {a : Act} {w : World} {K : Act → World → Prop} {Q : Exit → Act → World → Prop} {E : Prop} (hgd : o.guard = none) (s x : Operand) (t : TypeId)
    (ho : o.op = .call { callee := .builtin .append, args := #[s, x], argTypes := #[t, t] })
    {e : TypeId} {size bytes : Nat} (hE : Elem P t e size bytes) (base : Nat) (v : Value) (n : Nat) (xs : List Value) (hs : a.eval s = v) (hown : w.ownsRow base e size v n xs)
    (B m c : Nat) (cs : Array Value) (tt : TypeId) (hx : a.eval x = .slice (some ⟨B, 0, none⟩) m c) (hb : w.heap[B]? = some (.cells cs tt (0, 0))) (hl : cs.size = m * size) (h1 : ∀ u ∈ cs.toList, u.oneCell' = true)
    (hm : 0 < m) (hbytes : (n + m) * bytes ≤ 140737488355328) (h63 : n + m ≤ maxLen) (W0 : World) (hg0 : Grew W0 w) (h00 : W0.heap.size ≤ base) (hbase : base ≤ w.heap.size)
    (h : ∀ g cap w1, Grew W0 w1 → w1.ownsRow base e size (.slice (some ⟨g, 0, none⟩) (n + m) cap) (n + m) (xs ++ cs.toList) → (∀ k, k < w.heap.size → some k ≠ v.ownBlock → w1.heap[k]? = w.heap[k]?) → w.heap.size ≤ w1.heap.size → (v.ownBlock = some g ∨ g = w.heap.size) → K (a.put o.dst (.slice (some ⟨g, 0, none⟩) (n + m) cap)) w1) :
    if Region.wanted o (yielded ops a.tmps) = true then Oper.wp P o a w K Q else E := by
  obtain ⟨ht, i, z, hi, hz, hsz, hby, hzs, h0⟩ := hE
  refine step_append_lies w hgd s x t ho base e i z size bytes ht hi hz hsz hby hzs h0 v n xs hs hown _ m c cs.toList hx (by simpa using hl) (World.news_of_block hb) h1 hm h63 hbytes hbase _ rfl (fun g cap w1 hown1 hgrow hat hlt => ?_)
  exact h g cap w1 (hg0.grown hgrow (fun k hk => by have := (hown.lt k hk).1; omega)) hown1 hgrow.block hgrow.size hat
end Go
namespace Go.Proofs.YtnhmekdnfinmiaaGreatDoor
open Go.RowKit
set_option linter.unusedSimpArgs false
set_option linter.unusedVariables false

theorem elLink : Elem Tryz.prog 42 135 3 40 := Elem.of Tryz.underlying42 (by kernel_rfl) (by decide)
abbrev Link := ByteArray × ByteArray × Int
def linkRow (x : Link) : List Value := [.string x.1, .string x.2.1, .int .i64 x.2.2]
def linkCells (l : List Link) : List Value := l.flatMap linkRow
theorem linkCells_one (l : List Link) : ∀ u ∈ linkCells l, u.oneCell' = true := by
  intro u hu
  simp only [linkCells, List.mem_flatMap, linkRow] at hu
  obtain ⟨x, _, hu⟩ := hu
  simp at hu
  rcases hu with rfl | rfl | rfl <;> rfl
mutual
def Err.chain : Err → List Link
  | .none => []
  | .reason _ => []
  | .fault l c i e => (l, c, i) :: e.chain
  | .many es => Err.chainL es
def Err.chainL : List Err → List Link
  | [] => []
  | e :: _ => e.chain
end

set_option maxRecDepth 100000 in
set_option maxHeartbeats 4000000 in
theorem chain_in {S : Nat → Addr} {w0 : World} {e : Err} {v : Value} (he : ErrAt S w0 e v) : ∀ (w : World) (lv : Value) (xs : List Link), Grew w0 w → w.ownsRow w0.heap.size 135 3 lv xs.length (linkCells xs) → xs.length + e.size ≤ 1000000000000 →
    Calls Tryz.prog 65 #[v, lv] w fun x w' => ∃ s, x = .returned s ∧ w'.ownsRow w0.heap.size 135 3 s (xs ++ e.chain).length (linkCells (xs ++ e.chain)) ∧ Grew w0 w' := by
  induction he with
  | none =>
    intro w lv xs hg ho hs
    have HG := Lib.hid hg
    have HO := Lib.hid ho
    clear hg ho
    go_enter Tryz.func65, Tryz.ntmps65
    go_wp2_with fail
    go_ret
    exact ⟨_, rfl, by rw [Err.chain, List.append_nil]; exact HO.out, HG.out⟩
  | reason c h0 h1 =>
    intro w lv xs hg ho hs
    have HG := Lib.hid hg
    have HO := Lib.hid ho
    clear hg ho
    go_enter Tryz.func65, Tryz.ntmps65
    go_wp2_with fail
    go_ret
    exact ⟨_, rfl, by rw [Err.chain, List.append_nil]; exact HO.out, HG.out⟩
  | @fault l c i e v b hc ht ih =>
    intro w lv xs hg ho hs
    rw [Err.size] at hs
    have HG := Lib.hid hg
    have HO := Lib.hid ho
    have IH := Lib.hid ih
    have HC := Lib.hid hc
    have hc3 : ∀ W, Grew w0 W → W.cell? ⟨b, 3, none⟩ = some v := fun W hW => (World.own_cell (Grew.heap hW hc) 3 _ rfl).1
    have HC3 := Lib.hid hc3
    have hx : xs ++ (Err.fault l c i e).chain = xs ++ [(l, c, i)] ++ e.chain := by rw [Err.chain]; simp
    rw [hx]
    clear hg ho ih hc hc3 ht hx
    go_enter Tryz.func65, Tryz.ntmps65
    go_wp2_with fail
    go_region_held3 (fun w' => w'.cell? ⟨b, 3, none⟩ = some v) (first | exact HC3.out _ HG2.out | exact HC3.out _ hg3 | exact HC3.out _ (by repeat (first | with_reducible exact HG.out | with_reducible exact Grew.refl _ | with_reducible assumption | with_reducible apply Grew.plus | with_reducible apply Grew.drewN | with_reducible apply Grew.drew | with_reducible apply Grew.alloc | with_reducible refine Grew.setCell ?_ (by simp [go_sem]; try omega) _))) (first
      | (go_at_call 98; refine (link_any w0 _ (by repeat (first | with_reducible exact HG.out | with_reducible exact Grew.refl _ | with_reducible assumption | with_reducible apply Grew.plus | with_reducible apply Grew.drewN | with_reducible apply Grew.drew | with_reducible apply Grew.alloc | with_reducible refine Grew.setCell ?_ (by simp [go_sem]; try omega) _)) HC.out).mono ?_; rintro x w1 ⟨rfl, gx, rfl⟩)
      | (refine step_app rfl _ _ 42 (by rfl) elLink w0.heap.size lv xs.length (linkCells xs) (by rfl) (HO.out.grew (by repeat (first | with_reducible exact HG.out | with_reducible exact Grew.refl _ | with_reducible assumption | with_reducible apply Grew.plus | with_reducible apply Grew.drewN | with_reducible apply Grew.drew | with_reducible apply Grew.alloc | with_reducible refine Grew.setCell ?_ (by simp [go_sem]; try omega) _))) _ 1 1 #[.string l, .string c, .int .i64 i] 135 (by rfl) (heap_alloc_at _ _ _ (by simp [go_sem])) (by rfl) (by intro u hu; simp at hu; rcases hu with rfl | rfl | rfl <;> rfl) (by omega) (by omega) (by unfold maxLen; omega) w0 (by repeat (first | with_reducible exact HG.out | with_reducible exact Grew.refl _ | with_reducible assumption | with_reducible apply Grew.plus | with_reducible apply Grew.drewN | with_reducible apply Grew.drew | with_reducible apply Grew.alloc | with_reducible refine Grew.setCell ?_ (by simp [go_sem]; try omega) _)) (Nat.le_refl _) (by have := HG.out.size; simp [go_sem]; omega) ?_; intro g c2 w2 hg2 hown2 hkeep2 hsz2 hat2; have HO2 := Lib.hid hown2; have HG2 := Lib.hid hg2; clear hown2 hg2 hkeep2 hat2)
      | (go_at_call 65; refine (IH.out _ _ (xs ++ [(l, c, i)]) HG2.out (by simpa [linkCells, linkRow] using HO2.out) (by simp; omega)).mono ?_; rintro x w3 ⟨s3, rfl, hown3, hg3⟩))
    go_wp2_with fail
    go_ret
    exact ⟨s3, rfl, hown3, hg3⟩
  | @many b cap a es vs hc hin hn hl hb h1 hk ih =>
    intro w lv xs hg ho hs
    rw [Err.size] at hs
    have hx : (Err.many es).chain = Err.chainL es := by rw [Err.chain]
    rw [hx]
    have HG := Lib.hid hg
    have HO := Lib.hid ho
    have IH := Lib.hid ih
    have HC := Lib.hid hc
    have HIN := Lib.hid hin
    have HN := Lib.hid hn
    have H1 := Lib.hid h1
    clear hg ho ih hc hin hn h1 hk hx
    cases es with
    | nil =>
      have HUW := Lib.hid (unwrapM_any w (Grew.heap HG.out HC.out) (HIN.out.grew HG.out) HN.out hl hb H1.out)
      go_enter Tryz.func65, Tryz.ntmps65
      go_wp2_with (go_at_call 96; refine HUW.out.mono ?_; rintro e w2 ⟨ar, cp, rfl, hin2, hg2, hfr2⟩; have HG2 := Lib.hid hg2; clear hin2 hg2 hfr2)
      go_ret
      exact ⟨_, rfl, by rw [Err.chainL, List.append_nil]; exact HO.out.grew HG2.out, HG.out.trans HG2.out⟩
    | cons e0 es =>
      rw [Err.sizeL] at hs
      have hv0 : 0 < vs.length := by rw [hl]; simp
      have HUW := Lib.hid (unwrapM_any w (Grew.heap HG.out HC.out) (HIN.out.grew HG.out) HN.out hl hb H1.out)
      have IH0 := Lib.hid (IH.out 0 e0 vs[0] rfl (List.getElem?_eq_getElem hv0))
      have hlen : (es.length : Int) + 1 > 0 := by omega
      rw [show Err.chainL (e0 :: es) = e0.chain by rw [Err.chainL]]
      simp only [List.length_cons] at HUW
      generalize hv00 : vs[0] = v0 at *
      go_enter Tryz.func65, Tryz.ntmps65
      go_wp2_with (first | (go_at_call 96; refine HUW.out.mono ?_; rintro e w2 ⟨ar, cp, rfl, hin2, hg2, hfr2⟩; obtain ⟨bq, off, rfl, hbq, hcell⟩ := hin2.at' hv0; have hc0 := hcell 0 hv0; rw [hv00, Nat.add_zero] at hc0; have HG2 := Lib.hid hg2; clear hin2 hg2 hfr2 hcell) | (go_at_call 65; refine (IH0.out _ _ xs (HG.out.trans HG2.out) (HO.out.grew HG2.out) (by omega)).mono ?_; rintro x w3 ⟨s3, rfl, hown3, hg3⟩))
      go_ret
      exact ⟨s3, rfl, hown3, hg3⟩

theorem chain_any {S : Nat → Addr} {w : World} {e : Err} {v : Value} (he : ErrAt S w e v) (hs : e.size ≤ 1000000000000) :
    Calls Tryz.prog 29 #[v] w fun x w' => ∃ s, x = .returned s ∧ w'.ownsRow w.heap.size 135 3 s e.chain.length (linkCells e.chain) ∧ Grew w w' := by
  have T := Lib.hid (chain_in he w (.slice none 0 0) [] (Grew.refl w) ⟨rfl, .inl ⟨rfl, rfl⟩⟩ (by simpa using hs))
  go_enter Tryz.func29, Tryz.ntmps29
  go_wp2_with (go_at_call 65; refine T.out.mono ?_; rintro x w3 ⟨s3, rfl, hown3, hg3⟩; rw [List.nil_append] at hown3)
  go_ret
  exact ⟨s3, rfl, hown3, hg3⟩
end Go.Proofs.YtnhmekdnfinmiaaGreatDoor
/- Walks: an error held against a refusal of the document's; the document's own refusals. -/
namespace Go
open Go.RowKit
theorem step_apps {P : Program} {ops : Array Oper} {o : Oper} {a : Act} {w : World} {K : Act → World → Prop} {Q : Exit → Act → World → Prop} {E : Prop} (hgd : o.guard = none) (s x : Operand) (t : TypeId)
    (ho : o.op = .call { callee := .builtin .append, args := #[s, x], argTypes := #[t, t] })
    {e : TypeId} {size bytes : Nat} (hE : Elem P t e size bytes) (base : Nat) (v : Value) (n : Nat) (xs : List Value) (hs : a.eval s = v) (hown : w.ownsRow base e size v n xs)
    (ad : Option Addr) (m c : Nat) (news : List Value) (hx : a.eval x = .slice ad m c) (hin : CellsIn w ad news) (hl : news.length = m * size) (h1 : ∀ u ∈ news, u.oneCell' = true) (had : ad = none → m = 0 ∧ c = 0)
    (hbytes : (n + m) * bytes ≤ 140737488355328) (h63 : n + m ≤ maxLen) (W0 : World) (hg0 : Grew W0 w) (h00 : W0.heap.size ≤ base) (hbase : base ≤ w.heap.size)
    (h : ∀ ar cap w1, Grew W0 w1 → w1.ownsRow base e size (.slice ar (n + m) cap) (n + m) (xs ++ news) → (∀ k, k < w.heap.size → some k ≠ v.ownBlock → w1.heap[k]? = w.heap[k]?) → w.heap.size ≤ w1.heap.size → K (a.put o.dst (.slice ar (n + m) cap)) w1) :
    if Region.wanted o (yielded ops a.tmps) = true then Oper.wp P o a w K Q else E := by
  have hw : Region.wanted o (yielded ops a.tmps) = true := by simp [Region.wanted, hgd]
  rw [if_pos hw]
  obtain ⟨ht, i, z, hi, hz, hsz, hby, hzs, h0⟩ := hE
  cases ad with
  | none =>
    obtain ⟨rfl, rfl⟩ := had rfl
    have hnil : news = [] := List.eq_nil_of_length_eq_zero (by simpa using hl)
    subst hnil
    have hr := run_append_owned_none (P := P) w base t o.type e i size ht hi v n xs hown
    obtain ⟨ar, cap, rfl, _⟩ := hown.rd
    unfold Oper.wp execOp
    simp only [ho, resolve, invoke, builtin, Sem.run_bind, Sem.run_pure, Result.andThen_ok, List.map_toArray, List.map_cons, List.map_nil, hs, hx, hr]
    exact h ar cap w hg0 (by simpa using hown) (fun _ _ _ => rfl) (Nat.le_refl _)
  | some ad =>
    obtain ⟨v', w1, hr, hown1, hgrow, _⟩ := run_append_own (P := P) w base t o.type e i z size bytes ht hi hz hsz hby hzs h0 v n xs hown ad m c news hl (fun j u hu => by
      have hj : j < news.length := (List.getElem?_eq_some_iff.1 hu).1
      obtain ⟨b, off, ha, _, hc⟩ := hin.at' (by omega)
      cases ha
      have := hc j hj
      rw [← hu, List.getElem?_eq_getElem hj, ← this]
      congr 1
      unfold Addr.add; split <;> simp_all) h1 h63 hbytes hbase
    obtain ⟨ar, cap, rfl, _⟩ := hown1.rd
    unfold Oper.wp execOp
    simp only [ho, resolve, invoke, builtin, Sem.run_bind, Sem.run_pure, Result.andThen_ok, List.map_toArray, List.map_cons, List.map_nil, hs, hx, hr]
    exact h ar cap w1 (hg0.grown hgrow (fun k hk => by have := (hown.lt k hk).1; omega)) hown1 hgrow.block hgrow.size
end Go
namespace Go.Proofs.YtnhmekdnfinmiaaGreatDoor
open Go.RowKit
set_option linter.unusedSimpArgs false
set_option linter.unusedVariables false

theorem len_link (x : Link) : (linkRow x).length = 3 := rfl

set_option maxRecDepth 100000 in
set_option maxHeartbeats 1000000 in
theorem links_eq (a b : Option Addr) (ca cb : Nat) (xs : List Link) (w : World) (ha : CellsIn w a (linkCells xs)) (hb : CellsIn w b (linkCells xs)) (hca : xs.length ≤ ca) (hcb : xs.length ≤ cb) (hma : ca ≤ 9223372036854775807) (hmb : cb ≤ 9223372036854775807) :
    Calls Tryz.prog 28 #[.slice a xs.length ca, .slice b xs.length cb] w fun e w' => e = .returned (.bool true) ∧ Grew w w' := by
  have Ha := Lib.hid ha
  have Hb := Lib.hid hb
  clear ha hb
  go_enter Tryz.func28, Tryz.ntmps28
  go_wp2_with fail
  go_loopw [5] (fun i wr => ∃ k : Nat, k ≤ xs.length ∧ i = .int .i64 k ∧ Grew w wr) (fun i _ => xs.length - (intOf i).toNat)
  case atStart => exact ⟨0, by omega, rfl, Grew.refl _⟩
  case round =>
    obtain ⟨k, hk, rfl, hg⟩ := hrel
    have HG := Lib.hid hg
    by_cases hlt : k < xs.length
    · obtain ⟨b1, o1, rfl, hb1, hr1⟩ := (Ha.out.grew hg).rowAt _ 3 len_link (by omega) (by omega)
      obtain ⟨b2, o2, rfl, hb2, hr2⟩ := (Hb.out.grew hg).rowAt _ 3 len_link (by omega) (by omega)
      have h1 := hr1 k hlt
      have h2 := hr2 k hlt
      clear hr1 hr2 hg
      generalize xs[k] = s at *
      obtain ⟨sl, sc, si⟩ := s
      simp only [linkRow] at h1 h2
      go_wp2_with fail
      refine wp_region_plus (by kernel_rfl) (by kernel_rfl) ?_
      repeat (go_big_quiet_step ((first | fail)))
      refine wpQuiet_nil ?_
      intro _ hw'
      obtain ⟨nx, rfl⟩ := hw'
      go_wp2_with fail
      go_roundw
      case measure => simp [intOf]; omega
      case rel => exact ⟨k + 1, by omega, by go_num, by repeat (first | with_reducible exact HG.out | with_reducible exact Grew.refl _ | with_reducible assumption | with_reducible apply Grew.plus | with_reducible apply Grew.drewN | with_reducible apply Grew.drew | with_reducible apply Grew.alloc | with_reducible refine Grew.setCell ?_ (by simp [go_sem]; try omega) _)⟩
    · obtain rfl : k = xs.length := by omega
      go_wp2_with fail
      go_ret
      exact ⟨rfl, by repeat (first | with_reducible exact HG.out | with_reducible exact Grew.refl _ | with_reducible assumption | with_reducible apply Grew.plus | with_reducible apply Grew.drewN | with_reducible apply Grew.drew | with_reducible apply Grew.alloc | with_reducible refine Grew.setCell ?_ (by simp [go_sem]; try omega) _)⟩

set_option maxRecDepth 100000 in
set_option maxHeartbeats 1000000 in
theorem ints_eq (a b : Option Addr) (ca cb : Nat) (xs : List Int) (w : World) (ha : CellsIn w a (xs.map (Value.int .i64))) (hb : CellsIn w b (xs.map (Value.int .i64))) (hca : xs.length ≤ ca) (hcb : xs.length ≤ cb) (hma : ca ≤ 9223372036854775807) (hmb : cb ≤ 9223372036854775807) :
    Calls Tryz.prog 30 #[.slice a xs.length ca, .slice b xs.length cb] w fun e w' => e = .returned (.bool true) ∧ Grew w w' := by
  have Ha := Lib.hid ha
  have Hb := Lib.hid hb
  clear ha hb
  go_enter Tryz.func30, Tryz.ntmps30
  go_wp2_with fail
  go_loopw [5] (fun i wr => ∃ k : Nat, k ≤ xs.length ∧ i = .int .i64 k ∧ Grew w wr) (fun i _ => xs.length - (intOf i).toNat)
  case atStart => exact ⟨0, by omega, rfl, Grew.refl _⟩
  case round =>
    obtain ⟨k, hk, rfl, hg⟩ := hrel
    have HG := Lib.hid hg
    by_cases hlt : k < xs.length
    · obtain ⟨b1, o1, rfl, hb1, hr1⟩ := (Ha.out.grew hg).at' (by rw [List.length_map]; omega)
      obtain ⟨b2, o2, rfl, hb2, hr2⟩ := (Hb.out.grew hg).at' (by rw [List.length_map]; omega)
      have h1 := hr1 k (by rw [List.length_map]; omega)
      have h2 := hr2 k (by rw [List.length_map]; omega)
      rw [List.getElem_map] at h1 h2
      clear hr1 hr2 hg
      generalize xs[k] = s at *
      go_wp2_with fail
      refine wp_region_plus (by kernel_rfl) (by kernel_rfl) ?_
      repeat (go_big_quiet_step ((first | fail)))
      refine wpQuiet_nil ?_
      intro _ hw'
      obtain ⟨nx, rfl⟩ := hw'
      go_wp2_with fail
      go_roundw
      case measure => simp [intOf]; omega
      case rel => exact ⟨k + 1, by omega, by go_num, by repeat (first | with_reducible exact HG.out | with_reducible exact Grew.refl _ | with_reducible assumption | with_reducible apply Grew.plus | with_reducible apply Grew.drewN | with_reducible apply Grew.drew | with_reducible apply Grew.alloc | with_reducible refine Grew.setCell ?_ (by simp [go_sem]; try omega) _)⟩
    · obtain rfl : k = xs.length := by omega
      go_wp2_with fail
      go_ret
      exact ⟨rfl, by repeat (first | with_reducible exact HG.out | with_reducible exact Grew.refl _ | with_reducible assumption | with_reducible apply Grew.plus | with_reducible apply Grew.drewN | with_reducible apply Grew.drew | with_reducible apply Grew.alloc | with_reducible refine Grew.setCell ?_ (by simp [go_sem]; try omega) _)⟩

abbrev noV (code : Int) (a : Option Addr) (n ca : Nat) (b : Option Addr) (m cb : Nat) : Value := .agg #[.int .i64 code, .slice a n ca, .slice b m cb]

theorem nats_ints (l : List Nat) : nats l = (l.map (fun n : Nat => (n : Int))).map (Value.int .i64) := by simp [nats]

theorem ints_any (a b : Option Addr) (ca cb : Nat) (xs : List Nat) (w : World) (ha : CellsIn w a (nats xs)) (hb : CellsIn w b (nats xs)) (hca : xs.length ≤ ca) (hcb : xs.length ≤ cb) (hma : ca ≤ 9223372036854775807) (hmb : cb ≤ 9223372036854775807) :
    Calls Tryz.prog 30 #[.slice a xs.length ca, .slice b xs.length cb] w fun e w' => e = .returned (.bool true) ∧ Grew w w' := by
  rw [nats_ints] at ha hb
  have h := ints_eq a b ca cb (xs.map fun n : Nat => (n : Int)) w ha hb (by simpa using hca) (by simpa using hcb) hma hmb
  rwa [List.length_map] at h

theorem refused_none (a b : Option Addr) (n ca m cb : Nat) (w : World) :
    Calls Tryz.prog 9 #[.nilIface, noV 0 a n ca b m cb] w fun e w' => e = .returned (.bool true) ∧ Grew w w' := by
  go_enter Tryz.func9, Tryz.ntmps9
  go_wp2_with fail
  go_ret
  exact ⟨rfl, by repeat (first | with_reducible exact HG.out | with_reducible exact Grew.refl _ | with_reducible assumption | with_reducible apply Grew.plus | with_reducible apply Grew.drewN | with_reducible apply Grew.drew | with_reducible apply Grew.alloc | with_reducible refine Grew.setCell ?_ (by simp [go_sem]; try omega) _)⟩

set_option maxRecDepth 100000 in
set_option maxHeartbeats 4000000 in
theorem refused_some {S : Nat → Addr} {w : World} (hS : Sents S w) {e : Err} {v : Value} (he : ErrAt S w e v) (hs : e.size ≤ 1000000000000) (h0 : e ≠ .none) (hz : e.code ≠ 0) (a b : Option Addr) (ca cb : Nat) (ha : CellsIn w a (linkCells e.chain)) (hb : CellsIn w b (nats e.codes))
    (hca : e.chain.length ≤ ca) (hcb : e.codes.length ≤ cb) (hma : ca ≤ 9223372036854775807) (hmb : cb ≤ 9223372036854775807) :
    Calls Tryz.prog 9 #[v, noV e.code a e.chain.length ca b e.codes.length cb] w fun x w' => x = .returned (.bool true) ∧ Grew w w' := by
  have hv : ∃ t u, v = .iface t u := by cases he <;> first | exact absurd rfl h0 | exact ⟨_, _, rfl⟩
  obtain ⟨t, u, rfl⟩ := hv
  have hzi : ((e.code : Int) = 0) = False := by simp [hz]
  have CC := Lib.hid (fun W (hg : Grew w W) => code_any (hS.grew hg) (he.grew hg) hs)
  have CS := Lib.hid (fun W (hg : Grew w W) => codes_any (hS.grew hg) (he.grew hg) hs)
  have CH := Lib.hid (fun W (hg : Grew w W) => chain_any (he.grew hg) hs)
  have HA := Lib.hid ha
  have HB := Lib.hid hb
  generalize e.code = code at *
  generalize e.chain = ch at *
  generalize e.codes = co at *
  generalize hbox : w.alloc (.cells #[.int .i64 code, .slice a ch.length ca, .slice b co.length cb] 45) = wb
  have hgb : Grew w wb := by rw [← hbox]; exact (Grew.refl w).alloc _
  have hb0 : wb.heap[w.heap.size]? = some (.cells #[.int .i64 code, .slice a ch.length ca, .slice b co.length cb] 45 (0, 0)) := by rw [← hbox]; exact heap_alloc_new w _
  have hcc := fun i u hu W (hW : Grew wb W) => (World.own_cell (Grew.heap hW hb0) i u hu).1
  have HCC := Lib.hid hcc
  have c0 : ∀ gx, (wb.plus gx).cell? ⟨w.heap.size, 0, none⟩ = some (.int .i64 code) := fun gx => HCC.out 0 _ rfl _ ((Grew.refl wb).plus gx)
  have c0' : wb.cell? ⟨w.heap.size, 0, none⟩ = some (.int .i64 code) := HCC.out 0 _ rfl _ (Grew.refl wb)
  have HGB := Lib.hid hgb
  clear hS he ha hb hb0 hcc hgb h0
  go_enter Tryz.func9, Tryz.ntmps9
  go_wp2_with fail
  refine wp_region_plus (by kernel_rfl) (by kernel_rfl) ?_
  repeat (go_big_quiet_step ((first | (go_at_call 27; exact Calls.grew_of (CC.out _ (HGB.out.plus _))))))
  refine wpQuiet_nil ?_
  intro _ hw'
  obtain ⟨nx, rfl⟩ := hw'
  go_wp2_with fail
  have HP : Hid (Grew wb (wb.plus nx)) := ⟨nx, rfl⟩
  generalize wb.plus nx = w5 at *
  have HS5 : ∀ W, Grew w5 W → W.cell? ⟨w.heap.size, 1, none⟩ = some (.slice a ch.length ca) ∧ W.cell? ⟨w.heap.size, 2, none⟩ = some (.slice b co.length cb) := fun W hW => ⟨HCC.out 1 _ rfl _ (HP.out.trans hW), HCC.out 2 _ rfl _ (HP.out.trans hW)⟩
  have HS := Lib.hid HS5
  have HG5 := Lib.hid (HGB.out.trans HP.out)
  have HCI := Lib.hid (nats_ints co)
  clear HS5 c0 c0' hbox
  go_region_held3 (fun w' => w'.cell? ⟨w.heap.size, 1, none⟩ = some (.slice a ch.length ca) ∧ w'.cell? ⟨w.heap.size, 2, none⟩ = some (.slice b co.length cb)) (first | exact HS.out _ HG4.out | exact HS.out _ HG3.out | exact HS.out _ HG2.out | exact HS.out _ HG1.out | exact HS.out _ (by repeat (first | with_reducible exact HG.out | with_reducible exact Grew.refl _ | with_reducible assumption | with_reducible apply Grew.plus | with_reducible apply Grew.drewN | with_reducible apply Grew.drew | with_reducible apply Grew.alloc | with_reducible refine Grew.setCell ?_ (by simp [go_sem]; try omega) _))) (first
    | (go_at_call 29; refine (CH.out _ (HG5.out.trans (by repeat (first | with_reducible exact HG.out | with_reducible exact Grew.refl _ | with_reducible assumption | with_reducible apply Grew.plus | with_reducible apply Grew.drewN | with_reducible apply Grew.drew | with_reducible apply Grew.alloc | with_reducible refine Grew.setCell ?_ (by simp [go_sem]; try omega) _)))).mono ?_; rintro x w1 ⟨s1, rfl, ho1, hg1⟩; obtain ⟨a1, c1, rfl, hn1, hm1, hin1, _, _⟩ := ho1.rd; have HI1 := Lib.hid hin1; have HG1 := Lib.hid (Grew.trans (by repeat (first | with_reducible exact HG.out | with_reducible exact Grew.refl _ | with_reducible assumption | with_reducible apply Grew.plus | with_reducible apply Grew.drewN | with_reducible apply Grew.drew | with_reducible apply Grew.alloc | with_reducible refine Grew.setCell ?_ (by simp [go_sem]; try omega) _)) hg1); clear ho1 hin1 hg1)
    | (go_at_call 28; refine (links_eq a1 a c1 ca ch _ HI1.out (HA.out.grew (HG5.out.trans HG1.out)) hn1 hca hm1 hma).mono ?_; rintro x w2 ⟨rfl, hg2⟩; have HG2 := Lib.hid (HG1.out.trans hg2); clear hg2)
    | (go_at_call 31; refine (CS.out _ (HG5.out.trans HG2.out)).mono ?_; rintro x w3 ⟨s3, rfl, ho3, hg3⟩; obtain ⟨a3, c3, rfl, hn3, hm3, hin3, _, _⟩ := ho3.rd; have HI3 := Lib.hid hin3; have HG3 := Lib.hid (HG2.out.trans hg3); clear ho3 hin3 hg3)
    | (go_at_call 30; refine (ints_any a3 b c3 cb co _ HI3.out (HB.out.grew (HG5.out.trans HG3.out)) hn3 hcb hm3 hmb).mono ?_; rintro x w4 ⟨rfl, hg4⟩; have HG4 := Lib.hid (HG3.out.trans hg4); clear hg4))
  go_wp2_with fail
  go_ret
  exact ⟨rfl, HG5.out.trans HG4.out⟩
theorem wrap_world (w : World) {w3 : World} (c1 c2 : Array Value) (c3 : Array Value) (h : ((w.alloc (.cells c1 45)).alloc (.cells c2 45)).alloc (.cells c3 135) = w3) (h3 : c3.size = 3 := by rfl) :
    Grew w w3 ∧ w3.heap[w.heap.size]? = some (.cells c1 45 (0, 0)) ∧ w3.heap[w.heap.size + 1]? = some (.cells c2 45 (0, 0)) ∧ w3.ownsRow w.heap.size 135 3 (.slice (some ⟨w.heap.size + 1 + 1, 0, none⟩) 1 1) 1 c3.toList ∧ w3.heap.size = w.heap.size + 3 := by
  subst h
  have h1 : ∀ (W : World) (o : Obj), (W.alloc o).heap.size = W.heap.size + 1 := fun W o => by simp [go_sem]
  refine ⟨(((Grew.refl w).alloc _).alloc _).alloc _, ?_, ?_, ?_, by rw [h1, h1, h1]⟩
  · rw [heap_alloc_past _ _ _ (by rw [h1, h1]; omega), heap_alloc_past _ _ _ (by rw [h1]; omega), heap_alloc_new]
  · rw [heap_alloc_past _ _ _ (by rw [h1, h1]; omega), heap_alloc_at _ _ _ (by rw [h1])]
  · have := World.ownsRow_lit (base := w.heap.size) (size := 3) (e := 135) ((w.alloc (.cells c1 45)).alloc (.cells c2 45)) c3 1 (by rw [h1, h1]; omega) (by decide) h3
    rwa [h1, h1] at this

set_option maxRecDepth 100000 in
set_option maxHeartbeats 4000000 in
theorem wrap_some (l c : ByteArray) (i : Int) (code : Int) (h0 : code ≠ 0) (xs : List Link) (a b : Option Addr) (ca n cb : Nat) (w : World) (ha : CellsIn w a (linkCells xs)) (hn : a = none → xs.length = 0 ∧ ca = 0) (hl : xs.length ≤ 1000000000000) :
    Calls Tryz.prog 49 #[.string l, .string c, .int .i64 i, noV code a xs.length ca b n cb] w fun e w' => ∃ ar cp, e = .returned (noV code ar (1 + xs.length) cp b n cb) ∧ w'.ownsRow w.heap.size 135 3 (.slice ar (1 + xs.length) cp) (1 + xs.length) (linkCells ((l, c, max i (-1)) :: xs)) ∧ Grew w w' := by
  have hzi : (code = 0) = False := by simp [h0]
  have HA := Lib.hid ha
  have HN := Lib.hid hn
  clear ha hn
  by_cases hi : i < 0
  · rw [show max i (-1) = -1 by omega]
    go_enter Tryz.func49, Tryz.ntmps49
    go_wp2_with fail
    generalize hw3 : (((w.alloc (.cells #[.int .i64 code, .slice a xs.length ca, .slice b n cb] 45)).alloc (.cells #[.int .i64 0, .slice none 0 0, .slice none 0 0] 45)).alloc (.cells #[.string l, .string c, .int .i64 (-1)] 135)) = w3
    obtain ⟨hg3, hb1, hb2, ho3, hs3⟩ := wrap_world w _ _ _ hw3
    have HG3 := Lib.hid hg3
    have HO3 := Lib.hid ho3
    have HX := Lib.hid (fun i u hu => (World.own_cell hb1 i u hu).1)
    have HB1 := Lib.hid hb1
    have HB2 := Lib.hid hb2
    clear hg3 hb1 hb2 ho3 hw3
    go_region_held3 (fun w' => w'.cell? ⟨w.heap.size, 0, none⟩ = some (.int .i64 code) ∧ w'.cell? ⟨w.heap.size, 1, none⟩ = some (.slice a xs.length ca) ∧ w'.cell? ⟨w.heap.size, 2, none⟩ = some (.slice b n cb)) (first | exact ⟨HX4.out 0 _ rfl, HX4.out 1 _ rfl, HX4.out 2 _ rfl⟩ | exact ⟨HX.out 0 _ rfl, HX.out 1 _ rfl, HX.out 2 _ rfl⟩ | (simp [go_sem, x0, x1, x2]; done)) (first
      | (refine step_apps rfl _ _ 42 (by rfl) elLink w.heap.size _ 1 [.string l, .string c, .int .i64 (-1)] (by rfl) (HO3.out.grew (by repeat (first | with_reducible exact HG.out | with_reducible exact Grew.refl _ | with_reducible assumption | with_reducible apply Grew.plus | with_reducible apply Grew.drewN | with_reducible apply Grew.drew | with_reducible apply Grew.alloc | with_reducible refine Grew.setCell ?_ (by simp [go_sem]; try omega) _))) a xs.length ca (linkCells xs) (by rfl) (HA.out.grew (HG3.out.trans (by repeat (first | with_reducible exact HG.out | with_reducible exact Grew.refl _ | with_reducible assumption | with_reducible apply Grew.plus | with_reducible apply Grew.drewN | with_reducible apply Grew.drew | with_reducible apply Grew.alloc | with_reducible refine Grew.setCell ?_ (by simp [go_sem]; try omega) _)))) (flat_length _ 3 len_link _) (linkCells_one _) HN.out (by omega) (by unfold maxLen; omega) w (HG3.out.trans (by repeat (first | with_reducible exact HG.out | with_reducible exact Grew.refl _ | with_reducible assumption | with_reducible apply Grew.plus | with_reducible apply Grew.drewN | with_reducible apply Grew.drew | with_reducible apply Grew.alloc | with_reducible refine Grew.setCell ?_ (by simp [go_sem]; try omega) _))) (Nat.le_refl _) (by have := hs3; simp [go_sem]; omega) ?_; intro ar cp w4 hg4 hown4 hkeep4 hsz4; have hb14 := World.kept_block hkeep4 (Grew.heap (by repeat (first | with_reducible exact HG.out | with_reducible exact Grew.refl _ | with_reducible assumption | with_reducible apply Grew.plus | with_reducible apply Grew.drewN | with_reducible apply Grew.drew | with_reducible apply Grew.alloc | with_reducible refine Grew.setCell ?_ (by simp [go_sem]; try omega) _)) HB1.out) (by simp [Value.ownBlock]; omega); have hb24 := World.kept_block hkeep4 (Grew.heap (by repeat (first | with_reducible exact HG.out | with_reducible exact Grew.refl _ | with_reducible assumption | with_reducible apply Grew.plus | with_reducible apply Grew.drewN | with_reducible apply Grew.drew | with_reducible apply Grew.alloc | with_reducible refine Grew.setCell ?_ (by simp [go_sem]; try omega) _)) HB2.out) (by simp [Value.ownBlock] <;> omega); have HX4 := Lib.hid (fun i u hu => (World.own_cell hb14 i u hu).1); have HB24 := Lib.hid hb24; have r0 := World.own_cell hb24 0 _ rfl; have r1 := World.own_cell hb24 1 _ rfl; have r2 := World.own_cell hb24 2 _ rfl; obtain ⟨r00, r01⟩ := r0; obtain ⟨r10, r11⟩ := r1; obtain ⟨r20, r21⟩ := r2; have x0 := HX4.out 0 _ rfl; have x1 := HX4.out 1 _ rfl; have x2 := HX4.out 2 _ rfl; have HG4 := Lib.hid hg4; have HO4 := Lib.hid hown4; clear hkeep4 hb14 hb24 hg4 hown4))
    go_wp2_with fail
    have hne : (Value.slice ar (1 + xs.length) cp).ownBlock ≠ some (w.heap.size + 1) := by
      rcases HO4.out.2 with ⟨h, _⟩ | ⟨g, cap, cur, h, hb, hg, _⟩
      · rw [h]; simp [Value.ownBlock]
      · rw [h]; simp only [Value.ownBlock, ne_eq, Option.some.injEq]; rintro rfl; rw [HB24.out] at hg; simp at hg
    have k1 := World.own_setCell (i := 0) HB24.out (.int .i64 code)
    have k2 := World.own_setCell (i := 1) k1 (.slice ar (1 + xs.length) cp)
    have k3 := World.own_setCell (i := 2) k2 (.slice b n cb)
    have f0 := (World.own_cell k3 0 (.int .i64 code) rfl).1
    have f1 := (World.own_cell k3 1 (.slice ar (1 + xs.length) cp) rfl).1
    have f2 := (World.own_cell k3 2 (.slice b n cb) rfl).1
    have o5 := ((HO4.out.setOther (i := 0) hne (.int .i64 code)).setOther (i := 1) hne (.slice ar (1 + xs.length) cp)).setOther (i := 2) hne (.slice b n cb)
    have g5 : Grew w _ := ((HG4.out.setCell (p := ⟨w.heap.size + 1, 0, none⟩) (by simp) (.int .i64 code)).setCell (p := ⟨w.heap.size + 1, 1, none⟩) (by simp) (.slice ar (1 + xs.length) cp)).setCell (p := ⟨w.heap.size + 1, 2, none⟩) (by simp) (.slice b n cb)
    clear k1 k2 k3
    generalize ((w4.setCell ⟨w.heap.size + 1, 0, none⟩ (.int .i64 code)).setCell ⟨w.heap.size + 1, 1, none⟩ (.slice ar (1 + xs.length) cp)).setCell ⟨w.heap.size + 1, 2, none⟩ (.slice b n cb) = w5 at *
    exact bodyPost_ret (v := noV code ar (1 + xs.length) cp b n cb) (by simp [results, Tryz.results49, go_sem, f0, f1, f2]) rfl ⟨ar, cp, rfl, o5, g5⟩
  · rw [show max i (-1) = i by omega]
    go_enter Tryz.func49, Tryz.ntmps49
    go_wp2_with fail
    generalize hw3 : (((w.alloc (.cells #[.int .i64 code, .slice a xs.length ca, .slice b n cb] 45)).alloc (.cells #[.int .i64 0, .slice none 0 0, .slice none 0 0] 45)).alloc (.cells #[.string l, .string c, .int .i64 i] 135)) = w3
    obtain ⟨hg3, hb1, hb2, ho3, hs3⟩ := wrap_world w _ _ _ hw3
    have HG3 := Lib.hid hg3
    have HO3 := Lib.hid ho3
    have HX := Lib.hid (fun i u hu => (World.own_cell hb1 i u hu).1)
    have HB1 := Lib.hid hb1
    have HB2 := Lib.hid hb2
    clear hg3 hb1 hb2 ho3 hw3
    go_region_held3 (fun w' => w'.cell? ⟨w.heap.size, 0, none⟩ = some (.int .i64 code) ∧ w'.cell? ⟨w.heap.size, 1, none⟩ = some (.slice a xs.length ca) ∧ w'.cell? ⟨w.heap.size, 2, none⟩ = some (.slice b n cb)) (first | exact ⟨HX4.out 0 _ rfl, HX4.out 1 _ rfl, HX4.out 2 _ rfl⟩ | exact ⟨HX.out 0 _ rfl, HX.out 1 _ rfl, HX.out 2 _ rfl⟩ | (simp [go_sem, x0, x1, x2]; done)) (first
      | (refine step_apps rfl _ _ 42 (by rfl) elLink w.heap.size _ 1 [.string l, .string c, .int .i64 i] (by rfl) (HO3.out.grew (by repeat (first | with_reducible exact HG.out | with_reducible exact Grew.refl _ | with_reducible assumption | with_reducible apply Grew.plus | with_reducible apply Grew.drewN | with_reducible apply Grew.drew | with_reducible apply Grew.alloc | with_reducible refine Grew.setCell ?_ (by simp [go_sem]; try omega) _))) a xs.length ca (linkCells xs) (by rfl) (HA.out.grew (HG3.out.trans (by repeat (first | with_reducible exact HG.out | with_reducible exact Grew.refl _ | with_reducible assumption | with_reducible apply Grew.plus | with_reducible apply Grew.drewN | with_reducible apply Grew.drew | with_reducible apply Grew.alloc | with_reducible refine Grew.setCell ?_ (by simp [go_sem]; try omega) _)))) (flat_length _ 3 len_link _) (linkCells_one _) HN.out (by omega) (by unfold maxLen; omega) w (HG3.out.trans (by repeat (first | with_reducible exact HG.out | with_reducible exact Grew.refl _ | with_reducible assumption | with_reducible apply Grew.plus | with_reducible apply Grew.drewN | with_reducible apply Grew.drew | with_reducible apply Grew.alloc | with_reducible refine Grew.setCell ?_ (by simp [go_sem]; try omega) _))) (Nat.le_refl _) (by have := hs3; simp [go_sem]; omega) ?_; intro ar cp w4 hg4 hown4 hkeep4 hsz4; have hb14 := World.kept_block hkeep4 (Grew.heap (by repeat (first | with_reducible exact HG.out | with_reducible exact Grew.refl _ | with_reducible assumption | with_reducible apply Grew.plus | with_reducible apply Grew.drewN | with_reducible apply Grew.drew | with_reducible apply Grew.alloc | with_reducible refine Grew.setCell ?_ (by simp [go_sem]; try omega) _)) HB1.out) (by simp [Value.ownBlock]; omega); have hb24 := World.kept_block hkeep4 (Grew.heap (by repeat (first | with_reducible exact HG.out | with_reducible exact Grew.refl _ | with_reducible assumption | with_reducible apply Grew.plus | with_reducible apply Grew.drewN | with_reducible apply Grew.drew | with_reducible apply Grew.alloc | with_reducible refine Grew.setCell ?_ (by simp [go_sem]; try omega) _)) HB2.out) (by simp [Value.ownBlock] <;> omega); have HX4 := Lib.hid (fun i u hu => (World.own_cell hb14 i u hu).1); have HB24 := Lib.hid hb24; have r0 := World.own_cell hb24 0 _ rfl; have r1 := World.own_cell hb24 1 _ rfl; have r2 := World.own_cell hb24 2 _ rfl; obtain ⟨r00, r01⟩ := r0; obtain ⟨r10, r11⟩ := r1; obtain ⟨r20, r21⟩ := r2; have x0 := HX4.out 0 _ rfl; have x1 := HX4.out 1 _ rfl; have x2 := HX4.out 2 _ rfl; have HG4 := Lib.hid hg4; have HO4 := Lib.hid hown4; clear hkeep4 hb14 hb24 hg4 hown4))
    go_wp2_with fail
    have hne : (Value.slice ar (1 + xs.length) cp).ownBlock ≠ some (w.heap.size + 1) := by
      rcases HO4.out.2 with ⟨h, _⟩ | ⟨g, cap, cur, h, hb, hg, _⟩
      · rw [h]; simp [Value.ownBlock]
      · rw [h]; simp only [Value.ownBlock, ne_eq, Option.some.injEq]; rintro rfl; rw [HB24.out] at hg; simp at hg
    have k1 := World.own_setCell (i := 0) HB24.out (.int .i64 code)
    have k2 := World.own_setCell (i := 1) k1 (.slice ar (1 + xs.length) cp)
    have k3 := World.own_setCell (i := 2) k2 (.slice b n cb)
    have f0 := (World.own_cell k3 0 (.int .i64 code) rfl).1
    have f1 := (World.own_cell k3 1 (.slice ar (1 + xs.length) cp) rfl).1
    have f2 := (World.own_cell k3 2 (.slice b n cb) rfl).1
    have o5 := ((HO4.out.setOther (i := 0) hne (.int .i64 code)).setOther (i := 1) hne (.slice ar (1 + xs.length) cp)).setOther (i := 2) hne (.slice b n cb)
    have g5 : Grew w _ := ((HG4.out.setCell (p := ⟨w.heap.size + 1, 0, none⟩) (by simp) (.int .i64 code)).setCell (p := ⟨w.heap.size + 1, 1, none⟩) (by simp) (.slice ar (1 + xs.length) cp)).setCell (p := ⟨w.heap.size + 1, 2, none⟩) (by simp) (.slice b n cb)
    clear k1 k2 k3
    generalize ((w4.setCell ⟨w.heap.size + 1, 0, none⟩ (.int .i64 code)).setCell ⟨w.heap.size + 1, 1, none⟩ (.slice ar (1 + xs.length) cp)).setCell ⟨w.heap.size + 1, 2, none⟩ (.slice b n cb) = w5 at *
    exact bodyPost_ret (v := noV code ar (1 + xs.length) cp b n cb) (by simp [results, Tryz.results49, go_sem, f0, f1, f2]) rfl ⟨ar, cp, rfl, o5, g5⟩
end Go.Proofs.YtnhmekdnfinmiaaGreatDoor
/- Walks: one refusal of a layer's, the document's and the program's. -/
namespace Go.Proofs.YtnhmekdnfinmiaaGreatDoor
open Go.RowKit
set_option linter.unusedSimpArgs false
set_option linter.unusedVariables false

set_option maxRecDepth 100000 in
set_option maxHeartbeats 4000000 in
theorem say_any (l c : ByteArray) (i : Int) (k : Nat) (h0 : 1 ≤ k) (w : World) :
    Calls Tryz.prog 48 #[.string l, .string c, .int .i64 i, .int .i64 k] w fun e w' => ∃ ar cp b, e = .returned (noV k ar 1 cp b 1 1) ∧ CellsIn w' ar (linkCells [(l, c, max i (-1))]) ∧ 1 ≤ cp ∧ cp ≤ 9223372036854775807 ∧ CellsIn w' b (nats [k]) ∧ (∀ q, ar = some q → w.heap.size ≤ q.block) ∧ (∀ q, b = some q → w.heap.size ≤ q.block) ∧ Grew w w' := by
  have hW := fun (B : Addr) W => wrap_some l c i (k : Int) (by omega) [] none (some B) 0 1 1 W (CellsIn.nil _ _) (fun _ => ⟨rfl, rfl⟩) (by decide)
  simp only [List.length_nil, Nat.add_zero] at hW
  have HW := Lib.hid hW
  clear hW
  have h1 : ∀ (W : World) (o : Obj), (W.alloc o).heap.size = W.heap.size + 1 := fun W o => by simp [go_sem]
  have HR : Hid (∀ W, Grew ((w.alloc (.cells #[.int .i64 0, .slice none 0 0, .slice none 0 0] 45)).alloc (.cells #[.int .i64 k] 3)) W → W.heap[w.heap.size]? = some (.cells #[.int .i64 0, .slice none 0 0, .slice none 0 0] 45 (0, 0)) ∧ W.heap[w.heap.size + 1]? = some (.cells #[.int .i64 k] 3 (0, 0))) := fun W hW =>
    ⟨Grew.heap hW (by rw [heap_alloc_past _ _ _ (by rw [h1]; omega), heap_alloc_new]), Grew.heap hW (heap_alloc_at _ _ _ (by rw [h1]))⟩
  go_enter Tryz.func48, Tryz.ntmps48
  go_wp2_with (go_at_call 49; refine (HW.out _ _).mono ?_; rintro e w4 ⟨ar, cp, rfl, ho4, hg4⟩; obtain ⟨hbR, hbK⟩ := HR.out _ hg4; have HBR := Lib.hid hbR; have HBK := Lib.hid hbK; have q0 := World.own_cell hbR 0 _ rfl; have q1 := World.own_cell hbR 1 _ rfl; have q2 := World.own_cell hbR 2 _ rfl; obtain ⟨q00, q01⟩ := q0; obtain ⟨q10, q11⟩ := q1; obtain ⟨q20, q21⟩ := q2; have HG4 := Lib.hid hg4; have HO4 := Lib.hid ho4; clear hg4 ho4 hbR hbK)
  obtain ⟨ar', cp', e', hn1, hm1, hin, hfr, hno⟩ := HO4.out.rd
  cases e'
  have k1 := World.own_setCell (i := 0) HBR.out (.int .i64 k)
  have k2 := World.own_setCell (i := 1) k1 (.slice ar 1 cp)
  have k3 := World.own_setCell (i := 2) k2 (.slice (some ⟨w.heap.size + 1, 0, none⟩) 1 1)
  have f0 := (World.own_cell k3 0 (.int .i64 k) rfl).1
  have f1 := (World.own_cell k3 1 (.slice ar 1 cp) rfl).1
  have f2 := (World.own_cell k3 2 (.slice (some ⟨w.heap.size + 1, 0, none⟩) 1 1) rfl).1
  have g5 : Grew w _ := ((((((Grew.refl w).alloc _).alloc _).trans HG4.out).setCell (p := ⟨w.heap.size, 0, none⟩) (by simp) (.int .i64 k)).setCell (p := ⟨w.heap.size, 1, none⟩) (by simp) (.slice ar 1 cp)).setCell (p := ⟨w.heap.size, 2, none⟩) (by simp) (.slice (some ⟨w.heap.size + 1, 0, none⟩) 1 1)
  have hbl : ∀ q, q ≠ w.heap.size → (((w4.setCell ⟨w.heap.size, 0, none⟩ (.int .i64 k)).setCell ⟨w.heap.size, 1, none⟩ (.slice ar 1 cp)).setCell ⟨w.heap.size, 2, none⟩ (.slice (some ⟨w.heap.size + 1, 0, none⟩) 1 1)).heap[q]? = w4.heap[q]? := fun q hq => by
    rw [World.block_setCell _ _ _ _ hq, World.block_setCell _ _ _ _ hq, World.block_setCell _ _ _ _ hq]
  have c5 := hin.keepB (w' := ((w4.setCell ⟨w.heap.size, 0, none⟩ (.int .i64 k)).setCell ⟨w.heap.size, 1, none⟩ (.slice ar 1 cp)).setCell ⟨w.heap.size, 2, none⟩ (.slice (some ⟨w.heap.size + 1, 0, none⟩) 1 1)) (fun b hb _ => hbl _ (fun e => by have := (hfr b hb).1; rw [h1, h1] at this; omega))
  have d5 := World.own_cell (w := ((w4.setCell ⟨w.heap.size, 0, none⟩ (.int .i64 k)).setCell ⟨w.heap.size, 1, none⟩ (.slice ar 1 cp)).setCell ⟨w.heap.size, 2, none⟩ (.slice (some ⟨w.heap.size + 1, 0, none⟩) 1 1)) (q := w.heap.size + 1) (c := #[.int .i64 k]) (t := 3) (by rw [hbl (w.heap.size + 1) (by omega)]; exact HBK.out) 0 (.int .i64 k) rfl
  clear k1 k2 k3 hbl
  generalize ((w4.setCell ⟨w.heap.size, 0, none⟩ (.int .i64 k)).setCell ⟨w.heap.size, 1, none⟩ (.slice ar 1 cp)).setCell ⟨w.heap.size, 2, none⟩ (.slice (some ⟨w.heap.size + 1, 0, none⟩) 1 1) = w5 at *
  exact bodyPost_ret (v := noV k ar 1 cp (some ⟨w.heap.size + 1, 0, none⟩) 1 1) (by simp [results, Tryz.results48, go_sem, f0, f1, f2]) rfl ⟨ar, cp, _, rfl, c5, hn1, hm1, CellsIn.of_cells (fun i hi => by
    obtain rfl : i = 0 := by simp [nats] at hi; omega
    exact d5.1), fun q hq => by have := (hfr q hq).1; rw [h1, h1] at this; omega, fun q hq => by cases hq; exact Nat.le_succ _, g5⟩
end Go.Proofs.YtnhmekdnfinmiaaGreatDoor
/- Elements as plain data; walks: an element's weight, is it live; who wrote what of a list. -/
namespace Go
open Go.RowKit
structure ElD where
  ep : Int
  rp : Int
  nb : Int
  ch : Int
  hd : Int
deriving DecidableEq
def elRow (e : ElD) : List Value := [.int .i64 e.ep, .int .i64 e.rp, .int .i64 e.nb, .int .i32 e.ch, .int .i64 e.hd]
theorem elRow_len (e : ElD) : (elRow e).length = 5 := rfl
def ElD.Fits (e : ElD) : Prop := (-9223372036854775808 ≤ e.ep ∧ e.ep ≤ 9223372036854775807) ∧ (-9223372036854775808 ≤ e.rp ∧ e.rp ≤ 9223372036854775807) ∧ (-9223372036854775808 ≤ e.nb ∧ e.nb ≤ 9223372036854775807) ∧ (-2147483648 ≤ e.ch ∧ e.ch ≤ 2147483647) ∧ (-9223372036854775808 ≤ e.hd ∧ e.hd ≤ 9223372036854775807)
def ElD.live (e : ElD) : Bool := decide (e.hd ≤ 0)
theorem C8.get_set (c : C8) (i j : Nat) (v : Int) (hi : i < 8) (hj : j < 8) : (c.set i v).get j = if i = j then v else c.get j := by
  match i, hi, j, hj with
  | 0, _, j, hj | 1, _, j, hj | 2, _, j, hj | 3, _, j, hj | 4, _, j, hj | 5, _, j, hj | 6, _, j, hj | 7, _, j, hj =>
    match j, hj with
    | 0, _ | 1, _ | 2, _ | 3, _ | 4, _ | 5, _ | 6, _ | 7, _ => rfl
end Go
namespace Go.Proofs.YtnhmekdnfinmiaaGreatDoor
open Go.RowKit
set_option linter.unusedSimpArgs false
set_option linter.unusedVariables false

end Go.Proofs.YtnhmekdnfinmiaaGreatDoor
/- Walks: elements that are lent. -/
namespace Go
theorem World.ownsRow.some {w : World} {base size n : Nat} {e : TypeId} {v : Value} {xs : List Value} (h : w.ownsRow base e size v n xs) (hn : 0 < n) : ∃ g cap, v = .slice (some ⟨g, 0, none⟩) n cap := by
  rcases h.2 with ⟨_, hx⟩ | ⟨g, cap, cur, rfl, _⟩
  · exact absurd hx (by omega)
  · exact ⟨g, cap, rfl⟩
end Go
namespace Go.Proofs.YtnhmekdnfinmiaaGreatDoor
open Go.RowKit
set_option linter.unusedSimpArgs false
set_option linter.unusedVariables false

theorem elEl : Elem Tryz.prog 26 70 5 40 := Elem.of Tryz.underlying26 (by kernel_rfl) (by decide)

theorem els_eq (a b : Option Addr) (ca cb : Nat) (xs : List ElD) (w : World) (ha : CellsIn w a (xs.flatMap elRow)) (hb : CellsIn w b (xs.flatMap elRow)) (hca : xs.length ≤ ca) (hcb : xs.length ≤ cb) (hma : ca ≤ 9223372036854775807) (hmb : cb ≤ 9223372036854775807) :
    Calls Tryz.prog 32 #[.slice a xs.length ca, .slice b xs.length cb] w fun e w' => e = .returned (.bool true) ∧ Grew w w' := by
  have Ha := Lib.hid ha
  have Hb := Lib.hid hb
  clear ha hb
  go_enter Tryz.func32, Tryz.ntmps32
  go_wp2_with fail
  go_loopw [5] (fun i wr => ∃ k : Nat, k ≤ xs.length ∧ i = .int .i64 k ∧ Grew w wr) (fun i _ => xs.length - (intOf i).toNat)
  case atStart => exact ⟨0, by omega, rfl, Grew.refl _⟩
  case round =>
    obtain ⟨k, hk, rfl, hg⟩ := hrel
    have HG := Lib.hid hg
    by_cases hlt : k < xs.length
    · obtain ⟨b1, o1, rfl, hb1, hr1⟩ := (Ha.out.grew hg).rowAt _ 5 elRow_len (by omega) (by omega)
      obtain ⟨b2, o2, rfl, hb2, hr2⟩ := (Hb.out.grew hg).rowAt _ 5 elRow_len (by omega) (by omega)
      have h1 := hr1 k hlt
      have h2 := hr2 k hlt
      clear hr1 hr2 hg
      generalize xs[k] = s at *
      obtain ⟨s0, s1, s2, s3, s4⟩ := s
      simp only [elRow] at h1 h2
      go_wp2_with fail
      refine wp_region_plus (by kernel_rfl) (by kernel_rfl) ?_
      repeat (go_big_quiet_step ((first | fail)))
      refine wpQuiet_nil ?_
      intro _ hw'
      obtain ⟨nx, rfl⟩ := hw'
      go_wp2_with fail
      go_roundw
      case measure => simp [intOf]; omega
      case rel => exact ⟨k + 1, by omega, by go_num, by repeat (first | with_reducible exact HG.out | with_reducible exact Grew.refl _ | with_reducible assumption | with_reducible apply Grew.plus | with_reducible apply Grew.drewN | with_reducible apply Grew.drew | with_reducible apply Grew.alloc | with_reducible refine Grew.setCell ?_ (by simp [go_sem]; try omega) _)⟩
    · obtain rfl : k = xs.length := by omega
      go_wp2_with fail
      go_ret
      exact ⟨rfl, by repeat (first | with_reducible exact HG.out | with_reducible exact Grew.refl _ | with_reducible assumption | with_reducible apply Grew.plus | with_reducible apply Grew.drewN | with_reducible apply Grew.drew | with_reducible apply Grew.alloc | with_reducible refine Grew.setCell ?_ (by simp [go_sem]; try omega) _)⟩

end Go.Proofs.YtnhmekdnfinmiaaGreatDoor
/- Walks: Covers, Merge, Meet and Compare of two clocks, the program's and the reference's. -/
namespace Go.Proofs.YtnhmekdnfinmiaaGreatDoor
open Go.RowKit
set_option linter.unusedSimpArgs false
set_option linter.unusedVariables false

theorem equalIn_clk (a b : C8) (w : World) : (Op.equalIn 10000 29 (.agg a.cells) (.agg b.cells)).run Tryz.prog w = .ok (decide (a = b)) w := by
  have h := run_equalIn_ints (P := Tryz.prog) w 9998 29 3 8 .i64 a.toL b.toL Tryz.underlying29 Tryz.underlying3 (by kernel_rfl) rfl rfl
  rw [← C8.cells_toL, ← C8.cells_toL] at h
  rw [h]
  simp only [C8.toL_inj]
@[go_sem high] theorem run_eql_clk (a b : C8) (w : World) : (binOp .eql 29 (.agg a.cells) (.agg b.cells)).run Tryz.prog w = .ok (.bool (decide (a = b))) w := by
  rw [run_eql_struct, equalIn_clk]; rfl
@[go_sem high] theorem run_neq_clk (a b : C8) (w : World) : (binOp .neq 29 (.agg a.cells) (.agg b.cells)).run Tryz.prog w = .ok (.bool (!decide (a = b))) w := by
  rw [run_neq_struct, equalIn_clk]; rfl

end Go.Proofs.YtnhmekdnfinmiaaGreatDoor
/- Walks: acts that are lent (printed by wip/gen_lend.py out of XElL). -/
namespace Go
set_option linter.unusedSimpArgs false
set_option linter.unusedVariables false
def actRow (x : ActD) : List Value := x.cells.toList
theorem actRow_len (x : ActD) : (actRow x).length = 13 := by cases x; rfl
end Go
namespace Go.Proofs.YtnhmekdnfinmiaaGreatDoor
open Go.RowKit
set_option linter.unusedSimpArgs false
set_option linter.unusedVariables false

theorem elAct : Elem Tryz.prog 27 112 13 104 := Elem.of Tryz.underlying27 (by kernel_rfl) (by decide)

theorem clk_same (x0 x1 x2 x3 x4 x5 x6 x7 : Int) (W : World) : (Op.equalIn 9999 29 (.agg #[.int .i64 x0, .int .i64 x1, .int .i64 x2, .int .i64 x3, .int .i64 x4, .int .i64 x5, .int .i64 x6, .int .i64 x7]) (.agg #[.int .i64 x0, .int .i64 x1, .int .i64 x2, .int .i64 x3, .int .i64 x4, .int .i64 x5, .int .i64 x6, .int .i64 x7])).run Tryz.prog W = .ok true W := by
  have h := run_equalIn_ints (P := Tryz.prog) W 9997 29 3 8 .i64 [x0, x1, x2, x3, x4, x5, x6, x7] [x0, x1, x2, x3, x4, x5, x6, x7] Tryz.underlying29 Tryz.underlying3 (by kernel_rfl) rfl rfl
  simpa using h
theorem acts_eq (a b : Option Addr) (ca cb : Nat) (xs : List ActD) (w : World) (ha : CellsIn w a (xs.flatMap actRow)) (hb : CellsIn w b (xs.flatMap actRow)) (hca : xs.length ≤ ca) (hcb : xs.length ≤ cb) (hma : ca ≤ 9223372036854775807) (hmb : cb ≤ 9223372036854775807) :
    Calls Tryz.prog 33 #[.slice a xs.length ca, .slice b xs.length cb] w fun e w' => e = .returned (.bool true) ∧ Grew w w' := by
  have Ha := Lib.hid ha
  have Hb := Lib.hid hb
  clear ha hb
  go_enter Tryz.func33, Tryz.ntmps33
  go_wp2_with fail
  go_loopw [5] (fun i wr => ∃ k : Nat, k ≤ xs.length ∧ i = .int .i64 k ∧ Grew w wr) (fun i _ => xs.length - (intOf i).toNat)
  case atStart => exact ⟨0, by omega, rfl, Grew.refl _⟩
  case round =>
    obtain ⟨k, hk, rfl, hg⟩ := hrel
    have HG := Lib.hid hg
    by_cases hlt : k < xs.length
    · obtain ⟨b1, o1, rfl, hb1, hr1⟩ := (Ha.out.grew hg).rowAt _ 13 actRow_len (by omega) (by omega)
      obtain ⟨b2, o2, rfl, hb2, hr2⟩ := (Hb.out.grew hg).rowAt _ 13 actRow_len (by omega) (by omega)
      have h1 := hr1 k hlt
      have h2 := hr2 k hlt
      clear hr1 hr2 hg
      generalize xs[k] = s at *
      obtain ⟨s0, s1, s2, s3, s4, ⟨x0, x1, x2, x3, x4, x5, x6, x7⟩⟩ := s
      simp only [actRow, ActD.cells, C8.cells, Array.toList_append, List.cons_append, List.nil_append] at h1 h2
      have hq := fun W => clk_same x0 x1 x2 x3 x4 x5 x6 x7 W
      go_wp2_with fail
      refine wp_region_plus (by kernel_rfl) (by kernel_rfl) ?_
      repeat (go_big_quiet_step ((first | fail)))
      refine wpQuiet_nil ?_
      intro _ hw'
      obtain ⟨nx, rfl⟩ := hw'
      go_wp2_with fail
      go_roundw
      case measure => simp [intOf]; omega
      case rel => exact ⟨k + 1, by omega, by go_num, by repeat (first | with_reducible exact HG.out | with_reducible exact Grew.refl _ | with_reducible assumption | with_reducible apply Grew.plus | with_reducible apply Grew.drewN | with_reducible apply Grew.drew | with_reducible apply Grew.alloc | with_reducible refine Grew.setCell ?_ (by simp [go_sem]; try omega) _)⟩
    · obtain rfl : k = xs.length := by omega
      go_wp2_with fail
      go_ret
      exact ⟨rfl, by repeat (first | with_reducible exact HG.out | with_reducible exact Grew.refl _ | with_reducible assumption | with_reducible apply Grew.plus | with_reducible apply Grew.drewN | with_reducible apply Grew.drew | with_reducible apply Grew.alloc | with_reducible refine Grew.setCell ?_ (by simp [go_sem]; try omega) _)⟩

end Go.Proofs.YtnhmekdnfinmiaaGreatDoor
/- Walks: what stands while image's eye fills a block of its own; acts. -/
namespace Go.Proofs.YtnhmekdnfinmiaaGreatDoor
open Go.RowKit Go.Par
set_option linter.unusedSimpArgs false
set_option linter.unusedVariables false
structure EK (S : Nat → Addr) (w0 : World) (R : Nat) (a : Option Addr) (cap : Nat) (l : List UInt8) (B A : Nat) (t : TypeId) (Wb W : World) (q : Nat) (cs : Array Value) : Prop where
  r : RA S w0 R a cap l W q
  g : GrewX [R] Wb W
  e : W.heap[B]? = some (.cells #[pt R] 84 (0, 0))
  o : W.heap[A]? = some (.cells cs t (0, 0))
  bR : B ≠ R
  aR : A ≠ R
  ba : B ≠ A
  a0 : w0.heap.size ≤ A
  af : Wb.heap.size ≤ A
  ab : ∀ q, a = some q → q.block ≠ A
  rb : R < Wb.heap.size
namespace EK
variable {S : Nat → Addr} {w0 W Wb W' : World} {R : Nat} {a : Option Addr} {cap : Nat} {l : List UInt8} {B A : Nat} {t : TypeId} {q q' : Nat} {cs : Array Value}
theorem step (k : EK S w0 R a cap l B A t Wb W q cs) (hg : GrewX [R] W W') (hr : RA S w0 R a cap l W' q') : EK S w0 R a cap l B A t Wb W' q' cs :=
  ⟨hr, k.g.trans hg, hg.heap k.e (by simpa using k.bR), hg.heap k.o (by simpa using k.aR), k.bR, k.aR, k.ba, k.a0, k.af, k.ab, k.rb⟩
theorem grew (k : EK S w0 R a cap l B A t Wb W q cs) (hg : Grew W W') : EK S w0 R a cap l B A t Wb W' q cs := k.step (GrewX.of_grew hg) (k.r.grew hg)
theorem set (k : EK S w0 R a cap l B A t Wb W q cs) (i : Nat) (v : Value) {cs' : Array Value} (h : cs.setIfInBounds i v = cs') : EK S w0 R a cap l B A t Wb (W.setCell ⟨A, i, none⟩ v) q cs' :=
  ⟨k.r.set _ k.a0 k.aR k.ab, k.g.set (.inr k.af) _, by rw [World.block_setCell _ _ _ _ k.ba]; exact k.e, by rw [← h]; exact World.own_setCell k.o v, k.bR, k.aR, k.ba, k.a0, k.af, k.ab, k.rb⟩
theorem eye (k : EK S w0 R a cap l B A t Wb W q cs) : W.cellsAt ⟨B, 0, none⟩ 1 = some [pt R] := World.cellsAt_block k.e 1 rfl
theorem eyeSet (k : EK S w0 R a cap l B A t Wb W q cs) (i : Nat) (u : Value) : (W.setCell ⟨A, i, none⟩ u).cellsAt ⟨B, 0, none⟩ 1 = some [pt R] := (k.set i u rfl).eye
theorem cell (k : EK S w0 R a cap l B A t Wb W q cs) (i : Nat) (u : Value) (h : cs[i]? = some u) : W.cell? ⟨A, i, none⟩ = some u ∧ W.frozen? ⟨A, i, none⟩ = false := World.own_cell k.o i u h
theorem lA (k : EK S w0 R a cap l B A t Wb W q cs) : A < W.heap.size := (Array.getElem?_eq_some_iff.1 k.o).1
theorem number (k : EK S w0 R a cap l B A t Wb W q cs) (least : Nat) (m : Int) (hm : 0 ≤ m) (hm2 : m ≤ 9223372036854775807) {X : Ending → World → Prop}
    (hno : ∀ r v w', pNum l least m q = .error r → WhyAt S w' r v → GrewX [R] Wb w' → X (.panicked [{ v := istop (placeOf r) v, recovered := false }]) w')
    (hok : ∀ (n q' : Nat) w', pNum l least m q = .ok (n, q') → EK S w0 R a cap l B A t Wb w' q' cs → X (.returned (.int .i64 n)) w') :
    Calls Tryz.prog 52 #[.agg #[pt R], .int .i64 least, .int .i64 m] W X := by
  refine (eye_number k.r least m hm hm2).mono ?_
  rintro e w' ⟨hg, hp⟩
  cases h : pNum l least m q with
  | error r =>
    rw [h] at hp
    obtain ⟨v, rfl, hv⟩ := hp
    exact hno r v w' h hv (k.g.trans hg)
  | ok x =>
    obtain ⟨n, q'⟩ := x
    rw [h] at hp
    obtain ⟨he, hr⟩ := hp
    cases (show e = _ from he)
    exact hok n q' w' h (k.step hg hr)
theorem count (k : EK S w0 R a cap l B A t Wb W q cs) (least : Nat) (h1 : 1 ≤ least) (h4 : least ≤ 4) {X : Ending → World → Prop}
    (hno : ∀ r v w', pCount l least q = .error r → WhyAt S w' r v → GrewX [R] Wb w' → X (.panicked [{ v := istop (placeOf r) v, recovered := false }]) w')
    (hok : ∀ (n q' : Nat) w', pCount l least q = .ok (n, q') → EK S w0 R a cap l B A t Wb w' q' cs → X (.returned (.int .i64 n)) w') :
    Calls Tryz.prog 53 #[.agg #[pt R], .int .i64 least] W X := by
  refine (eye_count k.r least h1 h4).mono ?_
  rintro e w' ⟨hg, hp⟩
  cases h : pCount l least q with
  | error r =>
    rw [h] at hp
    obtain ⟨v, rfl, hv⟩ := hp
    exact hno r v w' h hv (k.g.trans hg)
  | ok x =>
    obtain ⟨n, q'⟩ := x
    rw [h] at hp
    obtain ⟨he, hr⟩ := hp
    cases (show e = _ from he)
    exact hok n q' w' h (k.step hg hr)
theorem byte (k : EK S w0 R a cap l B A t Wb W q cs) (lo hi : Nat) {X : Ending → World → Prop}
    (hno : ∀ r v w', pByte l lo hi q = .error r → WhyAt S w' r v → GrewX [R] Wb w' → X (.panicked [{ v := istop (placeOf r) v, recovered := false }]) w')
    (hok : ∀ (b : UInt8) (q' : Nat) w', pByte l lo hi q = .ok (b, q') → EK S w0 R a cap l B A t Wb w' q' cs → X (.returned (.int .i64 b.toNat)) w') :
    Calls Tryz.prog 51 #[.agg #[pt R], .int .u8 lo, .int .u8 hi] W X := by
  refine (eye_byte k.r lo hi).mono ?_
  rintro e w' ⟨hg, hp⟩
  cases h : pByte l lo hi q with
  | error r =>
    rw [h] at hp
    obtain ⟨v, rfl, hv⟩ := hp
    exact hno r v w' h hv (k.g.trans hg)
  | ok x =>
    obtain ⟨n, q'⟩ := x
    rw [h] at hp
    obtain ⟨he, hr⟩ := hp
    cases (show e = _ from he)
    exact hok n q' w' h (k.step hg hr)
theorem id (k : EK S w0 R a cap l B A t Wb W q cs) {X : Ending → World → Prop}
    (hno : ∀ r v w', pId l q = .error r → WhyAt S w' r v → GrewX [R] Wb w' → X (.panicked [{ v := istop (placeOf r) v, recovered := false }]) w')
    (hok : ∀ (i : PId) (q' : Nat) w', pId l q = .ok (i, q') → EK S w0 R a cap l B A t Wb w' q' cs → X (.returned (idV i)) w') :
    Calls Tryz.prog 54 #[.agg #[pt R]] W X := by
  refine (eye_id k.r).mono ?_
  rintro e w' ⟨hg, hp⟩
  cases h : pId l q with
  | error r =>
    rw [h] at hp
    obtain ⟨v, rfl, hv⟩ := hp
    exact hno r v w' h hv (k.g.trans hg)
  | ok x =>
    obtain ⟨n, q'⟩ := x
    rw [h] at hp
    obtain ⟨he, hr⟩ := hp
    cases (show e = _ from he)
    exact hok n q' w' h (k.step hg hr)
theorem row (k : EK S w0 R a cap l B A t Wb W q cs) (m : Int) (hm : 0 ≤ m) (hm2 : m ≤ 9223372036854775807) (off : Nat) (ho : off + 8 ≤ cs.size) {X : Ending → World → Prop}
    (hno : ∀ r v w', pRow l m q = .error r → WhyAt S w' r v → GrewX [R] Wb w' → X (.panicked [{ v := istop (placeOf r) v, recovered := false }]) w')
    (hok : ∀ (xs : List Nat) (q' : Nat) w', pRow l m q = .ok (xs, q') → EK S w0 R a cap l B A t Wb w' q' (putRow cs off xs) → X (.returned (.tuple #[])) w') :
    Calls Tryz.prog 88 #[.agg #[pt R], .slice (some ⟨A, off, none⟩) 8 8, .int .i64 m] W X := by
  refine (eye_row k.r m hm hm2 k.o ho k.aR k.a0 k.ab).mono ?_
  rintro e w' ⟨hg, hp⟩
  have hg2 : GrewX [R] Wb w' := ((k.g.mono (ks' := [R, A]) (by simp)).trans hg).fresh (fun x hx => by
    rcases (by simpa using hx : x = R ∨ x = A) with rfl | rfl
    · exact .inl (by simp)
    · exact .inr k.af)
  cases h : pRow l m q with
  | error r =>
    rw [h] at hp
    obtain ⟨v, rfl, hv⟩ := hp
    exact hno r v w' h hv hg2
  | ok x =>
    obtain ⟨xs, q'⟩ := x
    rw [h] at hp
    obtain ⟨⟨he, hA⟩, hr⟩ := hp
    cases he
    exact hok xs q' w' h ⟨hr, hg2, hg.heap k.e (by simp [k.bR, k.ba]), hA, k.bR, k.aR, k.ba, k.a0, k.af, k.ab, k.rb⟩
end EK
structure EL (S : Nat → Addr) (w0 : World) (R : Nat) (a : Option Addr) (cap : Nat) (l : List UInt8) (B : Nat) (Wb W : World) (q : Nat) : Prop where
  r : RA S w0 R a cap l W q
  g : GrewX [R] Wb W
  e : W.heap[B]? = some (.cells #[pt R] 84 (0, 0))
  bR : B ≠ R
namespace EL
variable {S : Nat → Addr} {w0 W Wb W' : World} {R : Nat} {a : Option Addr} {cap : Nat} {l : List UInt8} {B : Nat} {q q' : Nat}
theorem step (k : EL S w0 R a cap l B Wb W q) (hg : GrewX [R] W W') (hr : RA S w0 R a cap l W' q') : EL S w0 R a cap l B Wb W' q' :=
  ⟨hr, k.g.trans hg, hg.heap k.e (by simpa using k.bR), k.bR⟩
theorem grew (k : EL S w0 R a cap l B Wb W q) (hg : Grew W W') : EL S w0 R a cap l B Wb W' q := k.step (GrewX.of_grew hg) (k.r.grew hg)
theorem eye (k : EL S w0 R a cap l B Wb W q) : W.cellsAt ⟨B, 0, none⟩ 1 = some [pt R] := World.cellsAt_block k.e 1 rfl
theorem lB (k : EL S w0 R a cap l B Wb W q) : B < W.heap.size := (Array.getElem?_eq_some_iff.1 k.e).1
theorem number (k : EL S w0 R a cap l B Wb W q) (least : Nat) (m : Int) (hm : 0 ≤ m) (hm2 : m ≤ 9223372036854775807) {X : Ending → World → Prop}
    (hno : ∀ r v w', pNum l least m q = .error r → WhyAt S w' r v → GrewX [R] Wb w' → X (.panicked [{ v := istop (placeOf r) v, recovered := false }]) w')
    (hok : ∀ (n q' : Nat) w', pNum l least m q = .ok (n, q') → EL S w0 R a cap l B Wb w' q' → X (.returned (.int .i64 n)) w') :
    Calls Tryz.prog 52 #[.agg #[pt R], .int .i64 least, .int .i64 m] W X := by
  refine (eye_number k.r least m hm hm2).mono ?_
  rintro e w' ⟨hg, hp⟩
  cases h : pNum l least m q with
  | error r =>
    rw [h] at hp
    obtain ⟨v, rfl, hv⟩ := hp
    exact hno r v w' h hv (k.g.trans hg)
  | ok x =>
    obtain ⟨n, q'⟩ := x
    rw [h] at hp
    obtain ⟨he, hr⟩ := hp
    cases (show e = _ from he)
    exact hok n q' w' h (k.step hg hr)
theorem count (k : EL S w0 R a cap l B Wb W q) (least : Nat) (h1 : 1 ≤ least) (h4 : least ≤ 4) {X : Ending → World → Prop}
    (hno : ∀ r v w', pCount l least q = .error r → WhyAt S w' r v → GrewX [R] Wb w' → X (.panicked [{ v := istop (placeOf r) v, recovered := false }]) w')
    (hok : ∀ (n q' : Nat) w', pCount l least q = .ok (n, q') → EL S w0 R a cap l B Wb w' q' → X (.returned (.int .i64 n)) w') :
    Calls Tryz.prog 53 #[.agg #[pt R], .int .i64 least] W X := by
  refine (eye_count k.r least h1 h4).mono ?_
  rintro e w' ⟨hg, hp⟩
  cases h : pCount l least q with
  | error r =>
    rw [h] at hp
    obtain ⟨v, rfl, hv⟩ := hp
    exact hno r v w' h hv (k.g.trans hg)
  | ok x =>
    obtain ⟨n, q'⟩ := x
    rw [h] at hp
    obtain ⟨he, hr⟩ := hp
    cases (show e = _ from he)
    exact hok n q' w' h (k.step hg hr)
theorem byte (k : EL S w0 R a cap l B Wb W q) (lo hi : Nat) {X : Ending → World → Prop}
    (hno : ∀ r v w', pByte l lo hi q = .error r → WhyAt S w' r v → GrewX [R] Wb w' → X (.panicked [{ v := istop (placeOf r) v, recovered := false }]) w')
    (hok : ∀ (b : UInt8) (q' : Nat) w', pByte l lo hi q = .ok (b, q') → EL S w0 R a cap l B Wb w' q' → X (.returned (.int .i64 b.toNat)) w') :
    Calls Tryz.prog 51 #[.agg #[pt R], .int .u8 lo, .int .u8 hi] W X := by
  refine (eye_byte k.r lo hi).mono ?_
  rintro e w' ⟨hg, hp⟩
  cases h : pByte l lo hi q with
  | error r =>
    rw [h] at hp
    obtain ⟨v, rfl, hv⟩ := hp
    exact hno r v w' h hv (k.g.trans hg)
  | ok x =>
    obtain ⟨n, q'⟩ := x
    rw [h] at hp
    obtain ⟨he, hr⟩ := hp
    cases (show e = _ from he)
    exact hok n q' w' h (k.step hg hr)
theorem id (k : EL S w0 R a cap l B Wb W q) {X : Ending → World → Prop}
    (hno : ∀ r v w', pId l q = .error r → WhyAt S w' r v → GrewX [R] Wb w' → X (.panicked [{ v := istop (placeOf r) v, recovered := false }]) w')
    (hok : ∀ (i : PId) (q' : Nat) w', pId l q = .ok (i, q') → EL S w0 R a cap l B Wb w' q' → X (.returned (idV i)) w') :
    Calls Tryz.prog 54 #[.agg #[pt R]] W X := by
  refine (eye_id k.r).mono ?_
  rintro e w' ⟨hg, hp⟩
  cases h : pId l q with
  | error r =>
    rw [h] at hp
    obtain ⟨v, rfl, hv⟩ := hp
    exact hno r v w' h hv (k.g.trans hg)
  | ok x =>
    obtain ⟨n, q'⟩ := x
    rw [h] at hp
    obtain ⟨he, hr⟩ := hp
    cases (show e = _ from he)
    exact hok n q' w' h (k.step hg hr)
end EL
theorem app_gx {S : Nat → Addr} {w0 V w1 : World} {R : Nat} {a : Option Addr} {cap : Nat} {l : List UInt8} {q : Nat} {v : Value} (hr : RA S w0 R a cap l V q)
    (h1 : Grew w0 w1) (hk : ∀ k, k < V.heap.size → some k ≠ v.ownBlock → w1.heap[k]? = V.heap[k]?) (hs : V.heap.size ≤ w1.heap.size) : GrewX v.ownBlock.toList V w1 :=
  ⟨h1.os.trans hr.g.os.symm, h1.tape.trans hr.g.tape.symm, h1.output.trans hr.g.output.symm, hs, fun k hk2 hn => hk k hk2 (fun e => hn (by rw [← e]; simp))⟩
theorem app_close {S : Nat → Addr} {w0 w V w1 : World} {R B D : Nat} {a : Option Addr} {cap : Nat} {l : List UInt8} {q : Nat} {o : Obj} {e : TypeId} {size n : Nat} {v : Value} {xs : List Value}
    (hr : RA S w0 R a cap l V q) (hg : GrewX [R] w V) (he : V.heap[B]? = some o) (hown : V.ownsRow D e size v n xs) (hB : w.heap.size ≤ D) (hBD : B < D) (hRB : R < D) (hab : ∀ x, a = some x → x.block < D)
    (H : Grew w0 w1 ∧ (∀ k, k < V.heap.size → some k ≠ v.ownBlock → w1.heap[k]? = V.heap[k]?) ∧ V.heap.size ≤ w1.heap.size) : RA S w0 R a cap l w1 q ∧ GrewX [R] w w1 ∧ w1.heap[B]? = some o := by
  obtain ⟨h1, hk, hs⟩ := H
  have hx : GrewX v.ownBlock.toList V w1 := ⟨h1.os.trans hr.g.os.symm, h1.tape.trans hr.g.tape.symm, h1.output.trans hr.g.output.symm, hs, fun k hk2 hn => hk k hk2 (fun e => hn (by rw [← e]; simp))⟩
  have hlow : ∀ k ∈ v.ownBlock.toList, D ≤ k := fun k hm => (hown.lt k (by simpa using hm)).1
  have hR : R ∉ v.ownBlock.toList := fun hm => by have := hlow R hm; omega
  refine ⟨⟨hr.s, h1, hr.r.grewX hx hR (fun x hx hm => by have := hab x hx; have := hlow _ hm; omega), hr.hR, fun x hx => Nat.lt_of_lt_of_le (hr.ab x hx) hs⟩, ?_, ?_⟩
  · exact ((hg.mono (ks' := R :: v.ownBlock.toList) (by simp)).trans (hx.mono (fun k hk => List.mem_cons_of_mem _ hk))).fresh (fun k hk => by
      rcases List.mem_cons.1 hk with rfl | hm
      · exact .inl (by simp)
      · exact .inr (by have := hlow k hm; omega))
  · exact hx.heap he (fun hm => by have := hlow B hm; omega)
theorem _root_.Go.World.ownsRow.grewX {w w' : World} {ks : List Nat} {base : Nat} {e : TypeId} {size n : Nat} {v : Value} {xs : List Value} (h : w.ownsRow base e size v n xs) (hg : GrewX ks w w') (hk : ∀ k ∈ ks, k < base) : w'.ownsRow base e size v n xs :=
  h.keep fun k hv => by
    obtain ⟨h1, h2⟩ := h.lt k hv
    exact hg.block k (by omega) (fun hm => by have := hk k hm; omega)
theorem alloc_size1 (w : World) (o : Obj) : (w.alloc o).heap.size = w.heap.size + 1 := by simp [go_sem]
end Go.Proofs.YtnhmekdnfinmiaaGreatDoor
/- Walks: image's eye: acts. -/
namespace Go.Par
theorem rowLen (l : List UInt8) (m : Int) (n : Nat) : ∀ (j k : Nat) (xs : List Nat) (q : Nat) (ys : List Nat) (z : Nat), pLoop (fun i xs => (pNum l (lastOf i n) m).bind fun v => PM.pure (xs ++ [v])) j k xs q = .ok (ys, z) → ys.length = xs.length + j
  | 0, k, xs, q, ys, z, h => by cases h; rfl
  | j + 1, k, xs, q, ys, z, h => by
    cases h1 : pNum l (lastOf k n) m q with
    | error r => rw [pLoop_no (bind_no h1)] at h; cases h
    | ok x =>
      obtain ⟨v, q1⟩ := x
      rw [pLoop_ok (bind_ok h1)] at h
      have := rowLen l m n j _ _ _ _ _ h
      simp at this
      omega
theorem pRow_len {l : List UInt8} {m : Int} {q z : Nat} {ys : List Nat} (h : pRow l m q = .ok (ys, z)) : ys.length ≤ 8 := by
  unfold pRow at h
  cases h1 : pNum l 0 8 q with
  | error r => rw [bind_no h1] at h; cases h
  | ok x =>
    obtain ⟨n, q1⟩ := x
    rw [bind_ok h1] at h
    have h2 := rowLen l m n n 0 [] q1 ys z h
    have h3 := (pNum_le h1).1
    simp at h2
    omega
theorem pByte_le {l : List UInt8} {lo hi q z : Nat} {b : UInt8} (h : pByte l lo hi q = .ok (b, z)) : lo ≤ b.toNat ∧ b.toNat ≤ hi := by
  unfold pByte pChk at h
  cases h1 : wByte l q with
  | error r => rw [h1] at h; cases h
  | ok x =>
    obtain ⟨n, q1⟩ := x
    rw [h1] at h
    simp only at h
    split at h
    · cases h
    · rename_i hh
      cases h
      simp at hh
      omega
theorem pCount_le {l : List UInt8} {least q z n : Nat} (h : pCount l least q = .ok (n, z)) : n ≤ l.length := by
  unfold pCount wCount at h
  cases hs : scan l 2147483647 9 0 0 q with
  | error c => rw [hs] at h; cases h
  | ok x =>
    obtain ⟨y, z⟩ := x
    rw [hs] at h
    simp only at h
    split at h
    · cases h
    · rename_i hh
      cases h
      have := Nat.div_le_self (l.length - z) (max least 1)
      omega
def c8 (t : List Nat) : C8 := ⟨t.getD 0 0, t.getD 1 0, t.getD 2 0, t.getD 3 0, t.getD 4 0, t.getD 5 0, t.getD 6 0, t.getD 7 0⟩
def actD (x : PAct) : ActD := ⟨x.kind, x.place, x.ch, x.rep, x.num, c8 x.clock⟩
def actsB (l : List UInt8) (_ : Nat) (xs : List PAct) : PM (List PAct) := (pAct l).bind fun a => PM.pure (xs ++ [a])
theorem pActs_eq (l : List UInt8) : pActs l = (pCount l 4).bind fun n => pLoop (actsB l) n 0 [] := rfl
end Go.Par
namespace Go.Proofs.YtnhmekdnfinmiaaGreatDoor
open Go.RowKit Go.Par
set_option linter.unusedSimpArgs false
set_option linter.unusedVariables false
theorem act_ones (x0 x1 x2 x3 x4 x5 x6 x7 x8 x9 x10 x11 x12 : Int) : ∀ u ∈ (#[Value.int .i64 x0, .int .i64 x1, .int .i32 x2, .int .i64 x3, .int .i64 x4, .int .i64 x5, .int .i64 x6, .int .i64 x7, .int .i64 x8, .int .i64 x9, .int .i64 x10, .int .i64 x11, .int .i64 x12] : Array Value).toList, u.oneCell' = true := by
  intro u hu
  simp only [List.mem_cons, List.not_mem_nil, or_false] at hu
  rcases hu with rfl | rfl | rfl | rfl | rfl | rfl | rfl | rfl | rfl | rfl | rfl | rfl | rfl <;> rfl
theorem putRow_clock (x0 x1 x2 x3 x4 : Value) (t : List Nat) (ht : t.length ≤ 8) : putRow #[x0, x1, x2, x3, x4, .int .i64 0, .int .i64 0, .int .i64 0, .int .i64 0, .int .i64 0, .int .i64 0, .int .i64 0, .int .i64 0] 5 t = #[x0, x1, x2, x3, x4, .int .i64 (c8 t).x0, .int .i64 (c8 t).x1, .int .i64 (c8 t).x2, .int .i64 (c8 t).x3, .int .i64 (c8 t).x4, .int .i64 (c8 t).x5, .int .i64 (c8 t).x6, .int .i64 (c8 t).x7] := by
  match t, ht with
  | [], _ => simp [putRow, c8]
  | [_], _ => simp [putRow, c8]
  | [_, _], _ => simp [putRow, c8]
  | [_, _, _], _ => simp [putRow, c8]
  | [_, _, _, _], _ => simp [putRow, c8]
  | [_, _, _, _, _], _ => simp [putRow, c8]
  | [_, _, _, _, _, _], _ => simp [putRow, c8]
  | [_, _, _, _, _, _, _], _ => simp [putRow, c8]
  | [_, _, _, _, _, _, _, _], _ => simp [putRow, c8]
  | _ :: _ :: _ :: _ :: _ :: _ :: _ :: _ :: _ :: _, h => simp at h
def isActs (base : Nat) (xs : List PAct) (e : Ending) (w' : World) : Prop := ∃ ar cp, e = .returned (.slice ar xs.length cp) ∧ w'.ownsRow base 112 13 (.slice ar xs.length cp) xs.length ((xs.map actD).flatMap actRow)
section
variable {S : Nat → Addr} {w0 w w' : World} {R : Nat} {a : Option Addr} {cap : Nat} {l : List UInt8} {p q : Nat}
set_option maxRecDepth 100000 in
set_option maxHeartbeats 2000000 in
theorem eye_acts (h : RA S w0 R a cap l w p) :
    Calls Tryz.prog 55 #[.agg #[pt R]] w fun e w' => GrewX [R] w w' ∧ IPost S w0 R a cap l (isActs w.heap.size) (pActs l p) e w' := by
  have lR := h.lt
  have lR0 := h.hR
  have hab := h.ab
  have hlen := h.r.len
  have h2 := h.grew ((Grew.refl w).alloc (.cells #[pt R] 84))
  have g2 : GrewX [R] w (w.alloc (.cells #[pt R] 84)) := GrewX.of_grew ((Grew.refl w).alloc _)
  have a2 : (w.alloc (.cells #[pt R] 84)).heap[w.heap.size]? = some (.cells #[pt R] 84 (0, 0)) := heap_alloc_at _ _ _ rfl
  have hBR : w.heap.size ≠ R := by omega
  have Hab := Lib.hid hab
  clear h hab
  go_enter Tryz.func55, Tryz.ntmps55
  go_wp2_with fail
  generalize hBB : w.heap.size = B at *
  have HBB := Lib.hid hBB
  clear hBB
  generalize (w.alloc (.cells #[pt R] 84)) = W at *
  refine (eye_count h2 4 (by omega) (by omega)).mono ?_
  rintro e w1 ⟨hg1, hp⟩
  have HL : Hid (pActs l p = _) := Lib.hid (congrFun (pActs_eq l) p)
  cases h1 : pCount l 4 p with
  | error r =>
    rw [h1] at hp
    obtain ⟨v, rfl, hv⟩ := hp
    exact ⟨rfl, g2.trans hg1, by rw [HL.out, bind_no h1]; exact ⟨v, rfl, hv⟩⟩
  | ok x =>
    obtain ⟨n, p1⟩ := x
    rw [h1] at hp
    obtain ⟨he, hr1⟩ := hp
    cases (show e = _ from he)
    have HL2 := Lib.hid (HL.out.trans (bind_ok h1))
    have hn := pCount_le h1
    have a3 := hg1.heap a2 (by simpa using hBR)
    have HX := Lib.hid (And.intro hr1 (And.intro (g2.trans hg1) a3))
    clear h2 g2 a2 hr1 hg1 a3 h1 HL he
    go_wp2_with fail
    go_loopw [2, 6] (fun s2 i wr => ∃ (k : Nat) (xs : List PAct) (q : Nat) (ar : Option Addr) (cp : Nat), k ≤ n ∧ i = .int .i64 k ∧ xs.length = k ∧ s2 = .slice ar k cp ∧ pLoop (actsB l) (n - k) k xs q = pLoop (actsB l) n 0 [] p1 ∧ RA S w0 R a cap l wr q ∧ GrewX [R] w wr ∧ wr.heap[B]? = some (.cells #[pt R] 84 (0, 0)) ∧ wr.ownsRow (B + 1) 112 13 (.slice ar k cp) k ((xs.map actD).flatMap actRow)) (fun _ i _ => n - (intOf i).toNat)
    case atStart => obtain ⟨hr1, hx1, a3⟩ := HX.out; exact ⟨0, [], p1, none, 0, by omega, rfl, rfl, rfl, rfl, hr1, hx1, a3, ⟨rfl, .inl ⟨rfl, rfl⟩⟩⟩
    case round =>
      obtain ⟨k, xs, q, ar, cp, hk, rfl, hxl, rfl, hl, hr, hg, ha, ho⟩ := hrel
      by_cases hlt : k < n
      · have lB : B < wr.heap.size := (Array.getElem?_eq_some_iff.1 ha).1
        have c00 : ∀ o, (wr.alloc o).cellsAt ⟨B, 0, none⟩ 1 = some [pt R] := fun o => World.cellsAt_block (Grew.heap ((Grew.refl _).alloc o) ha) 1 rfl
        have hsz : B + 1 ≤ wr.heap.size := by omega
        have K0 : EK S w0 R a cap l B wr.heap.size 112 wr (wr.alloc (.cells #[.int .i64 0, .int .i64 0, .int .i32 0, .int .i64 0, .int .i64 0, .int .i64 0, .int .i64 0, .int .i64 0, .int .i64 0, .int .i64 0, .int .i64 0, .int .i64 0, .int .i64 0] 112)) q #[.int .i64 0, .int .i64 0, .int .i32 0, .int .i64 0, .int .i64 0, .int .i64 0, .int .i64 0, .int .i64 0, .int .i64 0, .int .i64 0, .int .i64 0, .int .i64 0, .int .i64 0] := ⟨hr.grew ((Grew.refl _).alloc _), (GrewX.refl _ _).alloc _, Grew.heap ((Grew.refl _).alloc _) ha, heap_alloc_at _ _ _ rfl, hBR, by have := hr.lt; omega, by omega, by have := hr.g.size; omega, Nat.le_refl _, fun x hx => by have := hr.ab x hx; omega, hr.lt⟩
        have HF : Hid (∀ r v w', pAct l q = .error r → WhyAt S w' r v → GrewX [R] wr w' → GrewX [R] w w' ∧ IPost S w0 R a cap l (isActs w.heap.size) (pActs l p) (.panicked [{ v := istop (placeOf r) v, recovered := false }]) w') := Lib.hid fun r v w' h hv hg2 => ⟨hg.trans hg2, by rw [HL2.out, ← hl, show n - k = (n - k - 1) + 1 by omega, pLoop_no (show actsB l k xs q = _ from bind_no h)]; exact ⟨v, rfl, hv⟩⟩
        have HS : Hid (∀ x q', pAct l q = .ok (x, q') → pLoop (actsB l) (n - (k + 1)) (k + 1) (xs ++ [x]) q' = pLoop (actsB l) n 0 [] p1) := Lib.hid fun x q' h => by rw [← hl, show n - k = (n - (k + 1)) + 1 by omega]; exact (pLoop_ok (show actsB l k xs q = _ from bind_ok h)).symm
        have HY := Lib.hid (And.intro hg ho)
        have hRA := hr.lt
        have hRB : R < B + 1 := by have := HBB.out; omega
        have HK0 := Lib.hid K0
        clear hr hg ha ho hl K0
        go_wp2_with fail
        have k0 := HK0.out
        clear HK0 c00
        generalize (wr.alloc (.cells #[.int .i64 0, .int .i64 0, .int .i32 0, .int .i64 0, .int .i64 0, .int .i64 0, .int .i64 0, .int .i64 0, .int .i64 0, .int .i64 0, .int .i64 0, .int .i64 0, .int .i64 0] 112)) = U0 at *
        generalize hAA : wr.heap.size = A at *
        have HAA := Lib.hid hAA
        clear hAA
        have L0 := Lib.hid (rfl : pAct l q = pAct l q)
        refine k0.byte 1 3 (fun r v w' h hv hg => ?_) (fun x0 q0 V0 h0 kk0 => ?_)
        · exact ⟨rfl, HF.out r v w' (L0.out.trans (bind_no h)) hv hg⟩
        have L1 := Lib.hid (L0.out.trans (bind_ok h0))
        have hk3 := (pByte_le h0)
        obtain ⟨c0, m0⟩ := kk0.cell 0 _ rfl
        have e0 := kk0.eyeSet
        have lA0 := kk0.lA
        have K1 := Lib.hid (kk0.set 0 (.int .i64 x0.toNat) (cs' := #[.int .i64 x0.toNat, .int .i64 0, .int .i32 0, .int .i64 0, .int .i64 0, .int .i64 0, .int .i64 0, .int .i64 0, .int .i64 0, .int .i64 0, .int .i64 0, .int .i64 0, .int .i64 0]) rfl)
        clear h0 kk0 k0 L0
        go_wp2_with fail
        clear c0 m0 e0 lA0
        have k1 := K1.out
        clear K1
        generalize V0.setCell ⟨A, 0, none⟩ (.int .i64 x0.toNat) = U1 at *
        refine k1.number 0 7 (by decide) (by decide) (fun r v w' h hv hg => ?_) (fun x1 q1 V1 h1 kk1 => ?_)
        · exact ⟨rfl, HF.out r v w' (L1.out.trans (bind_no h)) hv hg⟩
        have L2 := Lib.hid (L1.out.trans (bind_ok h1))
        obtain ⟨c1, m1⟩ := kk1.cell 3 _ rfl
        have e1 := kk1.eyeSet
        have lA1 := kk1.lA
        have K2 := Lib.hid (kk1.set 3 (.int .i64 x1) (cs' := #[.int .i64 x0.toNat, .int .i64 0, .int .i32 0, .int .i64 x1, .int .i64 0, .int .i64 0, .int .i64 0, .int .i64 0, .int .i64 0, .int .i64 0, .int .i64 0, .int .i64 0, .int .i64 0]) rfl)
        clear h1 kk1 k1 L1
        go_wp2_with fail
        clear c1 m1 e1 lA1
        have k2 := K2.out
        clear K2
        generalize V1.setCell ⟨A, 3, none⟩ (.int .i64 x1) = U2 at *
        by_cases hk1 : x0.toNat = 1
        · have hk2 : (x0.toNat : Int) = 1 := by omega
          refine k2.number 0 9223372036854775807 (by decide) (by decide) (fun r v w' h hv hg => ?_) (fun x2 q2 V2 h2 kk2 => ?_)
          · exact ⟨rfl, HF.out r v w' (L2.out.trans (bind_no h)) hv hg⟩
          have L3 := Lib.hid (L2.out.trans (bind_ok h2))
          obtain ⟨c2, m2⟩ := kk2.cell 1 _ rfl
          have e2 := kk2.eyeSet
          have lA2 := kk2.lA
          have d0 := ((kk2.set 1 (.int .i64 x2) rfl).cell 0 _ rfl).1
          have K3 := Lib.hid (kk2.set 1 (.int .i64 x2) (cs' := #[.int .i64 x0.toNat, .int .i64 x2, .int .i32 0, .int .i64 x1, .int .i64 0, .int .i64 0, .int .i64 0, .int .i64 0, .int .i64 0, .int .i64 0, .int .i64 0, .int .i64 0, .int .i64 0]) rfl)
          clear h2 kk2 k2 L2
          go_wp2_with fail
          clear c2 m2 e2 lA2
          have k3 := K3.out
          clear K3
          generalize V2.setCell ⟨A, 1, none⟩ (.int .i64 x2) = U3 at *
          have L3 := L3.out
          simp only [if_pos hk1] at L3
          have L3 := Lib.hid L3
          have HK1 := Lib.hid hk1
          clear hk1 hk2
          refine k3.number 0 1114111 (by decide) (by decide) (fun r v w' h hv hg => ?_) (fun x3 q3 V3 h3 kk3 => ?_)
          · exact ⟨rfl, HF.out r v w' (L3.out.trans (bind_no h)) hv hg⟩
          have L4 := Lib.hid (L3.out.trans (bind_ok h3))
          obtain ⟨c3, m3⟩ := kk3.cell 2 _ rfl
          have e3 := kk3.eyeSet
          have lA3 := kk3.lA
          have hch : IntKind.i32.wrap (x3 : Int) = x3 := by have := (pNum_le h3).1; rw [IntKind.wrap_i32]; omega
          have K4 := Lib.hid (kk3.set 2 (.int .i32 x3) (cs' := #[.int .i64 x0.toNat, .int .i64 x2, .int .i32 x3, .int .i64 x1, .int .i64 0, .int .i64 0, .int .i64 0, .int .i64 0, .int .i64 0, .int .i64 0, .int .i64 0, .int .i64 0, .int .i64 0]) rfl)
          clear h3 kk3 k3 L3
          go_wp2_with fail
          clear c3 m3 e3 lA3
          have k4 := K4.out
          clear K4
          generalize V3.setCell ⟨A, 2, none⟩ (.int .i32 x3) = U4 at *
          refine k4.number 1 9223372036854775807 (by decide) (by decide) (fun r v w' h hv hg => ?_) (fun x4 q4 V4 h4 kk4 => ?_)
          · exact ⟨rfl, HF.out r v w' (L4.out.trans (bind_no h)) hv hg⟩
          have L5 := Lib.hid (L4.out.trans (bind_ok h4))
          obtain ⟨c4, m4⟩ := kk4.cell 4 _ rfl
          have e4 := kk4.eyeSet
          have lA4 := kk4.lA
          have K5 := Lib.hid (kk4.set 4 (.int .i64 x4) (cs' := #[.int .i64 x0.toNat, .int .i64 x2, .int .i32 x3, .int .i64 x1, .int .i64 x4, .int .i64 0, .int .i64 0, .int .i64 0, .int .i64 0, .int .i64 0, .int .i64 0, .int .i64 0, .int .i64 0]) rfl)
          clear h4 kk4 k4 L4
          go_wp2_with fail
          clear c4 m4 e4 lA4
          have k5 := K5.out
          clear K5
          generalize V4.setCell ⟨A, 4, none⟩ (.int .i64 x4) = U5 at *
          refine wp_region_held_drew (S := fun w' => w'.cellsAt ⟨B, 0, none⟩ 1 = some [pt R]) (by kernel_rfl) (k5.grew (by repeat (first | with_reducible exact HG.out | with_reducible exact Grew.refl _ | with_reducible assumption | with_reducible apply Grew.plus | with_reducible apply Grew.drewN | with_reducible apply Grew.drew | with_reducible apply Grew.alloc | with_reducible refine Grew.setCell ?_ (by simp [go_sem]; try omega) _))).eye (fun hHeld => ?_)
          refine wpAnyH_take (i := 0) (v := ?_) rfl (by kernel_rfl) (by kernel_rfl) (by kernel_rfl) (by first | exact fun _ _ _ h => h | exact fun _ _ _ h => HQP _ _ _ _ (by rfl) h) (Or.inl ⟨by rfl, ?_⟩) (by assumption) ?_
          rotate_left 1
          · (intro w hSw; (try dsimp only at hSw); go_simp; (try with_reducible rfl))
          (try simp only [List.getElem_toArray, List.getElem_cons_zero, List.getElem_cons_succ])
          (try simp only [Act.put, List.setIfInBounds_toArray, List.set_cons_zero, List.set_cons_succ])
          refine wpAnyH_take (i := 1) (v := ?_) rfl (by kernel_rfl) (by kernel_rfl) (by kernel_rfl) (by first | exact fun _ _ _ h => h | exact fun _ _ _ h => HQP _ _ _ _ (by rfl) h) (Or.inl ⟨by rfl, ?_⟩) (by assumption) ?_
          rotate_left 1
          · (intro w hSw; (try dsimp only at hSw); go_simp; (try with_reducible rfl))
          (try simp only [List.getElem_toArray, List.getElem_cons_zero, List.getElem_cons_succ])
          (try simp only [Act.put, List.setIfInBounds_toArray, List.set_cons_zero, List.set_cons_succ])
          refine wpAnyH_take (i := 2) (v := ?_) rfl (by kernel_rfl) (by kernel_rfl) (by kernel_rfl) (by first | exact fun _ _ _ h => h | exact fun _ _ _ h => HQP _ _ _ _ (by rfl) h) (Or.inl ⟨by rfl, ?_⟩) (by assumption) ?_
          rotate_left 1
          · (intro w hSw; (try dsimp only at hSw); go_simp; (try with_reducible rfl))
          (try simp only [List.getElem_toArray, List.getElem_cons_zero, List.getElem_cons_succ])
          (try simp only [Act.put, List.setIfInBounds_toArray, List.set_cons_zero, List.set_cons_succ])
          refine wpAnyH_ready (rs := [3]) (by kernel_rfl) (by simp) ?_
          refine AllReadyH.cons rfl (fun K hK => ?_) AllReadyH.nil
          go_simp
          go_at_call 88
          refine (k5.grew (by exact by repeat (first | with_reducible exact HG.out | with_reducible exact Grew.refl _ | with_reducible assumption | with_reducible apply Grew.plus | with_reducible apply Grew.drewN | with_reducible apply Grew.drew | with_reducible apply Grew.alloc | with_reducible refine Grew.setCell ?_ (by simp [go_sem]; try omega) _))).row 9223372036854775807 (by decide) (by decide) 5 (by simp) (fun r v w' h hv hg => ?_) (fun x5 q5 V5 h5 kk5 => ?_)
          · exact ⟨rfl, HF.out r v w' (L5.out.trans (bind_no h)) hv hg⟩
          have L6 := Lib.hid (HS.out _ _ (L5.out.trans (bind_ok h5)))
          rw [putRow_clock _ _ _ _ _ _ (pRow_len h5)] at kk5
          refine hK.out _ _ kk5.eye (fun hHeld2 => ?_)
          clear hK K
          (try simp only [Act.put, List.setIfInBounds_toArray, List.set_cons_zero, List.set_cons_succ])
          refine wpAnyH_done (by kernel_rfl) ?_ _
          have hcc : (actRow (actD ⟨x0.toNat, x1, x2, x3, x4, x5⟩)) = [.int .i64 x0.toNat, .int .i64 x2, .int .i32 x3, .int .i64 x1, .int .i64 x4, .int .i64 (c8 x5).x0, .int .i64 (c8 x5).x1, .int .i64 (c8 x5).x2, .int .i64 (c8 x5).x3, .int .i64 (c8 x5).x4, .int .i64 (c8 x5).x5, .int .i64 (c8 x5).x6, .int .i64 (c8 x5).x7] := rfl
          generalize c8 x5 = cc at *
          obtain ⟨y0, y1, y2, y3, y4, y5, y6, y7⟩ := cc
          have cA : V5.cellsAt ⟨A, 0, none⟩ 13 = some [.int .i64 x0.toNat, .int .i64 x2, .int .i32 x3, .int .i64 x1, .int .i64 x4, .int .i64 y0, .int .i64 y1, .int .i64 y2, .int .i64 y3, .int .i64 y4, .int .i64 y5, .int .i64 y6, .int .i64 y7] := World.cellsAt_block kk5.o 13 rfl
          have HK5 := Lib.hid kk5
          have HCC := Lib.hid hcc
          clear k5 h5 kk5 hHeld hHeld2 L5 HF HS hcc
          go_wp2_with (at_builtin; go_loud (refine wpList_app (by rfl) (.tmp 36) (.tmp 38) 27 (by rfl) elAct (B + 1) _ k ((xs.map actD).flatMap actRow) (by rfl) ((HY.out.2.grewX HK5.out.g (by simpa using hRB)).grew (by exact by repeat (first | with_reducible exact HG.out | with_reducible exact Grew.refl _ | with_reducible assumption | with_reducible apply Grew.plus | with_reducible apply Grew.drewN | with_reducible apply Grew.drew | with_reducible apply Grew.alloc | with_reducible refine Grew.setCell ?_ (by simp [go_sem]; try omega) _))) _ 1 1 #[.int .i64 x0.toNat, .int .i64 x2, .int .i32 x3, .int .i64 x1, .int .i64 x4, .int .i64 y0, .int .i64 y1, .int .i64 y2, .int .i64 y3, .int .i64 y4, .int .i64 y5, .int .i64 y6, .int .i64 y7] 112 (by rfl) (heap_alloc_at _ _ _ rfl) (by rfl) (act_ones _ _ _ _ _ _ _ _ _ _ _ _ _) (by omega) (by omega) (by unfold maxLen; omega) w0 (HK5.out.r.g.trans (by exact by repeat (first | with_reducible exact HG.out | with_reducible exact Grew.refl _ | with_reducible assumption | with_reducible apply Grew.plus | with_reducible apply Grew.drewN | with_reducible apply Grew.drew | with_reducible apply Grew.alloc | with_reducible refine Grew.setCell ?_ (by simp [go_sem]; try omega) _))) (by have := HBB.out; omega) (by have := HK5.out.g.size; have := HAA.out; rw [alloc_size1]; omega) ?_); intro g c2 w2 hg2 hown2 hkeep2 hsz2 hat2; have HO2 := Lib.hid hown2; have HG2 := Lib.hid (And.intro hg2 (And.intro hkeep2 hsz2)); clear hown2 hg2 hkeep2 hat2 hsz2)
          obtain ⟨hr2, hg2, he2⟩ := app_close (HK5.out.r.grew ((Grew.refl _).alloc _)) ((HY.out.1.trans HK5.out.g).alloc _) (Grew.heap ((Grew.refl _).alloc _) HK5.out.e) ((HY.out.2.grewX HK5.out.g (by simpa using hRB)).grew ((Grew.refl _).alloc _)) (by have := HBB.out; omega) (by omega) hRB (fun x hx => by have := Hab.out x hx; omega) HG2.out
          exact ⟨⟨k + 1, xs ++ [⟨x0.toNat, x1, x2, x3, x4, x5⟩], q5, _, _, by omega, rfl, by simp [hxl], rfl, L6.out, hr2, hg2, he2, by rw [List.map_append, List.flatMap_append, List.map_singleton, List.flatMap_singleton, HCC.out]; exact HO2.out⟩, by show n - ((k : Int) + 1).toNat < n - (k : Int).toNat; omega⟩
        · have hk2 : ¬ ((x0.toNat : Int) = 1) := by omega
          refine k2.number 0 9223372036854775807 (by decide) (by decide) (fun r v w' h hv hg => ?_) (fun x2 q2 V2 h2 kk2 => ?_)
          · exact ⟨rfl, HF.out r v w' (L2.out.trans (bind_no h)) hv hg⟩
          have L4 := Lib.hid (L2.out.trans (bind_ok h2))
          obtain ⟨c2, m2⟩ := kk2.cell 1 _ rfl
          have e2 := kk2.eyeSet
          have lA2 := kk2.lA
          have d0 := ((kk2.set 1 (.int .i64 x2) rfl).cell 0 _ rfl).1
          have K4 := Lib.hid (kk2.set 1 (.int .i64 x2) (cs' := #[.int .i64 x0.toNat, .int .i64 x2, .int .i32 0, .int .i64 x1, .int .i64 0, .int .i64 0, .int .i64 0, .int .i64 0, .int .i64 0, .int .i64 0, .int .i64 0, .int .i64 0, .int .i64 0]) rfl)
          clear h2 kk2 k2 L2
          go_wp2_with fail
          clear c2 m2 e2 lA2
          have k4 := K4.out
          clear K4
          generalize V2.setCell ⟨A, 1, none⟩ (.int .i64 x2) = U4 at *
          have L4 := L4.out
          simp only [if_neg hk1] at L4
          have L4 := Lib.hid (L4.trans (bind_ok (m := PM.pure 0) rfl))
          have HK1 := Lib.hid hk1
          clear hk1 hk2
          refine k4.number 1 9223372036854775807 (by decide) (by decide) (fun r v w' h hv hg => ?_) (fun x4 q4 V4 h4 kk4 => ?_)
          · exact ⟨rfl, HF.out r v w' (L4.out.trans (bind_no h)) hv hg⟩
          have L5 := Lib.hid (L4.out.trans (bind_ok h4))
          obtain ⟨c4, m4⟩ := kk4.cell 4 _ rfl
          have e4 := kk4.eyeSet
          have lA4 := kk4.lA
          have K5 := Lib.hid (kk4.set 4 (.int .i64 x4) (cs' := #[.int .i64 x0.toNat, .int .i64 x2, .int .i32 0, .int .i64 x1, .int .i64 x4, .int .i64 0, .int .i64 0, .int .i64 0, .int .i64 0, .int .i64 0, .int .i64 0, .int .i64 0, .int .i64 0]) rfl)
          clear h4 kk4 k4 L4
          go_wp2_with fail
          clear c4 m4 e4 lA4
          have k5 := K5.out
          clear K5
          generalize V4.setCell ⟨A, 4, none⟩ (.int .i64 x4) = U5 at *
          refine wp_region_held_drew (S := fun w' => w'.cellsAt ⟨B, 0, none⟩ 1 = some [pt R]) (by kernel_rfl) (k5.grew (by repeat (first | with_reducible exact HG.out | with_reducible exact Grew.refl _ | with_reducible assumption | with_reducible apply Grew.plus | with_reducible apply Grew.drewN | with_reducible apply Grew.drew | with_reducible apply Grew.alloc | with_reducible refine Grew.setCell ?_ (by simp [go_sem]; try omega) _))).eye (fun hHeld => ?_)
          refine wpAnyH_take (i := 0) (v := ?_) rfl (by kernel_rfl) (by kernel_rfl) (by kernel_rfl) (by first | exact fun _ _ _ h => h | exact fun _ _ _ h => HQP _ _ _ _ (by rfl) h) (Or.inl ⟨by rfl, ?_⟩) (by assumption) ?_
          rotate_left 1
          · (intro w hSw; (try dsimp only at hSw); go_simp; (try with_reducible rfl))
          (try simp only [List.getElem_toArray, List.getElem_cons_zero, List.getElem_cons_succ])
          (try simp only [Act.put, List.setIfInBounds_toArray, List.set_cons_zero, List.set_cons_succ])
          refine wpAnyH_take (i := 1) (v := ?_) rfl (by kernel_rfl) (by kernel_rfl) (by kernel_rfl) (by first | exact fun _ _ _ h => h | exact fun _ _ _ h => HQP _ _ _ _ (by rfl) h) (Or.inl ⟨by rfl, ?_⟩) (by assumption) ?_
          rotate_left 1
          · (intro w hSw; (try dsimp only at hSw); go_simp; (try with_reducible rfl))
          (try simp only [List.getElem_toArray, List.getElem_cons_zero, List.getElem_cons_succ])
          (try simp only [Act.put, List.setIfInBounds_toArray, List.set_cons_zero, List.set_cons_succ])
          refine wpAnyH_take (i := 2) (v := ?_) rfl (by kernel_rfl) (by kernel_rfl) (by kernel_rfl) (by first | exact fun _ _ _ h => h | exact fun _ _ _ h => HQP _ _ _ _ (by rfl) h) (Or.inl ⟨by rfl, ?_⟩) (by assumption) ?_
          rotate_left 1
          · (intro w hSw; (try dsimp only at hSw); go_simp; (try with_reducible rfl))
          (try simp only [List.getElem_toArray, List.getElem_cons_zero, List.getElem_cons_succ])
          (try simp only [Act.put, List.setIfInBounds_toArray, List.set_cons_zero, List.set_cons_succ])
          refine wpAnyH_ready (rs := [3]) (by kernel_rfl) (by simp) ?_
          refine AllReadyH.cons rfl (fun K hK => ?_) AllReadyH.nil
          go_simp
          go_at_call 88
          refine (k5.grew (by exact by repeat (first | with_reducible exact HG.out | with_reducible exact Grew.refl _ | with_reducible assumption | with_reducible apply Grew.plus | with_reducible apply Grew.drewN | with_reducible apply Grew.drew | with_reducible apply Grew.alloc | with_reducible refine Grew.setCell ?_ (by simp [go_sem]; try omega) _))).row 9223372036854775807 (by decide) (by decide) 5 (by simp) (fun r v w' h hv hg => ?_) (fun x5 q5 V5 h5 kk5 => ?_)
          · exact ⟨rfl, HF.out r v w' (L5.out.trans (bind_no h)) hv hg⟩
          have L6 := Lib.hid (HS.out _ _ (L5.out.trans (bind_ok h5)))
          rw [putRow_clock _ _ _ _ _ _ (pRow_len h5)] at kk5
          refine hK.out _ _ kk5.eye (fun hHeld2 => ?_)
          clear hK K
          (try simp only [Act.put, List.setIfInBounds_toArray, List.set_cons_zero, List.set_cons_succ])
          refine wpAnyH_done (by kernel_rfl) ?_ _
          have hcc : (actRow (actD ⟨x0.toNat, x1, x2, 0, x4, x5⟩)) = [.int .i64 x0.toNat, .int .i64 x2, .int .i32 0, .int .i64 x1, .int .i64 x4, .int .i64 (c8 x5).x0, .int .i64 (c8 x5).x1, .int .i64 (c8 x5).x2, .int .i64 (c8 x5).x3, .int .i64 (c8 x5).x4, .int .i64 (c8 x5).x5, .int .i64 (c8 x5).x6, .int .i64 (c8 x5).x7] := rfl
          generalize c8 x5 = cc at *
          obtain ⟨y0, y1, y2, y3, y4, y5, y6, y7⟩ := cc
          have cA : V5.cellsAt ⟨A, 0, none⟩ 13 = some [.int .i64 x0.toNat, .int .i64 x2, .int .i32 0, .int .i64 x1, .int .i64 x4, .int .i64 y0, .int .i64 y1, .int .i64 y2, .int .i64 y3, .int .i64 y4, .int .i64 y5, .int .i64 y6, .int .i64 y7] := World.cellsAt_block kk5.o 13 rfl
          have HK5 := Lib.hid kk5
          have HCC := Lib.hid hcc
          clear k5 h5 kk5 hHeld hHeld2 L5 HF HS hcc
          go_wp2_with (at_builtin; go_loud (refine wpList_app (by rfl) (.tmp 36) (.tmp 38) 27 (by rfl) elAct (B + 1) _ k ((xs.map actD).flatMap actRow) (by rfl) ((HY.out.2.grewX HK5.out.g (by simpa using hRB)).grew (by exact by repeat (first | with_reducible exact HG.out | with_reducible exact Grew.refl _ | with_reducible assumption | with_reducible apply Grew.plus | with_reducible apply Grew.drewN | with_reducible apply Grew.drew | with_reducible apply Grew.alloc | with_reducible refine Grew.setCell ?_ (by simp [go_sem]; try omega) _))) _ 1 1 #[.int .i64 x0.toNat, .int .i64 x2, .int .i32 0, .int .i64 x1, .int .i64 x4, .int .i64 y0, .int .i64 y1, .int .i64 y2, .int .i64 y3, .int .i64 y4, .int .i64 y5, .int .i64 y6, .int .i64 y7] 112 (by rfl) (heap_alloc_at _ _ _ rfl) (by rfl) (act_ones _ _ _ _ _ _ _ _ _ _ _ _ _) (by omega) (by omega) (by unfold maxLen; omega) w0 (HK5.out.r.g.trans (by exact by repeat (first | with_reducible exact HG.out | with_reducible exact Grew.refl _ | with_reducible assumption | with_reducible apply Grew.plus | with_reducible apply Grew.drewN | with_reducible apply Grew.drew | with_reducible apply Grew.alloc | with_reducible refine Grew.setCell ?_ (by simp [go_sem]; try omega) _))) (by have := HBB.out; omega) (by have := HK5.out.g.size; have := HAA.out; rw [alloc_size1]; omega) ?_); intro g c2 w2 hg2 hown2 hkeep2 hsz2 hat2; have HO2 := Lib.hid hown2; have HG2 := Lib.hid (And.intro hg2 (And.intro hkeep2 hsz2)); clear hown2 hg2 hkeep2 hat2 hsz2)
          obtain ⟨hr2, hg2, he2⟩ := app_close (HK5.out.r.grew ((Grew.refl _).alloc _)) ((HY.out.1.trans HK5.out.g).alloc _) (Grew.heap ((Grew.refl _).alloc _) HK5.out.e) ((HY.out.2.grewX HK5.out.g (by simpa using hRB)).grew ((Grew.refl _).alloc _)) (by have := HBB.out; omega) (by omega) hRB (fun x hx => by have := Hab.out x hx; omega) HG2.out
          exact ⟨⟨k + 1, xs ++ [⟨x0.toNat, x1, x2, 0, x4, x5⟩], q5, _, _, by omega, rfl, by simp [hxl], rfl, L6.out, hr2, hg2, he2, by rw [List.map_append, List.flatMap_append, List.map_singleton, List.flatMap_singleton, HCC.out]; exact HO2.out⟩, by show n - ((k : Int) + 1).toNat < n - (k : Int).toNat; omega⟩
      · have hkn : k = n := by omega
        subst hkn
        have HY := Lib.hid (And.intro hr (And.intro hg ho))
        rw [Nat.sub_self, pLoop_zero] at hl
        clear hr hg ha ho
        go_wp2_with fail
        obtain ⟨hr, hg, ho⟩ := HY.out
        refine bodyPost_ret (v := .slice ar k cp) (by simp [results, Tryz.results55, go_sem]) rfl ⟨hg, ?_⟩
        rw [HL2.out, ← hl]
        exact ⟨⟨ar, cp, by rw [hxl], by rw [hxl]; exact ho.low (by have := HBB.out; omega)⟩, hr⟩
end
end Go.Proofs.YtnhmekdnfinmiaaGreatDoor
