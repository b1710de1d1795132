/- The walk's rules for a clock's and an act's cells: read, folded again, written. -/
import Derived.Test.YthekgpchjonboaaGreatDoorBase
import Derived.Test.YthekgpchjonboaaGreatDoorClk
namespace Go
@[go_sem] theorem C8.cell0 (c : C8) : c.cells[0]? = some (.int .i64 c.x0) := by cases c; rfl
@[go_sem] theorem C8.cell1 (c : C8) : c.cells[1]? = some (.int .i64 c.x1) := by cases c; rfl
@[go_sem] theorem C8.cell2 (c : C8) : c.cells[2]? = some (.int .i64 c.x2) := by cases c; rfl
@[go_sem] theorem C8.cell3 (c : C8) : c.cells[3]? = some (.int .i64 c.x3) := by cases c; rfl
@[go_sem] theorem C8.cell4 (c : C8) : c.cells[4]? = some (.int .i64 c.x4) := by cases c; rfl
@[go_sem] theorem C8.cell5 (c : C8) : c.cells[5]? = some (.int .i64 c.x5) := by cases c; rfl
@[go_sem] theorem C8.cell6 (c : C8) : c.cells[6]? = some (.int .i64 c.x6) := by cases c; rfl
@[go_sem] theorem C8.cell7 (c : C8) : c.cells[7]? = some (.int .i64 c.x7) := by cases c; rfl
@[go_sem] theorem C8.fold (c : C8) : (#[.int .i64 c.x0, .int .i64 c.x1, .int .i64 c.x2, .int .i64 c.x3, .int .i64 c.x4, .int .i64 c.x5, .int .i64 c.x6, .int .i64 c.x7] : Array Value) = c.cells := by cases c; rfl
@[go_sem] theorem C8.toList_cells (c : C8) : c.cells.toList = [.int .i64 c.x0, .int .i64 c.x1, .int .i64 c.x2, .int .i64 c.x3, .int .i64 c.x4, .int .i64 c.x5, .int .i64 c.x6, .int .i64 c.x7] := by cases c; rfl
@[go_sem] theorem C8.size_cells' (c : C8) : c.cells.size = 8 := by cases c; rfl
@[go_sem] theorem ActD.cell0 (c : ActD) : c.cells[0]? = some (.int .i64 c.kind) := by cases c; rfl
@[go_sem] theorem ActD.cell1 (c : ActD) : c.cells[1]? = some (.int .i64 c.place) := by cases c; rfl
@[go_sem] theorem ActD.cell2 (c : ActD) : c.cells[2]? = some (.int .i32 c.char) := by cases c; rfl
@[go_sem] theorem ActD.cell3 (c : ActD) : c.cells[3]? = some (.int .i64 c.replica) := by cases c; rfl
@[go_sem] theorem ActD.cell4 (c : ActD) : c.cells[4]? = some (.int .i64 c.number) := by cases c; rfl
@[go_sem] theorem ActD.cell5 (c : ActD) : c.cells[5]? = some (.int .i64 c.clock.x0) := by cases c; rfl
@[go_sem] theorem ActD.cell6 (c : ActD) : c.cells[6]? = some (.int .i64 c.clock.x1) := by cases c; rfl
@[go_sem] theorem ActD.cell7 (c : ActD) : c.cells[7]? = some (.int .i64 c.clock.x2) := by cases c; rfl
@[go_sem] theorem ActD.cell8 (c : ActD) : c.cells[8]? = some (.int .i64 c.clock.x3) := by cases c; rfl
@[go_sem] theorem ActD.cell9 (c : ActD) : c.cells[9]? = some (.int .i64 c.clock.x4) := by cases c; rfl
@[go_sem] theorem ActD.cell10 (c : ActD) : c.cells[10]? = some (.int .i64 c.clock.x5) := by cases c; rfl
@[go_sem] theorem ActD.cell11 (c : ActD) : c.cells[11]? = some (.int .i64 c.clock.x6) := by cases c; rfl
@[go_sem] theorem ActD.cell12 (c : ActD) : c.cells[12]? = some (.int .i64 c.clock.x7) := by cases c; rfl
@[go_sem] theorem ActD.at0 (c : ActD) (h : 0 < c.cells.size) : c.cells[0]'h = .int .i64 c.kind := by cases c; rfl
@[go_sem] theorem ActD.at1 (c : ActD) (h : 1 < c.cells.size) : c.cells[1]'h = .int .i64 c.place := by cases c; rfl
@[go_sem] theorem ActD.at2 (c : ActD) (h : 2 < c.cells.size) : c.cells[2]'h = .int .i32 c.char := by cases c; rfl
@[go_sem] theorem ActD.at3 (c : ActD) (h : 3 < c.cells.size) : c.cells[3]'h = .int .i64 c.replica := by cases c; rfl
@[go_sem] theorem ActD.at4 (c : ActD) (h : 4 < c.cells.size) : c.cells[4]'h = .int .i64 c.number := by cases c; rfl
@[go_sem] theorem ActD.at5 (c : ActD) (h : 5 < c.cells.size) : c.cells[5]'h = .int .i64 c.clock.x0 := by cases c; rfl
@[go_sem] theorem ActD.at6 (c : ActD) (h : 6 < c.cells.size) : c.cells[6]'h = .int .i64 c.clock.x1 := by cases c; rfl
@[go_sem] theorem ActD.at7 (c : ActD) (h : 7 < c.cells.size) : c.cells[7]'h = .int .i64 c.clock.x2 := by cases c; rfl
@[go_sem] theorem ActD.at8 (c : ActD) (h : 8 < c.cells.size) : c.cells[8]'h = .int .i64 c.clock.x3 := by cases c; rfl
@[go_sem] theorem ActD.at9 (c : ActD) (h : 9 < c.cells.size) : c.cells[9]'h = .int .i64 c.clock.x4 := by cases c; rfl
@[go_sem] theorem ActD.at10 (c : ActD) (h : 10 < c.cells.size) : c.cells[10]'h = .int .i64 c.clock.x5 := by cases c; rfl
@[go_sem] theorem ActD.at11 (c : ActD) (h : 11 < c.cells.size) : c.cells[11]'h = .int .i64 c.clock.x6 := by cases c; rfl
@[go_sem] theorem ActD.at12 (c : ActD) (h : 12 < c.cells.size) : c.cells[12]'h = .int .i64 c.clock.x7 := by cases c; rfl
@[go_sem] theorem ActD.fold (c : ActD) : (#[.int .i64 c.kind, .int .i64 c.place, .int .i32 c.char, .int .i64 c.replica, .int .i64 c.number, .int .i64 c.clock.x0, .int .i64 c.clock.x1, .int .i64 c.clock.x2, .int .i64 c.clock.x3, .int .i64 c.clock.x4, .int .i64 c.clock.x5, .int .i64 c.clock.x6, .int .i64 c.clock.x7] : Array Value) = c.cells := by cases c; rfl
@[go_sem] theorem ActD.toList_cells (c : ActD) : c.cells.toList = [.int .i64 c.kind, .int .i64 c.place, .int .i32 c.char, .int .i64 c.replica, .int .i64 c.number, .int .i64 c.clock.x0, .int .i64 c.clock.x1, .int .i64 c.clock.x2, .int .i64 c.clock.x3, .int .i64 c.clock.x4, .int .i64 c.clock.x5, .int .i64 c.clock.x6, .int .i64 c.clock.x7] := by cases c; rfl
@[go_sem] theorem ActD.size_cells' (c : ActD) : c.cells.size = 13 := by cases c; rfl
@[go_sem] theorem ActD.part_clock (c : ActD) : c.cells.extract 5 13 = c.clock.cells := by cases c; rfl
@[go_sem] theorem C8.put0 (c : C8) (v : Value) : c.cells.setIfInBounds 0 v = #[v, .int .i64 c.x1, .int .i64 c.x2, .int .i64 c.x3, .int .i64 c.x4, .int .i64 c.x5, .int .i64 c.x6, .int .i64 c.x7] := by cases c; rfl
@[go_sem] theorem C8.put1 (c : C8) (v : Value) : c.cells.setIfInBounds 1 v = #[.int .i64 c.x0, v, .int .i64 c.x2, .int .i64 c.x3, .int .i64 c.x4, .int .i64 c.x5, .int .i64 c.x6, .int .i64 c.x7] := by cases c; rfl
@[go_sem] theorem C8.put2 (c : C8) (v : Value) : c.cells.setIfInBounds 2 v = #[.int .i64 c.x0, .int .i64 c.x1, v, .int .i64 c.x3, .int .i64 c.x4, .int .i64 c.x5, .int .i64 c.x6, .int .i64 c.x7] := by cases c; rfl
@[go_sem] theorem C8.put3 (c : C8) (v : Value) : c.cells.setIfInBounds 3 v = #[.int .i64 c.x0, .int .i64 c.x1, .int .i64 c.x2, v, .int .i64 c.x4, .int .i64 c.x5, .int .i64 c.x6, .int .i64 c.x7] := by cases c; rfl
@[go_sem] theorem C8.put4 (c : C8) (v : Value) : c.cells.setIfInBounds 4 v = #[.int .i64 c.x0, .int .i64 c.x1, .int .i64 c.x2, .int .i64 c.x3, v, .int .i64 c.x5, .int .i64 c.x6, .int .i64 c.x7] := by cases c; rfl
@[go_sem] theorem C8.put5 (c : C8) (v : Value) : c.cells.setIfInBounds 5 v = #[.int .i64 c.x0, .int .i64 c.x1, .int .i64 c.x2, .int .i64 c.x3, .int .i64 c.x4, v, .int .i64 c.x6, .int .i64 c.x7] := by cases c; rfl
@[go_sem] theorem C8.put6 (c : C8) (v : Value) : c.cells.setIfInBounds 6 v = #[.int .i64 c.x0, .int .i64 c.x1, .int .i64 c.x2, .int .i64 c.x3, .int .i64 c.x4, .int .i64 c.x5, v, .int .i64 c.x7] := by cases c; rfl
@[go_sem] theorem C8.put7 (c : C8) (v : Value) : c.cells.setIfInBounds 7 v = #[.int .i64 c.x0, .int .i64 c.x1, .int .i64 c.x2, .int .i64 c.x3, .int .i64 c.x4, .int .i64 c.x5, .int .i64 c.x6, v] := by cases c; rfl
@[go_sem] theorem C8.at_get (c : C8) (k : Nat) (h : k < c.cells.size) : c.cells[k]'h = .int .i64 (c.get k) := by
  have := c.cells_get k (by rw [C8.size_cells'] at h; exact h)
  rw [Array.getElem?_eq_getElem h] at this
  exact Option.some.inj this
@[go_sem] theorem ActD.at_clock (c : ActD) (k : Nat) (h : 5 + k < c.cells.size) : c.cells[5 + k]'h = .int .i64 (c.clock.get k) := by
  have := c.cells_clock k (by have h' : 5 + k < 13 := by rw [ActD.size_cells'] at h; exact h
                              omega)
  rw [Array.getElem?_eq_getElem h] at this
  exact Option.some.inj this
@[go_sem] theorem C8.get0 (c : C8) : c.get 0 = c.x0 := by cases c; rfl
@[go_sem] theorem C8.get1 (c : C8) : c.get 1 = c.x1 := by cases c; rfl
@[go_sem] theorem C8.get2 (c : C8) : c.get 2 = c.x2 := by cases c; rfl
@[go_sem] theorem C8.get3 (c : C8) : c.get 3 = c.x3 := by cases c; rfl
@[go_sem] theorem C8.get4 (c : C8) : c.get 4 = c.x4 := by cases c; rfl
@[go_sem] theorem C8.get5 (c : C8) : c.get 5 = c.x5 := by cases c; rfl
@[go_sem] theorem C8.get6 (c : C8) : c.get 6 = c.x6 := by cases c; rfl
@[go_sem] theorem C8.get7 (c : C8) : c.get 7 = c.x7 := by cases c; rfl
end Go
