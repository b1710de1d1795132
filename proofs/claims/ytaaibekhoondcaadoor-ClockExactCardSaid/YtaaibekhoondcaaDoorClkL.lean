/- The walk's rules for a clock's cells: read, folded again, written. -/
import Derived.Test.YtaaibekhoondcaaDoorBase
import Derived.Test.YtaaibekhoondcaaDoorClk
namespace Go
@[go_sem] theorem C8.cell0 (c : C8) : c.cells[0]? = some (.int .i64 c.x0) := rfl
@[go_sem] theorem C8.cell1 (c : C8) : c.cells[1]? = some (.int .i64 c.x1) := rfl
@[go_sem] theorem C8.cell2 (c : C8) : c.cells[2]? = some (.int .i64 c.x2) := rfl
@[go_sem] theorem C8.cell3 (c : C8) : c.cells[3]? = some (.int .i64 c.x3) := rfl
@[go_sem] theorem C8.cell4 (c : C8) : c.cells[4]? = some (.int .i64 c.x4) := rfl
@[go_sem] theorem C8.cell5 (c : C8) : c.cells[5]? = some (.int .i64 c.x5) := rfl
@[go_sem] theorem C8.cell6 (c : C8) : c.cells[6]? = some (.int .i64 c.x6) := rfl
@[go_sem] theorem C8.cell7 (c : C8) : c.cells[7]? = some (.int .i64 c.x7) := rfl
@[go_sem] theorem C8.fold (c : C8) : (#[.int .i64 c.x0, .int .i64 c.x1, .int .i64 c.x2, .int .i64 c.x3, .int .i64 c.x4, .int .i64 c.x5, .int .i64 c.x6, .int .i64 c.x7] : Array Value) = c.cells := rfl
@[go_sem] theorem C8.toList_cells (c : C8) : c.cells.toList = [.int .i64 c.x0, .int .i64 c.x1, .int .i64 c.x2, .int .i64 c.x3, .int .i64 c.x4, .int .i64 c.x5, .int .i64 c.x6, .int .i64 c.x7] := rfl
@[go_sem] theorem C8.size_cells' (c : C8) : c.cells.size = 8 := rfl
@[go_sem] theorem ActD.cell0 (c : ActD) : c.cells[0]? = some (.int .i64 c.kind) := rfl
@[go_sem] theorem ActD.cell1 (c : ActD) : c.cells[1]? = some (.int .i64 c.place) := rfl
@[go_sem] theorem ActD.cell2 (c : ActD) : c.cells[2]? = some (.int .i32 c.char) := rfl
@[go_sem] theorem ActD.cell3 (c : ActD) : c.cells[3]? = some (.int .i64 c.replica) := rfl
@[go_sem] theorem ActD.cell4 (c : ActD) : c.cells[4]? = some (.int .i64 c.number) := rfl
@[go_sem] theorem ActD.cell5 (c : ActD) : c.cells[5]? = some (.int .i64 c.clock.x0) := rfl
@[go_sem] theorem ActD.cell6 (c : ActD) : c.cells[6]? = some (.int .i64 c.clock.x1) := rfl
@[go_sem] theorem ActD.cell7 (c : ActD) : c.cells[7]? = some (.int .i64 c.clock.x2) := rfl
@[go_sem] theorem ActD.cell8 (c : ActD) : c.cells[8]? = some (.int .i64 c.clock.x3) := rfl
@[go_sem] theorem ActD.cell9 (c : ActD) : c.cells[9]? = some (.int .i64 c.clock.x4) := rfl
@[go_sem] theorem ActD.cell10 (c : ActD) : c.cells[10]? = some (.int .i64 c.clock.x5) := rfl
@[go_sem] theorem ActD.cell11 (c : ActD) : c.cells[11]? = some (.int .i64 c.clock.x6) := rfl
@[go_sem] theorem ActD.cell12 (c : ActD) : c.cells[12]? = some (.int .i64 c.clock.x7) := rfl
@[go_sem] theorem ActD.fold (c : ActD) : (#[.int .i64 c.kind, .int .i64 c.place, .int .i32 c.char, .int .i64 c.replica, .int .i64 c.number, .int .i64 c.clock.x0, .int .i64 c.clock.x1, .int .i64 c.clock.x2, .int .i64 c.clock.x3, .int .i64 c.clock.x4, .int .i64 c.clock.x5, .int .i64 c.clock.x6, .int .i64 c.clock.x7] : Array Value) = c.cells := rfl
@[go_sem] theorem ActD.toList_cells (c : ActD) : c.cells.toList = [.int .i64 c.kind, .int .i64 c.place, .int .i32 c.char, .int .i64 c.replica, .int .i64 c.number, .int .i64 c.clock.x0, .int .i64 c.clock.x1, .int .i64 c.clock.x2, .int .i64 c.clock.x3, .int .i64 c.clock.x4, .int .i64 c.clock.x5, .int .i64 c.clock.x6, .int .i64 c.clock.x7] := rfl
@[go_sem] theorem ActD.size_cells' (c : ActD) : c.cells.size = 13 := rfl
end Go
