/- A range over a string, its iterator wherever it lies. No program in sight. -/
import Derived.Test.YtkdjejokhbdokaaDoorSl
import Derived.Laws.RangeAny
import Derived.Test.YtkdjejokhbdokaaDoorScrB
namespace Go
open Go.RowKit

/-- A block is written over whole. -/
def World.putObj (w : World) (r : Nat) (o : Obj) : World := { w with heap := w.heap.setIfInBounds r o }
namespace World
variable (w : World) (r : Nat) (o : Obj)
theorem putObj_same (h : r < w.heap.size) : (w.putObj r o).heap[r]? = some o := by simp [putObj, h]
theorem putObj_other (k : Nat) (h : k ≠ r) : (w.putObj r o).heap[k]? = w.heap[k]? := by
  simp only [putObj, Array.getElem?_setIfInBounds]
  rw [if_neg (by omega)]
@[go_sem] theorem putObj_size : (w.putObj r o).heap.size = w.heap.size := by simp [putObj]
end World
theorem Grew.putObj {w a : World} (h : Grew w a) {r : Nat} (hr : w.heap.size ≤ r) (o : Obj) : Grew w (a.putObj r o) := by
  refine Grew.of_parts h.os h.tape h.output (by rw [World.putObj_size]; exact h.size) (fun k hk => ?_)
  rw [World.putObj_other _ _ _ _ (by omega)]
  exact h.block k hk
theorem World.ownsRow.putObj {w : World} {base : Nat} {e : TypeId} {size n : Nat} {v : Value} {xs : List Value} (h : w.ownsRow base e size v n xs) {r : Nat} (hr : v.ownBlock ≠ some r) (o : Obj) : (w.putObj r o).ownsRow base e size v n xs :=
  h.keep fun k hk => World.putObj_other _ _ _ _ (fun e => hr (by rw [hk, e]))
theorem tb_putObj {w : World} {q r : Nat} {o o' : Obj} (hr : q ≠ r) (h : w.heap[q]? = some o) : (w.putObj r o').heap[q]? = some o := by
  rw [World.putObj_other _ _ _ _ hr]; exact h

section
variable {P : Program}
theorem run_next_it (w : World) (r : Nat) (s : ByteArray) (pos : Nat) (ty : TypeId) (hb : w.heap[r]? = some (.stringIter s pos)) (h : pos < s.size) :
    (Instr.next (.pointer (some ⟨r, 0, none⟩)) true ty).run P w = .ok (.tuple #[.bool true, .int .i64 pos, .int .i32 (Utf8.decode s pos).1]) (w.putObj r (.stringIter s (pos + (Utf8.decode s pos).2))) := by
  simp only [Instr.next, getObj, setObj, Sem.run_bind, Sem.run, hb, Result.andThen, h, if_true]
  simp [goInt, World.putObj]
theorem run_next_over (w : World) (r : Nat) (s : ByteArray) (pos : Nat) (ty : TypeId) (hb : w.heap[r]? = some (.stringIter s pos)) (h : ¬ pos < s.size) :
    (Instr.next (.pointer (some ⟨r, 0, none⟩)) true ty).run P w = .ok (.tuple #[.bool false]) w := by
  simp [Instr.next, getObj, Sem.run, hb, h]
end
namespace Scr
/-- The characters from a place on. -/
def runesAt (s : ByteArray) (pos : Nat) : List Int := runesL (s.data.toList.drop pos)
theorem runesAt_cons (s : ByteArray) (pos : Nat) (h : pos < s.size) : runesAt s pos = ((Utf8.decode s pos).1 : Int) :: runesAt s (pos + (Utf8.decode s pos).2) := by
  have hl : s.data.toList.drop pos ≠ [] := by
    intro e
    have := congrArg List.length e
    rw [List.length_drop, Array.length_toList] at this
    have h2 : pos < s.data.size := h
    simp only [List.length_nil] at this; omega
  unfold runesAt
  rw [runesL_cons _ hl, decode_list, List.drop_drop]
theorem runesAt_nil (s : ByteArray) (pos : Nat) (h : ¬ pos < s.size) : runesAt s pos = [] := by
  unfold runesAt
  rw [List.drop_eq_nil_iff.2 (by rw [Array.length_toList]; have h2 : ¬ pos < s.data.size := h; omega)]; rfl
theorem decode_pos (s : ByteArray) (pos : Nat) : 1 ≤ (Utf8.decode s pos).2 := by rw [decode_list]; exact decL_pos _
theorem runesAt_len (s : ByteArray) (pos : Nat) : (runesAt s pos).length ≤ s.size - pos := by
  unfold runesAt
  have := runesL_len (s.data.toList.drop pos)
  rw [List.length_drop, Array.length_toList] at this
  exact this
end Scr
end Go
