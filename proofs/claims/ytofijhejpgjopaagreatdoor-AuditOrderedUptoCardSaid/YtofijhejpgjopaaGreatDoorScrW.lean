/- Walks: the small functions of layer 18 and of its reference. -/
import Derived.Test.YtofijhejpgjopaaGreatDoorProg
import Derived.Test.YtofijhejpgjopaaGreatDoorSl
import Derived.Test.YtofijhejpgjopaaGreatDoorScrC
namespace Go.Proofs.YtofijhejpgjopaaGreatDoor
open Go.RowKit
set_option linter.unusedSimpArgs false
set_option linter.unusedVariables false

theorem elByte : Elem Tryz.prog 114 5 1 1 := Elem.of Tryz.underlying114 (by kernel_rfl) (by decide)
theorem elRune : Elem Tryz.prog 76 21 1 4 := Elem.of Tryz.underlying76 (by kernel_rfl) (by decide)
theorem setCell_self {w : World} {q : Nat} {u : Value} {t : TypeId} (h : w.heap[q]? = some (.cells #[u] t (0, 0))) : w.setCell ⟨q, 0, none⟩ u = w := by
  obtain ⟨hp, tp, dr, os, out⟩ := w
  simp only [World.setCell]
  congr 1
  apply Array.ext_getElem?
  intro k
  rw [Array.getElem?_modify]
  by_cases hk : q = k
  · subst hk
    simp only [if_true] at h ⊢
    simp only [h, Option.map_some]
    rfl
  · rw [if_neg hk]
theorem tb_same {w : World} {q : Nat} {u u' : Value} {t : TypeId} (h : w.heap[q]? = some (.cells #[u] t (0, 0))) : (w.setCell ⟨q, 0, none⟩ u').heap[q]? = some (.cells #[u'] t (0, 0)) := by
  simp only [World.setCell, Array.getElem?_modify, if_true, h, Option.map_some]; rfl
theorem tb_other {w : World} {q p i : Nat} {u' : Value} {o : Obj} (hp : q ≠ p) (h : w.heap[q]? = some o) : (w.setCell ⟨p, i, none⟩ u').heap[q]? = some o := by
  rw [World.block_setCell _ _ _ _ hp]; exact h
theorem tb_alloc {w : World} {q : Nat} {o o' : Obj} (h : w.heap[q]? = some o) : (w.alloc o').heap[q]? = some o := by
  rw [heap_alloc_past w o' q (Array.getElem?_eq_some_iff.1 h).1]; exact h
theorem tb_plus {w : World} {x : More} {q : Nat} {o : Obj} (h : w.heap[q]? = some o) : (w.plus x).heap[q]? = some o := by
  rw [World.block_plus w x q (Array.getElem?_eq_some_iff.1 h).1]; exact h
end Go.Proofs.YtofijhejpgjopaaGreatDoor
