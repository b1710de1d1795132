/- Walks: the small functions of layer 18 and of its reference. -/
import Derived.Test.YtkdjejokhbdokaaDoorProg
import Derived.Test.YtkdjejokhbdokaaDoorSl
import Derived.Test.YtkdjejokhbdokaaDoorScrC
namespace Go.Proofs.YtkdjejokhbdokaaDoor
open Go.RowKit
set_option linter.unusedSimpArgs false
set_option linter.unusedVariables false

theorem elByte : Elem Tryd.prog 22 5 1 1 := Elem.of Tryd.underlying22 (by kernel_rfl) (by decide)
theorem elRune : Elem Tryd.prog 38 21 1 4 := Elem.of Tryd.underlying38 (by kernel_rfl) (by decide)
theorem elStep : Elem Tryd.prog 24 28 5 48 := Elem.of Tryd.underlying24 (by kernel_rfl) (by decide)

theorem texts_any (k : Int) (w : World) : Calls Tryd.prog 13 #[.int .i64 k] w fun e w' => e = .returned (.bool (Scr.texts k)) ∧ w = w' := by
  unfold Scr.texts
  by_cases h : k = 0
  · subst h
    go_enter Tryd.func13, Tryd.ntmps13
    go_wp2
    go_ret
    exact ⟨rfl, rfl⟩
  · have h0 : (k == 0) = false := by simpa using h
    go_enter Tryd.func13, Tryd.ntmps13
    go_wp2
    go_ret
    exact ⟨by simp [h], rfl⟩
set_option maxRecDepth 100000 in
theorem char_any (n : Nat) (hn : n < 256) (w : World) : Calls Tryd.prog 14 #[.int .u8 n] w fun e w' => e = .returned (.int .i32 (Scr.letter n)) ∧ w = w' := by
  have h3 := Nat.mod_lt n (show 0 < 26 by omega)
  have hl : Scr.letter n = (if n < 208 then 97 + ((n % 26 : Nat) : Int) else if n < 224 then 10 else if n < 240 then 233 else 19990) := rfl
  have HL := Lib.hid hl
  clear hl
  by_cases h : n < 208
  · go_enter Tryd.func14, Tryd.ntmps14
    go_wp2
    go_ret
    exact ⟨ret_int (by rw [HL.out, if_pos h]; omega), rfl⟩
  · by_cases h1 : n < 224
    · go_enter Tryd.func14, Tryd.ntmps14
      go_wp2
      go_ret
      exact ⟨ret_int (by rw [HL.out, if_neg h, if_pos h1]), rfl⟩
    · by_cases h2 : n < 240
      · go_enter Tryd.func14, Tryd.ntmps14
        go_wp2
        go_ret
        exact ⟨ret_int (by rw [HL.out, if_neg h, if_neg h1, if_pos h2]), rfl⟩
      · go_enter Tryd.func14, Tryd.ntmps14
        go_wp2
        go_ret
        exact ⟨ret_int (by rw [HL.out, if_neg h, if_neg h1, if_neg h2]), rfl⟩
theorem next_nil (q cap : Nat) (a : Option Addr) (t : TypeId) (w : World) (hb : w.heap[q]? = some (.cells #[.slice a 0 cap] t (0, 0))) :
    Calls Tryd.prog 12 #[.pointer (some ⟨q, 0, none⟩)] w fun e w' => e = .returned (.int .u8 0) ∧ w = w' := by
  have hc := (World.own_cell hb 0 _ rfl).1
  clear hb
  go_enter Tryd.func12, Tryd.ntmps12
  go_wp2
  go_ret
  exact ⟨rfl, rfl⟩
theorem next_cons (q cap : Nat) (a : Option Addr) (x : UInt8) (r : List UInt8) (t : TypeId) (w0 w : World) (hb : w.heap[q]? = some (.cells #[.slice a (r.length + 1) cap] t (0, 0))) (hin : CellsIn w0 a (bv (x :: r))) (hg : Grew w0 w) (hcap : r.length + 1 ≤ cap) (hm : cap ≤ 9223372036854775807) :
    Calls Tryd.prog 12 #[.pointer (some ⟨q, 0, none⟩)] w fun e w' => e = .returned (.int .u8 x.toNat) ∧ ∃ a', CellsIn w0 a' (bv r) ∧ w' = w.setCell ⟨q, 0, none⟩ (.slice a' r.length (cap - 1)) := by
  obtain ⟨hc, hz⟩ := World.own_cell hb 0 _ rfl
  clear hb
  obtain ⟨b, off, rfl, hlt, hx⟩ := hin.at' (by simp [bv])
  have hx0 := hx 0 (by simp [bv])
  rw [← hg.cell hlt] at hx0
  simp only [bv, List.map_cons, List.getElem_cons_zero, Nat.add_zero] at hx0
  have hr := hin.drop 1
  simp only [bv, List.map_cons, List.drop_succ_cons, List.drop_zero] at hr
  clear hx hin
  by_cases h1 : cap = 1
  · subst h1
    have hnil : r = [] := List.eq_nil_of_length_eq_zero (by omega)
    subst hnil
    go_enter Tryd.func12, Tryd.ntmps12
    go_wp2
    go_ret
    exact ⟨rfl, _, CellsIn.nil _ _, rfl⟩
  · go_enter Tryd.func12, Tryd.ntmps12
    go_wp2
    go_ret
    refine ⟨rfl, some ⟨b, off + 1, none⟩, hr, ?_⟩
    rfl
theorem setCell_self {w : World} {q : Nat} {u : Value} {t : TypeId} (h : w.heap[q]? = some (.cells #[u] t (0, 0))) : w.setCell ⟨q, 0, none⟩ u = w := by
  obtain ⟨hp, tp, dr, os, out⟩ := w
  simp only [World.setCell]
  congr 1
  apply Array.ext_getElem?
  intro k
  rw [Array.getElem?_modify]
  by_cases hk : q = k
  · subst hk
    simp only [if_true] at h ⊢
    simp only [h, Option.map_some]
    rfl
  · rw [if_neg hk]
/-- The next byte of a tape. -/
theorem next_any (q cap : Nat) (a : Option Addr) (l : List UInt8) (t : TypeId) (w0 w : World) (hb : w.heap[q]? = some (.cells #[.slice a l.length cap] t (0, 0))) (hin : CellsIn w0 a (bv l)) (hg : Grew w0 w) (hcap : l.length ≤ cap) (hm : cap ≤ 9223372036854775807) :
    Calls Tryd.prog 12 #[.pointer (some ⟨q, 0, none⟩)] w fun e w' => e = .returned (.int .u8 (Scr.hd l)) ∧ ∃ a' cap', CellsIn w0 a' (bv (l.drop 1)) ∧ (l.drop 1).length ≤ cap' ∧ cap' ≤ 9223372036854775807 ∧ w' = w.setCell ⟨q, 0, none⟩ (.slice a' (l.drop 1).length cap') := by
  cases l with
  | nil =>
    refine (next_nil q cap a t w hb).mono ?_
    rintro e w' ⟨rfl, rfl⟩
    exact ⟨rfl, a, cap, CellsIn.nil _ _, Nat.zero_le _, hm, (setCell_self hb).symm⟩
  | cons x r =>
    refine (next_cons q cap a x r t w0 w hb hin hg hcap hm).mono ?_
    rintro e w' ⟨rfl, a', h1, rfl⟩
    simp only [List.length_cons] at hcap
    exact ⟨rfl, a', cap - 1, h1, by simp; omega, by omega, rfl⟩
theorem next_of (q cap : Nat) (a : Option Addr) (l : List UInt8) (t : TypeId) (w0 w : World) (hb : w.heap[q]? = some (.cells #[.slice a l.length cap] t (0, 0))) (hin : CellsIn w0 a (bv l)) (hg : Grew w0 w) (hcap : l.length ≤ cap) (hm : cap ≤ 9223372036854775807) :
    Calls Tryd.prog 12 #[.pointer (some ⟨q, 0, none⟩)] w fun e w' => ∃ (n : Nat) (r : List UInt8) (a' : Option Addr) (cap' : Nat), e = .returned (.int .u8 n) ∧ w' = w.setCell ⟨q, 0, none⟩ (.slice a' r.length cap') ∧ n < 256 ∧ Hid (n = Scr.hd l ∧ r = l.drop 1) ∧ CellsIn w0 a' (bv r) ∧ r.length ≤ cap' ∧ cap' ≤ 9223372036854775807 :=
  (next_any q cap a l t w0 w hb hin hg hcap hm).mono fun e w' ⟨he, a', cap', h1, h2, h3, hw⟩ => ⟨_, _, a', cap', he, hw, Scr.hd_lt l, ⟨rfl, rfl⟩, h1, h2, h3⟩
theorem tb_same {w : World} {q : Nat} {u u' : Value} {t : TypeId} (h : w.heap[q]? = some (.cells #[u] t (0, 0))) : (w.setCell ⟨q, 0, none⟩ u').heap[q]? = some (.cells #[u'] t (0, 0)) := by
  simp only [World.setCell, Array.getElem?_modify, if_true, h, Option.map_some]; rfl
theorem tb_other {w : World} {q p i : Nat} {u' : Value} {o : Obj} (hp : q ≠ p) (h : w.heap[q]? = some o) : (w.setCell ⟨p, i, none⟩ u').heap[q]? = some o := by
  rw [World.block_setCell _ _ _ _ hp]; exact h
theorem tb_alloc {w : World} {q : Nat} {o o' : Obj} (h : w.heap[q]? = some o) : (w.alloc o').heap[q]? = some o := by
  rw [heap_alloc_past w o' q (Array.getElem?_eq_some_iff.1 h).1]; exact h
theorem tb_plus {w : World} {x : More} {q : Nat} {o : Obj} (h : w.heap[q]? = some o) : (w.plus x).heap[q]? = some o := by
  rw [World.block_plus w x q (Array.getElem?_eq_some_iff.1 h).1]; exact h
end Go.Proofs.YtkdjejokhbdokaaDoor
