/- General lemmas: a world that has grown by new blocks and draws alone ('World.plus'), and the region law over that class of worlds. No program in sight. -/
import Derived.WalkKit
import Derived.WalkLawsBesides
import Derived.WalkSpells
import Derived.Below
import Derived.Laws.AppendOwn
import Derived.Deep.QuietTactic
import Derived.BigQuiet
import Derived.WalkSmall
import Derived.Lib.Hide
import Derived.Outline
namespace Go

/-- What a world has grown by: new blocks, and how many draws have been made in all. -/
structure More where
  blocks : Array Obj
  drawn : Nat
deriving Inhabited

def World.plus (w : World) (x : More) : World := { w with heap := w.heap ++ x.blocks, drawn := x.drawn }

namespace World
variable (w : World) (x : More) (a : Addr)

theorem heap_plus : (w.plus x).heap = w.heap ++ x.blocks := rfl
@[go_sem] theorem size_plus : (w.plus x).heap.size = w.heap.size + x.blocks.size := by simp [heap_plus]
/-- n lies among the places that have come last: never looked into. -/
def Late (n m k : Nat) : Prop := m ≤ n ∧ n < m + k
def Late' (n m k : Nat) : Prop := m < n ∧ n ≤ m + k
theorem lt_late (n m k : Nat) : (n < m + k) = (n < m ∨ Late n m k) := by unfold Late; rw [eq_iff_iff]; omega
theorem le_late (n m k : Nat) : (n ≤ m + k) = (n ≤ m ∨ Late' n m k) := by unfold Late'; rw [eq_iff_iff]; omega
@[go_sem] theorem lt_more0 (n m : Nat) : (n < m + x.blocks.size) = (n < m ∨ Late n m (x.blocks.size + 0)) := by unfold Late; rw [eq_iff_iff]; omega
@[go_sem] theorem le_more0 (n m : Nat) : (n ≤ m + x.blocks.size) = (n ≤ m ∨ Late' n m (x.blocks.size + 0)) := by unfold Late'; rw [eq_iff_iff]; omega
@[go_sem] theorem lt_more1 (n m : Nat) : (n < m + x.blocks.size + 1) = (n < m ∨ Late n m (x.blocks.size + 1)) := by unfold Late; rw [eq_iff_iff]; omega
@[go_sem] theorem le_more1 (n m : Nat) : (n ≤ m + x.blocks.size + 1) = (n ≤ m ∨ Late' n m (x.blocks.size + 1)) := by unfold Late'; rw [eq_iff_iff]; omega
@[go_sem] theorem lt_more2 (n m : Nat) : (n < m + x.blocks.size + 1 + 1) = (n < m ∨ Late n m (x.blocks.size + 2)) := by unfold Late; rw [eq_iff_iff]; omega
@[go_sem] theorem le_more2 (n m : Nat) : (n ≤ m + x.blocks.size + 1 + 1) = (n ≤ m ∨ Late' n m (x.blocks.size + 2)) := by unfold Late'; rw [eq_iff_iff]; omega
@[go_sem] theorem lt_more3 (n m : Nat) : (n < m + x.blocks.size + 1 + 1 + 1) = (n < m ∨ Late n m (x.blocks.size + 3)) := by unfold Late; rw [eq_iff_iff]; omega
@[go_sem] theorem le_more3 (n m : Nat) : (n ≤ m + x.blocks.size + 1 + 1 + 1) = (n ≤ m ∨ Late' n m (x.blocks.size + 3)) := by unfold Late'; rw [eq_iff_iff]; omega
@[go_sem] theorem lt_more4 (n m : Nat) : (n < m + x.blocks.size + 1 + 1 + 1 + 1) = (n < m ∨ Late n m (x.blocks.size + 4)) := by unfold Late; rw [eq_iff_iff]; omega
@[go_sem] theorem le_more4 (n m : Nat) : (n ≤ m + x.blocks.size + 1 + 1 + 1 + 1) = (n ≤ m ∨ Late' n m (x.blocks.size + 4)) := by unfold Late'; rw [eq_iff_iff]; omega
@[go_sem] theorem lt_more5 (n m : Nat) : (n < m + x.blocks.size + 1 + 1 + 1 + 1 + 1) = (n < m ∨ Late n m (x.blocks.size + 5)) := by unfold Late; rw [eq_iff_iff]; omega
@[go_sem] theorem le_more5 (n m : Nat) : (n ≤ m + x.blocks.size + 1 + 1 + 1 + 1 + 1) = (n ≤ m ∨ Late' n m (x.blocks.size + 5)) := by unfold Late'; rw [eq_iff_iff]; omega
@[go_sem] theorem tape_plus : (w.plus x).tape = w.tape := rfl
@[go_sem] theorem os_plus : (w.plus x).os = w.os := rfl
@[go_sem] theorem output_plus : (w.plus x).output = w.output := rfl

theorem block_plus (i : Nat) (h : i < w.heap.size) : (w.plus x).heap[i]? = w.heap[i]? := by
  rw [heap_plus, Array.getElem?_append_left h]

theorem cell?_plus_lt (h : a.block < w.heap.size) : (w.plus x).cell? a = w.cell? a := by
  simp only [World.cell?, block_plus w x _ h]
theorem frozen?_plus_lt (h : a.block < w.heap.size) : (w.plus x).frozen? a = w.frozen? a := by
  simp only [World.frozen?, block_plus w x _ h]
theorem cell?_plus (h : (w.cell? a).isSome = true) : (w.plus x).cell? a = w.cell? a := by
  obtain ⟨u, hu⟩ := Option.isSome_iff_exists.1 h
  exact cell?_plus_lt w x a (World.block_lt_of_cell? w a hu)
/-- What a cell of the new blocks holds. -/
def newCell? (w : World) (x : More) (a : Addr) : Option Value := if a.block < w.heap.size then none else (w.plus x).cell? a
/-- Without a condition: so that the walk's simp needs no proof under a proof. -/
@[go_sem] theorem cell?_plus_or : (w.plus x).cell? a = (w.cell? a).or (w.newCell? x a) := by
  unfold newCell?
  by_cases h : a.block < w.heap.size
  · rw [if_pos h, cell?_plus_lt w x a h]; simp
  · rw [if_neg h]
    have : w.cell? a = none := by
      have hn : w.heap[a.block]? = none := by simp; omega
      simp [World.cell?, hn]
    rw [this]; simp
@[go_sem] theorem frozen?_plus (h : (w.cell? a).isSome = true) : (w.plus x).frozen? a = w.frozen? a := by
  obtain ⟨u, hu⟩ := Option.isSome_iff_exists.1 h
  exact frozen?_plus_lt w x a (World.block_lt_of_cell? w a hu)

theorem plus_plus (y : More) : (w.plus x).plus y = w.plus ⟨x.blocks ++ y.blocks, y.drawn⟩ := by
  simp [World.plus, Array.append_assoc]
theorem plus_none : w.plus ⟨#[], w.drawn⟩ = w := by simp [World.plus]
theorem plus_drew : (w.plus x).drew = w.plus ⟨x.blocks, x.drawn + 1⟩ := rfl
theorem plus_drewN (n : Nat) : (w.plus x).drewN n = w.plus ⟨x.blocks, x.drawn + n⟩ := by
  simp [World.plus, World.drewN]
@[go_sem] theorem setCell_drewN (n : Nat) (v : Value) : (w.drewN n).setCell a v = (w.setCell a v).drewN n := rfl
@[go_sem] theorem alloc_drewN (n : Nat) (o : Obj) : (w.drewN n).alloc o = (w.alloc o).drewN n := rfl
@[go_sem] theorem setCell_plus (v : Value) (h : a.block < w.heap.size) : (w.plus x).setCell a v = (w.setCell a v).plus x := by
  simp only [World.setCell, World.plus]
  congr 1
  apply Array.ext_getElem?
  intro k
  by_cases hk : k < w.heap.size
  · rw [Array.getElem?_append_left (by simpa using hk)]
    simp only [Array.getElem?_modify]
    rw [Array.getElem?_append_left hk]
  · rw [Array.getElem?_append_right (by simpa using hk)]
    simp only [Array.getElem?_modify, Array.size_modify]
    rw [if_neg (by omega), Array.getElem?_append_right (by omega)]
end World

/-- The n cells from an address on, if all are there. -/
def World.cellsAt (w : World) (a : Addr) : Nat → Option (List Value)
  | 0 => some []
  | n + 1 => (w.cell? a).bind fun v => (World.cellsAt w ⟨a.block, a.off + 1, none⟩ n).map (v :: ·)

namespace World
theorem cellsAt_some {w : World} : ∀ {n : Nat} {a : Addr} {cs : List Value}, w.cellsAt a n = some cs → cs.length = n ∧ (a.spot = none → ∀ i, i < n → w.cell? ⟨a.block, a.off + i, none⟩ = cs[i]?)
  | 0, a, cs, h => by
    simp only [cellsAt, Option.some.injEq] at h
    subst h; exact ⟨rfl, fun _ i hi => absurd hi (Nat.not_lt_zero _)⟩
  | n + 1, a, cs, h => by
    simp only [cellsAt] at h
    cases hc : w.cell? a with
    | none => simp [hc] at h
    | some v =>
      simp only [hc, Option.bind_some] at h
      cases hr : World.cellsAt w ⟨a.block, a.off + 1, none⟩ n with
      | none => simp [hr] at h
      | some r =>
        simp only [hr, Option.map_some, Option.some.injEq] at h
        subst h
        obtain ⟨h1, h2⟩ := cellsAt_some hr
        refine ⟨by simp [h1], fun hs i hi => ?_⟩
        cases i with
        | zero =>
          obtain ⟨b, o, sp⟩ := a
          simp only at hs; subst hs
          simpa using hc
        | succ i =>
          have := h2 rfl i (by omega)
          simp only [List.getElem?_cons_succ]
          rw [← this]
          show w.cell? ⟨a.block, a.off + (i + 1), none⟩ = w.cell? ⟨a.block, a.off + 1 + i, none⟩
          rw [show a.off + (i + 1) = a.off + 1 + i by omega]
theorem cellsAt_of {w : World} {b : Nat} : ∀ {n : Nat} {o : Nat} {cs : List Value}, cs.length = n → (∀ i, i < n → w.cell? ⟨b, o + i, none⟩ = cs[i]?) → w.cellsAt ⟨b, o, none⟩ n = some cs
  | 0, o, cs, hl, _ => by
    have : cs = [] := by simpa using hl
    subst this; rfl
  | n + 1, o, [], hl, _ => by simp at hl
  | n + 1, o, c :: cs, hl, h => by
    have h0 := h 0 (by omega)
    simp only [Nat.add_zero, List.getElem?_cons_zero] at h0
    have h1 := cellsAt_of (w := w) (b := b) (n := n) (o := o + 1) (cs := cs) (by simpa using hl) (fun i hi => by
      have := h (i + 1) (by omega)
      rw [List.getElem?_cons_succ] at this
      rw [← this]; congr 2; omega)
    simp only [cellsAt, h0, Option.bind_some, h1, Option.map_some]
theorem cellsAt_cell {w : World} {b o n : Nat} {cs : List Value} (h : w.cellsAt ⟨b, o, none⟩ n = some cs) (i : Nat) (hi : i < n) : w.cell? ⟨b, o + i, none⟩ = cs[i]? :=
  (cellsAt_some h).2 rfl i hi
theorem cellsAt_sub {w : World} {b o n : Nat} {cs : List Value} (h : w.cellsAt ⟨b, o, none⟩ n = some cs) (i m : Nat) (hi : i + m ≤ n) : w.cellsAt ⟨b, o + i, none⟩ m = some ((cs.drop i).take m) := by
  obtain ⟨h1, h2⟩ := cellsAt_some h
  refine cellsAt_of (by simp; omega) (fun j hj => ?_)
  have := h2 rfl (i + j) (by omega)
  rw [List.getElem?_take_of_lt hj, List.getElem?_drop, ← this, Nat.add_assoc]
theorem cellsAt_congr {w w' : World} : ∀ (n : Nat) (a : Addr), (∀ o s, w'.cell? ⟨a.block, o, s⟩ = w.cell? ⟨a.block, o, s⟩) → w'.cellsAt a n = w.cellsAt a n
  | 0, _, _ => rfl
  | n + 1, a, h => by
    simp only [cellsAt]
    rw [show w'.cell? a = w.cell? a from h a.off a.spot, cellsAt_congr n ⟨a.block, a.off + 1, none⟩ h]
variable (w : World) (x : More) (a : Addr)
def newCellsAt? (w : World) (x : More) (a : Addr) (n : Nat) : Option (List Value) := (w.plus x).cellsAt a n
@[go_sem] theorem cellsAt_plus (n : Nat) : (w.plus x).cellsAt a n = (w.cellsAt a n).or (w.newCellsAt? x a n) := by
  unfold newCellsAt?
  cases h : w.cellsAt a n with
  | none => simp
  | some cs =>
    cases n with
    | zero => simp only [cellsAt] at h ⊢; simpa using h
    | succ n =>
      have hb : a.block < w.heap.size := by
        simp only [cellsAt] at h
        cases hc : w.cell? a with
        | none => simp [hc] at h
        | some v => exact World.block_lt_of_cell? w a hc
      rw [cellsAt_congr (w := w) (n + 1) a (fun o s => cell?_plus_lt w x ⟨a.block, o, s⟩ hb), h]; simp
@[go_sem] theorem cellsAt_drewN (m n : Nat) : (w.drewN m).cellsAt a n = w.cellsAt a n := cellsAt_congr n a (fun _ _ => rfl)
@[go_sem] theorem cellsAt_drew (n : Nat) : w.drew.cellsAt a n = w.cellsAt a n := cellsAt_congr n a (fun _ _ => rfl)
@[go_sem] theorem cellsAt_alloc_past (o : Obj) (m i n : Nat) (hm : m < w.heap.size) : (w.alloc o).cellsAt ⟨m, i, none⟩ n = w.cellsAt ⟨m, i, none⟩ n :=
  cellsAt_congr n _ (fun _ _ => World.cell?_alloc_lt w o _ hm)
@[go_sem] theorem cellsAt_alloc_whole (c : Array Value) (t : TypeId) (m n : Nat) (hm : m = w.heap.size) (hn : c.size = n) : (w.alloc (.cells c t)).cellsAt ⟨m, 0, none⟩ n = some c.toList :=
  cellsAt_of (by simpa using hn) (fun i hi => by rw [World.cell?_alloc_at c t m (0 + i) hm]; simp)
def newBlockAt? (w : World) (o : Obj) (a : Addr) (n : Nat) : Option (List Value) := (w.alloc o).cellsAt a n
@[go_sem 50] theorem cellsAt_alloc_or (o : Obj) (n : Nat) : (w.alloc o).cellsAt a n = (w.cellsAt a n).or (w.newBlockAt? o a n) := by
  unfold newBlockAt?
  cases h : w.cellsAt a n with
  | none => simp
  | some cs =>
    cases n with
    | zero => simp only [cellsAt] at h ⊢; simpa using h
    | succ n =>
      have hb : a.block < w.heap.size := by
        simp only [cellsAt] at h
        cases hc : w.cell? a with
        | none => simp [hc] at h
        | some v => exact World.block_lt_of_cell? w a hc
      rw [cellsAt_congr (w := w) (n + 1) a (fun o s => World.cell?_alloc_lt w _ _ hb), h]; simp
@[go_sem] theorem cellsAt_setCell_other (p : Addr) (v : Value) (n : Nat) (h : p.block ≠ a.block) : (w.setCell p v).cellsAt a n = w.cellsAt a n :=
  cellsAt_congr n a (fun o s => World.cell?_setCell_other w p ⟨a.block, o, s⟩ v (fun e => h (by rw [e])))
@[go_sem low] theorem cellsAt_alloc_part (c : Array Value) (t : TypeId) (m i n : Nat) (hm : m = w.heap.size) (hn : i + n ≤ c.size) : (w.alloc (.cells c t)).cellsAt ⟨m, i, none⟩ n = some (c.extract i (i + n)).toList :=
  cellsAt_of (by simp; omega) (fun j hj => by
    rw [World.cell?_alloc_at c t m (i + j) hm]
    simp only [Array.getElem?_toList, Array.getElem?_extract]
    rw [if_pos (by omega)])
end World

/-- The model's load under another name: the walk's simp takes it whole, by the rule below. -/
def loadRows (t : TypeId) (v : Value) : Sem Value := Instr.loadAt t v
@[go_sem ↓] theorem loadAt_is (t : TypeId) (v : Value) : Instr.loadAt t v = loadRows t v := rfl
@[go_sem] theorem run_loadAt_rows {P : Program} (t : TypeId) (a : Addr) (w : World) :
    (loadRows t (.pointer (some a))).run P w = ((isAgg t).run P w).andThen fun b w => if b then ((sizeOf t).run P w).andThen fun n w =>
        match (if a.spot = none then w.cellsAt a n else none) with
        | some cs => .ok (.agg cs.toArray) w
        | none => ((loadCells a n).run P w).andThen fun cs w => .ok (.agg cs) w
      else (load a).run P w := by
  simp only [loadRows, Instr.loadAt, Instr.sureAddr, Sem.run_bind, Sem.run_pure, Result.andThen_ok, loadVar]
  congr 1
  funext b w
  cases b with
  | false => simp
  | true =>
    simp only [if_true, Sem.run_bind, Sem.run_pure]
    congr 1
    funext n w
    split
    · rename_i cs h
      split at h
      · rename_i hs
        obtain ⟨h1, h2⟩ := World.cellsAt_some h
        have := run_loadCells_list (P := P) w a cs (fun j v hv => by
          have hj : j < n := by rw [← h1]; exact (List.getElem?_eq_some_iff.1 hv).1
          rw [← hv, ← h2 hs j hj]
          obtain ⟨b, o, sp⟩ := a
          simp only at hs; subst hs
          unfold Addr.add; split <;> simp_all)
        rw [h1] at this
        rw [this]; rfl
      · cases h
    · rfl

/-- w' is w, grown by new blocks and draws. -/
def Grew (w w' : World) : Prop := ∃ x, w' = w.plus x

namespace Grew
variable {w a b c : World}
theorem refl (w : World) : Grew w w := ⟨⟨#[], w.drawn⟩, (World.plus_none w).symm⟩
theorem plus (h : Grew w a) (x : More) : Grew w (a.plus x) := by
  obtain ⟨y, rfl⟩ := h
  exact ⟨_, World.plus_plus w y x⟩
theorem trans (h : Grew a b) (k : Grew b c) : Grew a c := by
  obtain ⟨x, rfl⟩ := k
  exact h.plus x
theorem drew (h : Grew w a) : Grew w a.drew := by
  obtain ⟨y, rfl⟩ := h
  exact ⟨_, World.plus_drew w y⟩
theorem drewN (h : Grew w a) (n : Nat) : Grew w (a.drewN n) := by
  obtain ⟨y, rfl⟩ := h
  exact ⟨_, World.plus_drewN w y n⟩
theorem alloc (h : Grew w a) (o : Obj) : Grew w (a.alloc o) := by
  obtain ⟨y, rfl⟩ := h
  refine ⟨⟨y.blocks.push o, y.drawn⟩, ?_⟩
  simp [World.plus, World.alloc]
theorem size (h : Grew w a) : w.heap.size ≤ a.heap.size := by
  obtain ⟨y, rfl⟩ := h
  simp [World.size_plus]
theorem below (h : Grew w a) : Go.RowKit.Below w.heap.size w a := by
  obtain ⟨y, rfl⟩ := h
  exact ⟨rfl, rfl, rfl, by simp [World.size_plus], fun k hk => World.block_plus w y k hk⟩
theorem of_parts (ho : a.os = w.os) (ht : a.tape = w.tape) (hu : a.output = w.output) (hs : w.heap.size ≤ a.heap.size) (hb : ∀ k, k < w.heap.size → a.heap[k]? = w.heap[k]?) : Grew w a := by
  refine ⟨⟨a.heap.extract w.heap.size a.heap.size, a.drawn⟩, ?_⟩
  obtain ⟨h1, t1, d1, o1, u1⟩ := a
  obtain ⟨h0, t0, d0, o0, u0⟩ := w
  simp only at ho ht hu hs hb
  subst ho ht hu
  simp only [World.plus]
  congr 1
  apply Array.ext_getElem?
  intro i
  by_cases hi : i < h0.size
  · rw [hb i hi, Array.getElem?_append_left hi]
  · rw [Array.getElem?_append_right (by omega), Array.getElem?_extract]
    split
    · congr 1; omega
    · rw [Array.getElem?_eq_none (by omega)]
theorem setCell (h : Grew w a) {p : Addr} (hp : w.heap.size ≤ p.block) (u : Value) : Grew w (a.setCell p u) := by
  have hb := h.below
  obtain ⟨y, rfl⟩ := h
  refine of_parts rfl rfl rfl (by simp [World.setCell, World.size_plus]) (fun k hk => ?_)
  rw [Go.RowKit.Below.heap_setCell _ _ _ _ (by omega)]
  exact World.block_plus w y k hk
theorem grown (h : Grew w a) {row : Option Nat} (hg : a.grownBy b row) (hr : ∀ k, row = some k → w.heap.size ≤ k) : Grew w b := by
  have hb := h.below
  obtain ⟨y, rfl⟩ := h
  have hz := World.size_plus w y
  refine of_parts (hg.os.trans rfl) (hg.tape.trans rfl) (hg.output.trans rfl) (by have := hg.size; omega) (fun k hk => ?_)
  rw [hg.block k (by omega) (fun e => by have := hr k e.symm; omega)]
  exact World.block_plus w y k hk
theorem os (h : Grew w a) : a.os = w.os := by obtain ⟨y, rfl⟩ := h; rfl
theorem tape (h : Grew w a) : a.tape = w.tape := by obtain ⟨y, rfl⟩ := h; rfl
theorem output (h : Grew w a) : a.output = w.output := by obtain ⟨y, rfl⟩ := h; rfl
theorem block (h : Grew w a) (k : Nat) (hk : k < w.heap.size) : a.heap[k]? = w.heap[k]? := by
  obtain ⟨y, rfl⟩ := h
  exact World.block_plus w y k hk
theorem grownBy (h : Grew w a) (row : Option Nat) : w.grownBy a row := ⟨h.os, h.tape, h.output, h.size, fun k hk _ => h.block k hk⟩
theorem cell (h : Grew w a) {p : Addr} (hp : p.block < w.heap.size) : a.cell? p = w.cell? p := World.cell?_of_block (w := w) (h.block p.block hp)
theorem frozen (h : Grew w a) {p : Addr} (hp : p.block < w.heap.size) : a.frozen? p = w.frozen? p := World.frozen?_of_block (w := w) (h.block p.block hp)
end Grew

/-- A region that draws its order, all of whose operations yield one value whatever new blocks there are and leave old memory alone: one walk in the text's order. -/
theorem wp_region_plus {P : Program} {id : Nat} {Q : Exit → Act → World → Prop} {a : Act} {w : World} {l : List Oper} (hm : P.follows .mixedOrders = true) (hB : Region.lexB .any l.toArray = true)
    (h : wpQuiet P l.toArray (fun w' => ∃ x, w' = w.plus x) (fun a' => ∀ w', (∃ x, w' = w.plus x) → Q .normal a' w') l a) : (Code.region id l.toArray true).wp P Q a w :=
  wp_region_quiet (C := fun w' => ∃ x, w' = w.plus x) hm hB ⟨⟨#[], w.drawn + 1⟩, by simp [World.plus]⟩ (by simpa using h)

/-- A contract that grows the world, met in a world that has grown already. -/
theorem Calls.grew_of {P : Program} {f : FuncId} {args : Array Value} {w : World} {x : More} {v : Value}
    (h : Calls P f args (w.plus x) fun e w' => e = .returned v ∧ Grew (w.plus x) w') : Calls P f args (w.plus x) fun e w'' => e = .returned v ∧ ∃ y, w'' = w.plus y :=
  h.mono fun _ _ ⟨he, hg⟩ => ⟨he, ((Grew.refl w).plus x).trans hg⟩

@[go_sem] theorem run_index_agg {P : Program} (t : TypeId) (cs : Array Value) (k : IntKind) (i : Int) (w : World) (h : P.underlying t = some (.array (P.arrayLen t) (P.elem t))) :
    (Instr.index t (.agg cs) (.int k i)).run P w =
      if 0 ≤ i ∧ i < P.arrayLen t then ((sizeOf (P.elem t)).run P w).andThen fun s w => (part (P.elem t) cs (i.toNat * s)).run P w
      else (boundsPanic k i (P.arrayLen t) .index).run P w := by
  simp [Instr.index, run_underlying h, asIntOf]

@[go_sem high] theorem run_max_int2_max {P : Program} (w : World) (ts : Array TypeId) (t : TypeId) (k k' : IntKind) (x y : Int) : (Builtin.max_ ts t #[.int k x, .int k' y]).run P w = .ok (.int k (max x y)) w := by
  rw [run_max_int2]; congr 2; omega
@[go_sem high] theorem run_min_int2_min {P : Program} (w : World) (ts : Array TypeId) (t : TypeId) (k k' : IntKind) (x y : Int) : (Builtin.min_ ts t #[.int k x, .int k' y]).run P w = .ok (.int k (min x y)) w := by
  rw [run_min_int2]; congr 2; omega

theorem run_equalIn_ints {P : Program} (w : World) (d : Nat) (t e : TypeId) (n : Nat) (k : IntKind) (xs ys : List Int) (ht : P.underlying t = some (.array n e)) (he : P.underlying e = some (.int k)) (hs : (P.info? e).map (·.size) = some 1) (ha : xs.length = n) (hb : ys.length = n) :
    (Op.equalIn (d + 2) t (.agg (xs.map (Value.int k)).toArray) (.agg (ys.map (Value.int k)).toArray)).run P w = .ok (decide (xs = ys)) w := by
  have hsz : ∀ w, (sizeOf e).run P w = .ok 1 w := by
    intro w
    cases hq : P.info? e with
    | none => simp [hq] at hs
    | some i => simp [hq] at hs; simp [sizeOf, typeInfo, hq, hs]
  have hag : ∀ w, (isAgg e).run P w = .ok false w := by
    intro w
    unfold isAgg
    rw [Sem.run_bind, run_underlying he w]
    simp
  have hp : ∀ (cs : List Int) (i : Nat) (w : World), i < cs.length → (part e (cs.map (Value.int k)).toArray (i * 1)).run P w = .ok (.int k (cs.getD i 0)) w := by
    intro cs i w hi
    unfold part
    simp [Sem.run_bind, hag, hi]
  obtain ⟨D, hD⟩ : ∃ D, D = d + 1 := ⟨_, rfl⟩
  have hE : ∀ (a b : Int) (w : World), (Op.equalIn D e (.int k a) (.int k b)).run P w = .ok (a == b) w := by
    intro a b w; rw [hD]; exact run_equalIn_int w d e k k a b he
  rw [show d + 2 = D + 1 by omega]
  have key : ∀ (l : List Nat), (∀ i ∈ l, i < n) → ∀ w, (forIn l ((none : Option Bool), ()) (fun i (_ : Option Bool × Unit) => do
        let x ← part e (xs.map (Value.int k)).toArray (i * 1)
        let y ← part e (ys.map (Value.int k)).toArray (i * 1)
        let b ← Op.equalIn D e x y
        if (!b) = true then pure (ForInStep.done (some false, ())) else pure (ForInStep.yield (none, ()))) : Sem (Option Bool × Unit)).run P w
          = .ok (if (l.all fun i => xs.getD i 0 == ys.getD i 0) then (none, ()) else (some false, ())) w := by
    intro l
    induction l with
    | nil => intro _ w; simp
    | cons i l ih =>
      intro hl w
      have hi := hl i (by simp)
      simp only [List.forIn_cons, Sem.run_bind, hp xs i w (by omega), hp ys i w (by omega), Result.andThen_ok, hE]
      by_cases hq : xs.getD i 0 = ys.getD i 0
      · simp only [hq, beq_self_eq_true, Bool.not_true, Bool.false_eq_true, if_false, Sem.run_pure, Result.andThen_ok, List.all_cons, Bool.true_and]
        exact ih (fun j hj => hl j (by simp [hj])) w
      · have hq' : (xs.getD i 0 == ys.getD i 0) = false := by simpa using hq
        simp only [hq', Bool.not_false, if_true, Sem.run_pure, Result.andThen_ok, List.all_cons, Bool.false_and, Bool.false_eq_true, if_false]
  simp only [Op.equalIn, Sem.run_bind, run_underlying ht, Result.andThen_ok, hsz]
  rw [Std.Legacy.Range.forIn_eq_forIn_range']
  have := key (List.range' 0 n 1) (by intro i hi; simp at hi; omega) w
  simp only [Std.Legacy.Range.size, Nat.sub_zero, Nat.add_sub_cancel, Nat.div_one]
  erw [this]
  have hall : (List.range' 0 n 1).all (fun i => xs.getD i 0 == ys.getD i 0) = decide (xs = ys) := by
    rw [Bool.eq_iff_iff, List.all_eq_true, decide_eq_true_iff]
    constructor
    · intro h
      apply List.ext_getElem (by omega)
      intro i h1 h2
      have := h i (by simp; omega)
      simpa [h1, h2] using this
    · rintro rfl i _; simp
  rw [hall]
  by_cases hq : xs = ys <;> simp [hq]

theorem ret_bool {a b : Bool} (h : a = b) : Ending.returned (.bool a) = .returned (.bool b) := by rw [h]
theorem ret_int {k : IntKind} {a b : Int} (h : a = b) : Ending.returned (.int k a) = .returned (.int k b) := by rw [h]
end Go
