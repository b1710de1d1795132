/- Texts of this proof, merged (printed by wip/pmerge.py out of Base, Sl, Rf, Gx, Par, Sent, Tail, FaultA, Err, WireA). -/
import Derived.WalkKit
import Derived.WalkLawsBesides
import Derived.WalkSpells
import Derived.Below
import Derived.Laws.AppendOwn
import Derived.Deep.QuietTactic
import Derived.BigQuiet
import Derived.WalkSmall
import Derived.Lib.Hide
import Derived.Outline
import Derived.Deep.AppendLies
import Derived.OneCell
import Derived.Laws.Cover4
import Derived.Laws.BytesArg
import Derived.RangeFuncIn
import Derived.RangeFuncLeaves
import Derived.RangeFuncRecord
import Derived.Conc.MuLone
import Derived.Test.YtnhmekdnfinmiaaGreatDoorProg
import Derived.LaidLaws
import Derived.LaidSub
import Derived.ProofKit
import Derived.StillTail
import Derived.LaidEql
import Derived.Deep.LoopGhost
import Derived.Deep.DeepCutAuto
import Derived.Laws.BitsAllLaws
import Derived.IntWalk
/- General lemmas: a world that has grown by new blocks and draws alone ('World.plus'), and the region law over that class of worlds. No program in sight. -/
namespace Go

structure More where
  blocks : Array Obj
  drawn : Nat
deriving Inhabited

def World.plus (w : World) (x : More) : World := { w with heap := w.heap ++ x.blocks, drawn := x.drawn }

namespace World
variable (w : World) (x : More) (a : Addr)

theorem heap_plus : (w.plus x).heap = w.heap ++ x.blocks := rfl
@[go_sem] theorem size_plus : (w.plus x).heap.size = w.heap.size + x.blocks.size := by simp [heap_plus]
def Late (n m k : Nat) : Prop := m ≤ n ∧ n < m + k
def Late' (n m k : Nat) : Prop := m < n ∧ n ≤ m + k
@[go_sem] theorem lt_more0 (n m : Nat) : (n < m + x.blocks.size) = (n < m ∨ Late n m (x.blocks.size + 0)) := by unfold Late; rw [eq_iff_iff]; omega
@[go_sem] theorem le_more0 (n m : Nat) : (n ≤ m + x.blocks.size) = (n ≤ m ∨ Late' n m (x.blocks.size + 0)) := by unfold Late'; rw [eq_iff_iff]; omega
@[go_sem] theorem lt_more1 (n m : Nat) : (n < m + x.blocks.size + 1) = (n < m ∨ Late n m (x.blocks.size + 1)) := by unfold Late; rw [eq_iff_iff]; omega
@[go_sem] theorem le_more1 (n m : Nat) : (n ≤ m + x.blocks.size + 1) = (n ≤ m ∨ Late' n m (x.blocks.size + 1)) := by unfold Late'; rw [eq_iff_iff]; omega
@[go_sem] theorem lt_more2 (n m : Nat) : (n < m + x.blocks.size + 1 + 1) = (n < m ∨ Late n m (x.blocks.size + 2)) := by unfold Late; rw [eq_iff_iff]; omega
@[go_sem] theorem le_more2 (n m : Nat) : (n ≤ m + x.blocks.size + 1 + 1) = (n ≤ m ∨ Late' n m (x.blocks.size + 2)) := by unfold Late'; rw [eq_iff_iff]; omega
@[go_sem] theorem lt_more3 (n m : Nat) : (n < m + x.blocks.size + 1 + 1 + 1) = (n < m ∨ Late n m (x.blocks.size + 3)) := by unfold Late; rw [eq_iff_iff]; omega
@[go_sem] theorem le_more3 (n m : Nat) : (n ≤ m + x.blocks.size + 1 + 1 + 1) = (n ≤ m ∨ Late' n m (x.blocks.size + 3)) := by unfold Late'; rw [eq_iff_iff]; omega
@[go_sem] theorem lt_more4 (n m : Nat) : (n < m + x.blocks.size + 1 + 1 + 1 + 1) = (n < m ∨ Late n m (x.blocks.size + 4)) := by unfold Late; rw [eq_iff_iff]; omega
@[go_sem] theorem le_more4 (n m : Nat) : (n ≤ m + x.blocks.size + 1 + 1 + 1 + 1) = (n ≤ m ∨ Late' n m (x.blocks.size + 4)) := by unfold Late'; rw [eq_iff_iff]; omega
@[go_sem] theorem lt_more5 (n m : Nat) : (n < m + x.blocks.size + 1 + 1 + 1 + 1 + 1) = (n < m ∨ Late n m (x.blocks.size + 5)) := by unfold Late; rw [eq_iff_iff]; omega
@[go_sem] theorem le_more5 (n m : Nat) : (n ≤ m + x.blocks.size + 1 + 1 + 1 + 1 + 1) = (n ≤ m ∨ Late' n m (x.blocks.size + 5)) := by unfold Late'; rw [eq_iff_iff]; omega
@[go_sem] theorem tape_plus : (w.plus x).tape = w.tape := rfl
@[go_sem] theorem os_plus : (w.plus x).os = w.os := rfl
@[go_sem] theorem output_plus : (w.plus x).output = w.output := rfl

theorem block_plus (i : Nat) (h : i < w.heap.size) : (w.plus x).heap[i]? = w.heap[i]? := by
  rw [heap_plus, Array.getElem?_append_left h]

theorem cell?_plus_lt (h : a.block < w.heap.size) : (w.plus x).cell? a = w.cell? a := by
  simp only [World.cell?, block_plus w x _ h]
theorem frozen?_plus_lt (h : a.block < w.heap.size) : (w.plus x).frozen? a = w.frozen? a := by
  simp only [World.frozen?, block_plus w x _ h]
theorem cell?_plus (h : (w.cell? a).isSome = true) : (w.plus x).cell? a = w.cell? a := by
  obtain ⟨u, hu⟩ := Option.isSome_iff_exists.1 h
  exact cell?_plus_lt w x a (World.block_lt_of_cell? w a hu)
def newCell? (w : World) (x : More) (a : Addr) : Option Value := if a.block < w.heap.size then none else (w.plus x).cell? a
@[go_sem] theorem cell?_plus_or : (w.plus x).cell? a = (w.cell? a).or (w.newCell? x a) := by
  unfold newCell?
  by_cases h : a.block < w.heap.size
  · rw [if_pos h, cell?_plus_lt w x a h]; simp
  · rw [if_neg h]
    have : w.cell? a = none := by
      have hn : w.heap[a.block]? = none := by simp; omega
      simp [World.cell?, hn]
    rw [this]; simp
@[go_sem] theorem frozen?_plus (h : (w.cell? a).isSome = true) : (w.plus x).frozen? a = w.frozen? a := by
  obtain ⟨u, hu⟩ := Option.isSome_iff_exists.1 h
  exact frozen?_plus_lt w x a (World.block_lt_of_cell? w a hu)

theorem plus_plus (y : More) : (w.plus x).plus y = w.plus ⟨x.blocks ++ y.blocks, y.drawn⟩ := by
  simp [World.plus, Array.append_assoc]
theorem plus_none : w.plus ⟨#[], w.drawn⟩ = w := by simp [World.plus]
theorem plus_drew : (w.plus x).drew = w.plus ⟨x.blocks, x.drawn + 1⟩ := rfl
theorem plus_drewN (n : Nat) : (w.plus x).drewN n = w.plus ⟨x.blocks, x.drawn + n⟩ := by
  simp [World.plus, World.drewN]
@[go_sem] theorem setCell_drewN (n : Nat) (v : Value) : (w.drewN n).setCell a v = (w.setCell a v).drewN n := rfl
@[go_sem] theorem alloc_drewN (n : Nat) (o : Obj) : (w.drewN n).alloc o = (w.alloc o).drewN n := rfl
@[go_sem] theorem setCell_plus (v : Value) (h : a.block < w.heap.size) : (w.plus x).setCell a v = (w.setCell a v).plus x := by
  simp only [World.setCell, World.plus]
  congr 1
  apply Array.ext_getElem?
  intro k
  by_cases hk : k < w.heap.size
  · rw [Array.getElem?_append_left (by simpa using hk)]
    simp only [Array.getElem?_modify]
    rw [Array.getElem?_append_left hk]
  · rw [Array.getElem?_append_right (by simpa using hk)]
    simp only [Array.getElem?_modify, Array.size_modify]
    rw [if_neg (by omega), Array.getElem?_append_right (by omega)]
end World

def World.cellsAt (w : World) (a : Addr) : Nat → Option (List Value)
  | 0 => some []
  | n + 1 => (w.cell? a).bind fun v => (World.cellsAt w ⟨a.block, a.off + 1, none⟩ n).map (v :: ·)

namespace World
theorem cellsAt_some {w : World} : ∀ {n : Nat} {a : Addr} {cs : List Value}, w.cellsAt a n = some cs → cs.length = n ∧ (a.spot = none → ∀ i, i < n → w.cell? ⟨a.block, a.off + i, none⟩ = cs[i]?)
  | 0, a, cs, h => by
    simp only [cellsAt, Option.some.injEq] at h
    subst h; exact ⟨rfl, fun _ i hi => absurd hi (Nat.not_lt_zero _)⟩
  | n + 1, a, cs, h => by
    simp only [cellsAt] at h
    cases hc : w.cell? a with
    | none => simp [hc] at h
    | some v =>
      simp only [hc, Option.bind_some] at h
      cases hr : World.cellsAt w ⟨a.block, a.off + 1, none⟩ n with
      | none => simp [hr] at h
      | some r =>
        simp only [hr, Option.map_some, Option.some.injEq] at h
        subst h
        obtain ⟨h1, h2⟩ := cellsAt_some hr
        refine ⟨by simp [h1], fun hs i hi => ?_⟩
        cases i with
        | zero =>
          obtain ⟨b, o, sp⟩ := a
          simp only at hs; subst hs
          simpa using hc
        | succ i =>
          have := h2 rfl i (by omega)
          simp only [List.getElem?_cons_succ]
          rw [← this]
          show w.cell? ⟨a.block, a.off + (i + 1), none⟩ = w.cell? ⟨a.block, a.off + 1 + i, none⟩
          rw [show a.off + (i + 1) = a.off + 1 + i by omega]
theorem cellsAt_of {w : World} {b : Nat} : ∀ {n : Nat} {o : Nat} {cs : List Value}, cs.length = n → (∀ i, i < n → w.cell? ⟨b, o + i, none⟩ = cs[i]?) → w.cellsAt ⟨b, o, none⟩ n = some cs
  | 0, o, cs, hl, _ => by
    have : cs = [] := by simpa using hl
    subst this; rfl
  | n + 1, o, [], hl, _ => by simp at hl
  | n + 1, o, c :: cs, hl, h => by
    have h0 := h 0 (by omega)
    simp only [Nat.add_zero, List.getElem?_cons_zero] at h0
    have h1 := cellsAt_of (w := w) (b := b) (n := n) (o := o + 1) (cs := cs) (by simpa using hl) (fun i hi => by
      have := h (i + 1) (by omega)
      rw [List.getElem?_cons_succ] at this
      rw [← this]; congr 2; omega)
    simp only [cellsAt, h0, Option.bind_some, h1, Option.map_some]
theorem cellsAt_cell {w : World} {b o n : Nat} {cs : List Value} (h : w.cellsAt ⟨b, o, none⟩ n = some cs) (i : Nat) (hi : i < n) : w.cell? ⟨b, o + i, none⟩ = cs[i]? :=
  (cellsAt_some h).2 rfl i hi
theorem cellsAt_sub {w : World} {b o n : Nat} {cs : List Value} (h : w.cellsAt ⟨b, o, none⟩ n = some cs) (i m : Nat) (hi : i + m ≤ n) : w.cellsAt ⟨b, o + i, none⟩ m = some ((cs.drop i).take m) := by
  obtain ⟨h1, h2⟩ := cellsAt_some h
  refine cellsAt_of (by simp; omega) (fun j hj => ?_)
  have := h2 rfl (i + j) (by omega)
  rw [List.getElem?_take_of_lt hj, List.getElem?_drop, ← this, Nat.add_assoc]
theorem cellsAt_congr {w w' : World} : ∀ (n : Nat) (a : Addr), (∀ o s, w'.cell? ⟨a.block, o, s⟩ = w.cell? ⟨a.block, o, s⟩) → w'.cellsAt a n = w.cellsAt a n
  | 0, _, _ => rfl
  | n + 1, a, h => by
    simp only [cellsAt]
    rw [show w'.cell? a = w.cell? a from h a.off a.spot, cellsAt_congr n ⟨a.block, a.off + 1, none⟩ h]
variable (w : World) (x : More) (a : Addr)
def newCellsAt? (w : World) (x : More) (a : Addr) (n : Nat) : Option (List Value) := (w.plus x).cellsAt a n
@[go_sem] theorem cellsAt_plus (n : Nat) : (w.plus x).cellsAt a n = (w.cellsAt a n).or (w.newCellsAt? x a n) := by
  unfold newCellsAt?
  cases h : w.cellsAt a n with
  | none => simp
  | some cs =>
    cases n with
    | zero => simp only [cellsAt] at h ⊢; simpa using h
    | succ n =>
      have hb : a.block < w.heap.size := by
        simp only [cellsAt] at h
        cases hc : w.cell? a with
        | none => simp [hc] at h
        | some v => exact World.block_lt_of_cell? w a hc
      rw [cellsAt_congr (w := w) (n + 1) a (fun o s => cell?_plus_lt w x ⟨a.block, o, s⟩ hb), h]; simp
@[go_sem] theorem cellsAt_drewN (m n : Nat) : (w.drewN m).cellsAt a n = w.cellsAt a n := cellsAt_congr n a (fun _ _ => rfl)
@[go_sem] theorem cellsAt_drew (n : Nat) : w.drew.cellsAt a n = w.cellsAt a n := cellsAt_congr n a (fun _ _ => rfl)
@[go_sem] theorem cellsAt_alloc_past (o : Obj) (m i n : Nat) (hm : m < w.heap.size) : (w.alloc o).cellsAt ⟨m, i, none⟩ n = w.cellsAt ⟨m, i, none⟩ n :=
  cellsAt_congr n _ (fun _ _ => World.cell?_alloc_lt w o _ hm)
@[go_sem] theorem cellsAt_alloc_whole (c : Array Value) (t : TypeId) (m n : Nat) (hm : m = w.heap.size) (hn : c.size = n) : (w.alloc (.cells c t)).cellsAt ⟨m, 0, none⟩ n = some c.toList :=
  cellsAt_of (by simpa using hn) (fun i hi => by rw [World.cell?_alloc_at c t m (0 + i) hm]; simp)
def newBlockAt? (w : World) (o : Obj) (a : Addr) (n : Nat) : Option (List Value) := (w.alloc o).cellsAt a n
@[go_sem 50] theorem cellsAt_alloc_or (o : Obj) (n : Nat) : (w.alloc o).cellsAt a n = (w.cellsAt a n).or (w.newBlockAt? o a n) := by
  unfold newBlockAt?
  cases h : w.cellsAt a n with
  | none => simp
  | some cs =>
    cases n with
    | zero => simp only [cellsAt] at h ⊢; simpa using h
    | succ n =>
      have hb : a.block < w.heap.size := by
        simp only [cellsAt] at h
        cases hc : w.cell? a with
        | none => simp [hc] at h
        | some v => exact World.block_lt_of_cell? w a hc
      rw [cellsAt_congr (w := w) (n + 1) a (fun o s => World.cell?_alloc_lt w _ _ hb), h]; simp
@[go_sem] theorem cellsAt_setCell_other (p : Addr) (v : Value) (n : Nat) (h : p.block ≠ a.block) : (w.setCell p v).cellsAt a n = w.cellsAt a n :=
  cellsAt_congr n a (fun o s => World.cell?_setCell_other w p ⟨a.block, o, s⟩ v (fun e => h (by rw [e])))
@[go_sem low] theorem cellsAt_alloc_part (c : Array Value) (t : TypeId) (m i n : Nat) (hm : m = w.heap.size) (hn : i + n ≤ c.size) : (w.alloc (.cells c t)).cellsAt ⟨m, i, none⟩ n = some (c.extract i (i + n)).toList :=
  cellsAt_of (by simp; omega) (fun j hj => by
    rw [World.cell?_alloc_at c t m (i + j) hm]
    simp only [Array.getElem?_toList, Array.getElem?_extract]
    rw [if_pos (by omega)])
end World

def loadRows (t : TypeId) (v : Value) : Sem Value := Instr.loadAt t v
@[go_sem ↓] theorem loadAt_is (t : TypeId) (v : Value) : Instr.loadAt t v = loadRows t v := rfl
@[go_sem] theorem run_loadAt_rows {P : Program} (t : TypeId) (a : Addr) (w : World) :
    (loadRows t (.pointer (some a))).run P w = ((isAgg t).run P w).andThen fun b w => if b then ((sizeOf t).run P w).andThen fun n w =>
        match (if a.spot = none then w.cellsAt a n else none) with
        | some cs => .ok (.agg cs.toArray) w
        | none => ((loadCells a n).run P w).andThen fun cs w => .ok (.agg cs) w
      else (load a).run P w := by
  simp only [loadRows, Instr.loadAt, Instr.sureAddr, Sem.run_bind, Sem.run_pure, Result.andThen_ok, loadVar]
  congr 1
  funext b w
  cases b with
  | false => simp
  | true =>
    simp only [if_true, Sem.run_bind, Sem.run_pure]
    congr 1
    funext n w
    split
    · rename_i cs h
      split at h
      · rename_i hs
        obtain ⟨h1, h2⟩ := World.cellsAt_some h
        have := run_loadCells_list (P := P) w a cs (fun j v hv => by
          have hj : j < n := by rw [← h1]; exact (List.getElem?_eq_some_iff.1 hv).1
          rw [← hv, ← h2 hs j hj]
          obtain ⟨b, o, sp⟩ := a
          simp only at hs; subst hs
          unfold Addr.add; split <;> simp_all)
        rw [h1] at this
        rw [this]; rfl
      · cases h
    · rfl

def Grew (w w' : World) : Prop := ∃ x, w' = w.plus x

namespace Grew
variable {w a b c : World}
theorem refl (w : World) : Grew w w := ⟨⟨#[], w.drawn⟩, (World.plus_none w).symm⟩
theorem plus (h : Grew w a) (x : More) : Grew w (a.plus x) := by
  obtain ⟨y, rfl⟩ := h
  exact ⟨_, World.plus_plus w y x⟩
theorem trans (h : Grew a b) (k : Grew b c) : Grew a c := by
  obtain ⟨x, rfl⟩ := k
  exact h.plus x
theorem drew (h : Grew w a) : Grew w a.drew := by
  obtain ⟨y, rfl⟩ := h
  exact ⟨_, World.plus_drew w y⟩
theorem drewN (h : Grew w a) (n : Nat) : Grew w (a.drewN n) := by
  obtain ⟨y, rfl⟩ := h
  exact ⟨_, World.plus_drewN w y n⟩
theorem alloc (h : Grew w a) (o : Obj) : Grew w (a.alloc o) := by
  obtain ⟨y, rfl⟩ := h
  refine ⟨⟨y.blocks.push o, y.drawn⟩, ?_⟩
  simp [World.plus, World.alloc]
theorem size (h : Grew w a) : w.heap.size ≤ a.heap.size := by
  obtain ⟨y, rfl⟩ := h
  simp [World.size_plus]
theorem below (h : Grew w a) : Go.RowKit.Below w.heap.size w a := by
  obtain ⟨y, rfl⟩ := h
  exact ⟨rfl, rfl, rfl, by simp [World.size_plus], fun k hk => World.block_plus w y k hk⟩
theorem of_parts (ho : a.os = w.os) (ht : a.tape = w.tape) (hu : a.output = w.output) (hs : w.heap.size ≤ a.heap.size) (hb : ∀ k, k < w.heap.size → a.heap[k]? = w.heap[k]?) : Grew w a := by
  refine ⟨⟨a.heap.extract w.heap.size a.heap.size, a.drawn⟩, ?_⟩
  obtain ⟨h1, t1, d1, o1, u1⟩ := a
  obtain ⟨h0, t0, d0, o0, u0⟩ := w
  simp only at ho ht hu hs hb
  subst ho ht hu
  simp only [World.plus]
  congr 1
  apply Array.ext_getElem?
  intro i
  by_cases hi : i < h0.size
  · rw [hb i hi, Array.getElem?_append_left hi]
  · rw [Array.getElem?_append_right (by omega), Array.getElem?_extract]
    split
    · congr 1; omega
    · rw [Array.getElem?_eq_none (by omega)]
theorem setCell (h : Grew w a) {p : Addr} (hp : w.heap.size ≤ p.block) (u : Value) : Grew w (a.setCell p u) := by
  have hb := h.below
  obtain ⟨y, rfl⟩ := h
  refine of_parts rfl rfl rfl (by simp [World.setCell, World.size_plus]) (fun k hk => ?_)
  rw [Go.RowKit.Below.heap_setCell _ _ _ _ (by omega)]
  exact World.block_plus w y k hk
theorem grown (h : Grew w a) {row : Option Nat} (hg : a.grownBy b row) (hr : ∀ k, row = some k → w.heap.size ≤ k) : Grew w b := by
  have hb := h.below
  obtain ⟨y, rfl⟩ := h
  have hz := World.size_plus w y
  refine of_parts (hg.os.trans rfl) (hg.tape.trans rfl) (hg.output.trans rfl) (by have := hg.size; omega) (fun k hk => ?_)
  rw [hg.block k (by omega) (fun e => by have := hr k e.symm; omega)]
  exact World.block_plus w y k hk
theorem os (h : Grew w a) : a.os = w.os := by obtain ⟨y, rfl⟩ := h; rfl
theorem tape (h : Grew w a) : a.tape = w.tape := by obtain ⟨y, rfl⟩ := h; rfl
theorem output (h : Grew w a) : a.output = w.output := by obtain ⟨y, rfl⟩ := h; rfl
theorem block (h : Grew w a) (k : Nat) (hk : k < w.heap.size) : a.heap[k]? = w.heap[k]? := by
  obtain ⟨y, rfl⟩ := h
  exact World.block_plus w y k hk
theorem grownBy (h : Grew w a) (row : Option Nat) : w.grownBy a row := ⟨h.os, h.tape, h.output, h.size, fun k hk _ => h.block k hk⟩
theorem cell (h : Grew w a) {p : Addr} (hp : p.block < w.heap.size) : a.cell? p = w.cell? p := World.cell?_of_block (w := w) (h.block p.block hp)
theorem frozen (h : Grew w a) {p : Addr} (hp : p.block < w.heap.size) : a.frozen? p = w.frozen? p := World.frozen?_of_block (w := w) (h.block p.block hp)
end Grew

theorem wp_region_plus {P : Program} {id : Nat} {Q : Exit → Act → World → Prop} {a : Act} {w : World} {l : List Oper} (hm : P.follows .mixedOrders = true) (hB : Region.lexB .any l.toArray = true)
    (h : wpQuiet P l.toArray (fun w' => ∃ x, w' = w.plus x) (fun a' => ∀ w', (∃ x, w' = w.plus x) → Q .normal a' w') l a) : (Code.region id l.toArray true).wp P Q a w :=
  wp_region_quiet (C := fun w' => ∃ x, w' = w.plus x) hm hB ⟨⟨#[], w.drawn + 1⟩, by simp [World.plus]⟩ (by simpa using h)

theorem Calls.grew_of {P : Program} {f : FuncId} {args : Array Value} {w : World} {x : More} {v : Value}
    (h : Calls P f args (w.plus x) fun e w' => e = .returned v ∧ Grew (w.plus x) w') : Calls P f args (w.plus x) fun e w'' => e = .returned v ∧ ∃ y, w'' = w.plus y :=
  h.mono fun _ _ ⟨he, hg⟩ => ⟨he, ((Grew.refl w).plus x).trans hg⟩

@[go_sem] theorem run_index_agg {P : Program} (t : TypeId) (cs : Array Value) (k : IntKind) (i : Int) (w : World) (h : P.underlying t = some (.array (P.arrayLen t) (P.elem t))) :
    (Instr.index t (.agg cs) (.int k i)).run P w =
      if 0 ≤ i ∧ i < P.arrayLen t then ((sizeOf (P.elem t)).run P w).andThen fun s w => (part (P.elem t) cs (i.toNat * s)).run P w
      else (boundsPanic k i (P.arrayLen t) .index).run P w := by
  simp [Instr.index, run_underlying h, asIntOf]

@[go_sem high] theorem run_max_int2_max {P : Program} (w : World) (ts : Array TypeId) (t : TypeId) (k k' : IntKind) (x y : Int) : (Builtin.max_ ts t #[.int k x, .int k' y]).run P w = .ok (.int k (max x y)) w := by
  rw [run_max_int2]; congr 2; omega
@[go_sem high] theorem run_min_int2_min {P : Program} (w : World) (ts : Array TypeId) (t : TypeId) (k k' : IntKind) (x y : Int) : (Builtin.min_ ts t #[.int k x, .int k' y]).run P w = .ok (.int k (min x y)) w := by
  rw [run_min_int2]; congr 2; omega

theorem run_equalIn_ints {P : Program} (w : World) (d : Nat) (t e : TypeId) (n : Nat) (k : IntKind) (xs ys : List Int) (ht : P.underlying t = some (.array n e)) (he : P.underlying e = some (.int k)) (hs : (P.info? e).map (·.size) = some 1) (ha : xs.length = n) (hb : ys.length = n) :
    (Op.equalIn (d + 2) t (.agg (xs.map (Value.int k)).toArray) (.agg (ys.map (Value.int k)).toArray)).run P w = .ok (decide (xs = ys)) w := by
  have hsz : ∀ w, (sizeOf e).run P w = .ok 1 w := by
    intro w
    cases hq : P.info? e with
    | none => simp [hq] at hs
    | some i => simp [hq] at hs; simp [sizeOf, typeInfo, hq, hs]
  have hag : ∀ w, (isAgg e).run P w = .ok false w := by
    intro w
    unfold isAgg
    rw [Sem.run_bind, run_underlying he w]
    simp
  have hp : ∀ (cs : List Int) (i : Nat) (w : World), i < cs.length → (part e (cs.map (Value.int k)).toArray (i * 1)).run P w = .ok (.int k (cs.getD i 0)) w := by
    intro cs i w hi
    unfold part
    simp [Sem.run_bind, hag, hi]
  obtain ⟨D, hD⟩ : ∃ D, D = d + 1 := ⟨_, rfl⟩
  have hE : ∀ (a b : Int) (w : World), (Op.equalIn D e (.int k a) (.int k b)).run P w = .ok (a == b) w := by
    intro a b w; rw [hD]; exact run_equalIn_int w d e k k a b he
  rw [show d + 2 = D + 1 by omega]
  have key : ∀ (l : List Nat), (∀ i ∈ l, i < n) → ∀ w, (forIn l ((none : Option Bool), ()) (fun i (_ : Option Bool × Unit) => do
        let x ← part e (xs.map (Value.int k)).toArray (i * 1)
        let y ← part e (ys.map (Value.int k)).toArray (i * 1)
        let b ← Op.equalIn D e x y
        if (!b) = true then pure (ForInStep.done (some false, ())) else pure (ForInStep.yield (none, ()))) : Sem (Option Bool × Unit)).run P w
          = .ok (if (l.all fun i => xs.getD i 0 == ys.getD i 0) then (none, ()) else (some false, ())) w := by
    intro l
    induction l with
    | nil => intro _ w; simp
    | cons i l ih =>
      intro hl w
      have hi := hl i (by simp)
      simp only [List.forIn_cons, Sem.run_bind, hp xs i w (by omega), hp ys i w (by omega), Result.andThen_ok, hE]
      by_cases hq : xs.getD i 0 = ys.getD i 0
      · simp only [hq, beq_self_eq_true, Bool.not_true, Bool.false_eq_true, if_false, Sem.run_pure, Result.andThen_ok, List.all_cons, Bool.true_and]
        exact ih (fun j hj => hl j (by simp [hj])) w
      · have hq' : (xs.getD i 0 == ys.getD i 0) = false := by simpa using hq
        simp only [hq', Bool.not_false, if_true, Sem.run_pure, Result.andThen_ok, List.all_cons, Bool.false_and, Bool.false_eq_true, if_false]
  simp only [Op.equalIn, Sem.run_bind, run_underlying ht, Result.andThen_ok, hsz]
  rw [Std.Legacy.Range.forIn_eq_forIn_range']
  have := key (List.range' 0 n 1) (by intro i hi; simp at hi; omega) w
  simp only [Std.Legacy.Range.size, Nat.sub_zero, Nat.add_sub_cancel, Nat.div_one]
  erw [this]
  have hall : (List.range' 0 n 1).all (fun i => xs.getD i 0 == ys.getD i 0) = decide (xs = ys) := by
    rw [Bool.eq_iff_iff, List.all_eq_true, decide_eq_true_iff]
    constructor
    · intro h
      apply List.ext_getElem (by omega)
      intro i h1 h2
      have := h i (by simp; omega)
      simpa [h1, h2] using this
    · rintro rfl i _; simp
  rw [hall]
  by_cases hq : xs = ys <;> simp [hq]

theorem ret_bool {a b : Bool} (h : a = b) : Ending.returned (.bool a) = .returned (.bool b) := by rw [h]
theorem ret_int {k : IntKind} {a b : Int} (h : a = b) : Ending.returned (.int k a) = .returned (.int k b) := by rw [h]
end Go
/- Slices that lie in memory: what they read as; appends onto a slice of the call's own, over grown worlds. No program in sight. -/
namespace Go
open Go.RowKit

def CellsIn (w : World) (a : Option Addr) (xs : List Value) : Prop := xs ≠ [] → ∃ b off, a = some ⟨b, off, none⟩ ∧ w.cellsAt ⟨b, off, none⟩ xs.length = some xs

theorem World.cellsAt_lt {w : World} {b off n : Nat} {cs : List Value} (h : w.cellsAt ⟨b, off, none⟩ n = some cs) (h0 : 0 < n) : b < w.heap.size := by
  have h1 := World.cellsAt_cell h 0 h0
  have h2 := (World.cellsAt_some h).1
  rw [List.getElem?_eq_getElem (by omega)] at h1
  exact World.block_lt_of_cell? w _ h1

namespace CellsIn
variable {w w' : World} {a : Option Addr} {xs : List Value}
theorem nil (w : World) (a : Option Addr) : CellsIn w a [] := fun h => absurd rfl h
theorem same (h : CellsIn w a xs) (hb : ∀ k, k < w.heap.size → w'.heap[k]? = w.heap[k]?) : CellsIn w' a xs := fun hn => by
  obtain ⟨b, off, ha, hc⟩ := h hn
  refine ⟨b, off, ha, ?_⟩
  have hlt := World.cellsAt_lt hc (List.length_pos_iff.2 hn)
  rw [World.cellsAt_congr (w := w) _ _ (fun o s => World.cell?_of_block (w := w) (hb b hlt))]
  exact hc
theorem grew (h : CellsIn w a xs) (hg : Grew w w') : CellsIn w' a xs := h.same hg.block
theorem at' (h : CellsIn w a xs) (hn : 0 < xs.length) : ∃ b off, a = some ⟨b, off, none⟩ ∧ b < w.heap.size ∧ ∀ i (hi : i < xs.length), w.cell? ⟨b, off + i, none⟩ = some (xs[i]'hi) := by
  obtain ⟨b, off, ha, hc⟩ := h (List.length_pos_iff.1 hn)
  refine ⟨b, off, ha, World.cellsAt_lt hc hn, fun i hi => ?_⟩
  rw [World.cellsAt_cell hc i hi, List.getElem?_eq_getElem hi]
theorem row (h : CellsIn w a xs) (hn : 0 < xs.length) : ∃ b off, a = some ⟨b, off, none⟩ ∧ b < w.heap.size ∧ ∀ i m, i + m ≤ xs.length → w.cellsAt ⟨b, off + i, none⟩ m = some ((xs.drop i).take m) := by
  obtain ⟨b, off, ha, hc⟩ := h (List.length_pos_iff.1 hn)
  exact ⟨b, off, ha, World.cellsAt_lt hc hn, fun i m him => World.cellsAt_sub hc i m him⟩
theorem of_cells {b off : Nat} (h : ∀ i (hi : i < xs.length), w.cell? ⟨b, off + i, none⟩ = some (xs[i]'hi)) : CellsIn w (some ⟨b, off, none⟩) xs := fun _ =>
  ⟨b, off, rfl, World.cellsAt_of rfl (fun i hi => by rw [h i hi, List.getElem?_eq_getElem hi])⟩
theorem drop {b off : Nat} (h : CellsIn w (some ⟨b, off, none⟩) xs) (k : Nat) : CellsIn w (some ⟨b, off + k, none⟩) (xs.drop k) := by
  intro hn
  have hl : 0 < (xs.drop k).length := List.length_pos_iff.2 hn
  rw [List.length_drop] at hl
  obtain ⟨b', off', ha, _, hc⟩ := h.row (by omega)
  simp only [Option.some.injEq, Addr.mk.injEq, and_true] at ha
  obtain ⟨rfl, rfl⟩ := ha
  refine ⟨b, off + k, rfl, ?_⟩
  rw [hc k _ (by rw [List.length_drop]; omega), List.take_of_length_le (Nat.le_refl _)]
theorem take (h : CellsIn w a xs) (k : Nat) : CellsIn w a (xs.take k) := by
  intro hn
  have hl : 0 < (xs.take k).length := List.length_pos_iff.2 hn
  rw [List.length_take] at hl
  obtain ⟨b, off, ha, _, hc⟩ := h.row (by omega)
  refine ⟨b, off, ha, ?_⟩
  have := hc 0 (xs.take k).length (by rw [List.length_take]; omega)
  rw [Nat.add_zero] at this
  rw [this, List.drop_zero, List.length_take]
  congr 1
  rw [Nat.min_comm]
  rcases Nat.le_total xs.length k with h1 | h1
  · rw [Nat.min_eq_left h1, List.take_of_length_le (Nat.le_refl _), List.take_of_length_le h1]
  · rw [Nat.min_eq_right h1]
end CellsIn

def Elem (P : Program) (t e : TypeId) (size bytes : Nat) : Prop :=
  P.underlying t = some (.slice e) ∧ ∃ i z, P.info? e = some i ∧ i.zero = some z ∧ i.size = size ∧ i.bytes = bytes ∧ z.cells.size = size ∧ 0 < size
theorem Elem.of {P : Program} {t e : TypeId} {size bytes : Nat} (ht : P.underlying t = some (.slice e)) (hi : ((P.info? e).map fun i => (i.zero.map (·.cells.size), i.size, i.bytes)) = some (some size, size, bytes)) (h0 : 0 < size) : Elem P t e size bytes := by
  cases hq : P.info? e with
  | none => simp [hq] at hi
  | some i =>
    simp only [hq, Option.map_some, Option.some.injEq, Prod.mk.injEq] at hi
    obtain ⟨h1, h2, h3⟩ := hi
    cases hz : i.zero with
    | none => simp [hz] at h1
    | some z =>
      simp only [hz, Option.map_some, Option.some.injEq] at h1
      exact ⟨ht, i, z, hq, hz, h2, h3, h1, h0⟩

theorem heap_alloc_at (w : World) (o : Obj) (B : Nat) (h : B = w.heap.size) : (w.alloc o).heap[B]? = some o := by subst h; exact heap_alloc_new w o
theorem heap_alloc_past (w : World) (o : Obj) (B : Nat) (h : B < w.heap.size) : (w.alloc o).heap[B]? = w.heap[B]? := heap_alloc_old w o h

namespace World.ownsRow
variable {w w' : World} {base : Nat} {e : TypeId} {size n : Nat} {v : Value} {xs : List Value}
theorem grew (h : w.ownsRow base e size v n xs) (hg : Grew w w') : w'.ownsRow base e size v n xs :=
  h.kept (hg.grownBy none) (by cases v.ownBlock <;> simp)
theorem keep (h : w.ownsRow base e size v n xs) (hb : ∀ k, v.ownBlock = some k → w'.heap[k]? = w.heap[k]?) : w'.ownsRow base e size v n xs := by
  refine ⟨h.1, ?_⟩
  rcases h.2 with hn | ⟨g, cap, cur, rfl, hb', hgg, rest⟩
  · exact .inl hn
  · exact .inr ⟨g, cap, cur, rfl, hb', by rw [hb g rfl]; exact hgg, rest⟩
theorem low (h : w.ownsRow base e size v n xs) {base' : Nat} (hb : base' ≤ base) : w.ownsRow base' e size v n xs := by
  refine ⟨h.1, ?_⟩
  rcases h.2 with hn | ⟨g, cap, cur, rfl, hb', rest⟩
  · exact .inl hn
  · exact .inr ⟨g, cap, cur, rfl, by omega, rest⟩
theorem setOther (h : w.ownsRow base e size v n xs) {q i : Nat} (hq : v.ownBlock ≠ some q) (u : Value) : (w.setCell ⟨q, i, none⟩ u).ownsRow base e size v n xs :=
  h.keep fun k hk => Go.RowKit.Below.heap_setCell w ⟨q, i, none⟩ u k (fun e => hq (by rw [hk]; exact congrArg some e))
theorem rd (h : w.ownsRow base e size v n xs) : ∃ a cap, v = .slice a n cap ∧ n ≤ cap ∧ cap ≤ 9223372036854775807 ∧ CellsIn w a xs ∧ (∀ b, a = some b → base ≤ b.block ∧ b.block < w.heap.size) ∧ (a = none → n = 0 ∧ cap = 0) := by
  have hx := h.1
  rcases h.2 with ⟨rfl, rfl⟩ | ⟨g, cap, cur, rfl, hb', hg, hn, hm, hcs, htk⟩
  · have : xs = [] := by simpa using hx
    subst this
    exact ⟨none, 0, rfl, Nat.le_refl _, by omega, CellsIn.nil _ _, by simp, fun _ => ⟨rfl, rfl⟩⟩
  · refine ⟨_, cap, rfl, hn, by unfold maxLen at hm; omega, CellsIn.of_cells (fun i hi => ?_), fun b hb => ?_, fun h => by cases h⟩
    · rw [Nat.zero_add, cell_of_row w g i cur e (0, 0) hg]
      have : cur.toList[i]? = some xs[i] := by
        rw [← List.getElem?_eq_getElem hi, ← htk, List.getElem?_take, if_pos (by omega)]
      simpa using this
    · cases hb; exact ⟨hb', (Array.getElem?_eq_some_iff.1 hg).1⟩
theorem caps {a : Option Addr} {m cap : Nat} (h : w.ownsRow base e size (.slice a m cap) n xs) : n ≤ cap ∧ cap ≤ 9223372036854775807 := by
  obtain ⟨a', c', e, h1, h2, _⟩ := h.rd
  cases e; exact ⟨h1, h2⟩
theorem cin {a : Option Addr} {m cap : Nat} (h : w.ownsRow base e size (.slice a m cap) n xs) : CellsIn w a xs := by
  obtain ⟨a', c', e, _, _, h3, _⟩ := h.rd
  cases e; exact h3
end World.ownsRow

section
variable {P : Program} {ops : Array Oper} {rest : List Oper} {o : Oper} {a : Act} {w : World} {Q : Exit → Act → World → Prop}
theorem wpList_app (hgd : o.guard = none) (s x : Operand) (t : TypeId)
    (ho : o.op = .call { callee := .builtin .append, args := #[s, x], argTypes := #[t, t] })
    {e : TypeId} {size bytes : Nat} (hE : Elem P t e size bytes) (base : Nat) (v : Value) (n : Nat) (xs : List Value) (hs : a.eval s = v) (hown : w.ownsRow base e size v n xs)
    (B m c : Nat) (cs : Array Value) (tt : TypeId) (hx : a.eval x = .slice (some ⟨B, 0, none⟩) m c) (hb : w.heap[B]? = some (.cells cs tt (0, 0))) (hl : cs.size = m * size) (h1 : ∀ u ∈ cs.toList, u.oneCell' = true)
    (hm : 0 < m) (hbytes : (n + m) * bytes ≤ 140737488355328) (h63 : n + m ≤ maxLen) (W0 : World) (hg0 : Grew W0 w) (h00 : W0.heap.size ≤ base) (hbase : base ≤ w.heap.size)
    (h : ∀ g cap w1, Grew W0 w1 → w1.ownsRow base e size (.slice (some ⟨g, 0, none⟩) (n + m) cap) (n + m) (xs ++ cs.toList) → (∀ k, k < w.heap.size → some k ≠ v.ownBlock → w1.heap[k]? = w.heap[k]?) → w.heap.size ≤ w1.heap.size → (v.ownBlock = some g ∨ g = w.heap.size) → wpList P ops Q rest (a.put o.dst (.slice (some ⟨g, 0, none⟩) (n + m) cap)) w1) : wpList P ops Q (o :: rest) a w := by
  obtain ⟨ht, i, z, hi, hz, hsz, hby, hzs, h0⟩ := hE
  refine wpList_append_lies w hgd s x t ho base e i z size bytes ht hi hz hsz hby hzs h0 v n xs hs hown _ m c cs.toList hx (by simpa using hl) (World.news_of_block hb) h1 hm h63 hbytes hbase _ rfl (fun g cap w1 hown1 hgrow hat hlt => ?_)
  exact h g cap w1 (hg0.grown hgrow (fun k hk => by have := (hown.lt k hk).1; omega)) hown1 hgrow.block hgrow.size hat
theorem wpList_apps (hgd : o.guard = none) (s x : Operand) (t : TypeId)
    (ho : o.op = .call { callee := .builtin .append, args := #[s, x], argTypes := #[t, t] })
    {e : TypeId} {size bytes : Nat} (hE : Elem P t e size bytes) (base : Nat) (v : Value) (n : Nat) (xs : List Value) (hs : a.eval s = v) (hown : w.ownsRow base e size v n xs)
    (ad : Option Addr) (m c : Nat) (news : List Value) (hx : a.eval x = .slice ad m c) (hin : CellsIn w ad news) (hl : news.length = m * size) (h1 : ∀ u ∈ news, u.oneCell' = true) (had : ad = none → m = 0 ∧ c = 0)
    (hbytes : (n + m) * bytes ≤ 140737488355328) (h63 : n + m ≤ maxLen) (W0 : World) (hg0 : Grew W0 w) (h00 : W0.heap.size ≤ base) (hbase : base ≤ w.heap.size)
    (h : ∀ ar cap w1, Grew W0 w1 → w1.ownsRow base e size (.slice ar (n + m) cap) (n + m) (xs ++ news) → (∀ k, k < w.heap.size → some k ≠ v.ownBlock → w1.heap[k]? = w.heap[k]?) → w.heap.size ≤ w1.heap.size → wpList P ops Q rest (a.put o.dst (.slice ar (n + m) cap)) w1) : wpList P ops Q (o :: rest) a w := by
  obtain ⟨ht, i, z, hi, hz, hsz, hby, hzs, h0⟩ := hE
  cases ad with
  | none =>
    obtain ⟨rfl, rfl⟩ := had rfl
    have hnil : news = [] := List.eq_nil_of_length_eq_zero (by simpa using hl)
    subst hnil
    refine wpList_plain hgd fun _ hK => ?_
    have hr := run_append_owned_none (P := P) w base t o.type e i size ht hi v n xs hown
    obtain ⟨ar, cap, rfl, _⟩ := hown.rd
    unfold Oper.wp execOp
    simp only [ho, resolve, invoke, builtin, Sem.run_bind, Sem.run_pure, Result.andThen_ok, List.map_toArray, List.map_cons, List.map_nil, hs, hx, hr]
    exact hK _ _ (h ar cap w hg0 (by simpa using hown) (fun _ _ _ => rfl) (Nat.le_refl _))
  | some ad =>
    refine wpList_append_own w hgd s x t ho base e i z size bytes ht hi hz hsz hby hzs h0 v n xs hs hown ad m c news hx hl (fun j u hu => ?_) h1 h63 hbytes hbase (fun v' w1 hown1 hgrow _ => ?_)
    · have hj : j < news.length := (List.getElem?_eq_some_iff.1 hu).1
      obtain ⟨b, off, ha, _, hc⟩ := hin.at' (by omega)
      cases ha
      have := hc j hj
      rw [← hu, List.getElem?_eq_getElem hj, ← this]
      congr 1
      unfold Addr.add; split <;> simp_all
    · obtain ⟨ar, cap, rfl, _⟩ := hown1.rd
      exact h ar cap w1 (hg0.grown hgrow (fun k hk => by have := (hown.lt k hk).1; omega)) hown1 hgrow.block hgrow.size
end

theorem World.cellsAt_block {w : World} {q : Nat} {c : Array Value} {t : TypeId} {fr : Nat × Nat} (h : w.heap[q]? = some (.cells c t fr)) (n : Nat) (hn : c.size = n) : w.cellsAt ⟨q, 0, none⟩ n = some c.toList :=
  World.cellsAt_of (by simpa using hn) (fun i hi => by rw [Nat.zero_add, cell_of_row w q i c t fr h]; simp)
theorem World.own_cell {w : World} {q : Nat} {c : Array Value} {t : TypeId} (h : w.heap[q]? = some (.cells c t (0, 0))) (i : Nat) (u : Value) (hu : c[i]? = some u) : w.cell? ⟨q, i, none⟩ = some u ∧ w.frozen? ⟨q, i, none⟩ = false := by
  refine ⟨by rw [cell_of_row w q i c t (0, 0) h, hu], frozen_of_row w q i c t h⟩
theorem World.own_setCell {w : World} {q i : Nat} {c : Array Value} {t : TypeId} (h : w.heap[q]? = some (.cells c t (0, 0))) (u : Value) : (w.setCell ⟨q, i, none⟩ u).heap[q]? = some (.cells (c.setIfInBounds i u) t (0, 0)) := by
  simp only [World.setCell, Array.getElem?_modify, if_true, h, Option.map_some]
  congr 2
theorem World.setCell_size (w : World) (p : Addr) (u : Value) : (w.setCell p u).heap.size = w.heap.size := by simp [World.setCell]
theorem World.block_setCell (w : World) (p : Addr) (u : Value) (k : Nat) (h : k ≠ p.block) : (w.setCell p u).heap[k]? = w.heap[k]? := Below.heap_setCell w p u k h

theorem World.kept_block {w w1 : World} {row : Option Nat} {q : Nat} {o : Obj} (hkeep : ∀ k, k < w.heap.size → some k ≠ row → w1.heap[k]? = w.heap[k]?) (h : w.heap[q]? = some o) (hne : row ≠ some q) : w1.heap[q]? = some o := by
  rw [hkeep q (Array.getElem?_eq_some_iff.1 h).1 (Ne.symm hne)]; exact h
theorem World.own_cell1 {w : World} {q : Nat} {u : Value} {t : TypeId} (h : w.heap[q]? = some (.cells #[u] t (0, 0))) : w.cell? ⟨q, 0, none⟩ = some u := (World.own_cell h 0 u rfl).1
theorem flat_length {α : Type} (f : α → List Value) (n : Nat) (hf : ∀ x, (f x).length = n) : ∀ xs : List α, (xs.flatMap f).length = xs.length * n
  | [] => by simp
  | x :: xs => by rw [List.flatMap_cons, List.length_append, hf, flat_length f n hf xs, List.length_cons, Nat.add_mul]; omega
theorem flat_row {α : Type} (f : α → List Value) (n : Nat) (hf : ∀ x, (f x).length = n) : ∀ (xs : List α) (i : Nat) (h : i < xs.length), ((xs.flatMap f).drop (i * n)).take n = f (xs[i]'h)
  | x :: xs, 0, _ => by
    rw [Nat.zero_mul, List.drop_zero, List.flatMap_cons]
    have := List.take_left (l₁ := f x) (l₂ := xs.flatMap f)
    rwa [hf] at this
  | x :: xs, i + 1, h => by
    have h1 : (xs.flatMap f).drop (i * n) = ((x :: xs).flatMap f).drop ((i + 1) * n) := by
      rw [List.flatMap_cons, Nat.add_mul, Nat.one_mul, Nat.add_comm, ← hf x, ← List.drop_drop, List.drop_left]
    rw [← h1]
    exact flat_row f n hf xs i (by simpa using h)
theorem CellsIn.rowAt {α : Type} {w : World} {a : Option Addr} (f : α → List Value) (n : Nat) (hf : ∀ x, (f x).length = n) (h0 : 0 < n) {xs : List α} (h : CellsIn w a (xs.flatMap f)) (hn : 0 < xs.length) :
    ∃ b off, a = some ⟨b, off, none⟩ ∧ b < w.heap.size ∧ ∀ i (hi : i < xs.length), w.cellsAt ⟨b, off + i * n, none⟩ n = some (f (xs[i]'hi)) := by
  have hlen := flat_length f n hf xs
  have hp : 0 < (xs.flatMap f).length := by rw [hlen]; exact Nat.mul_pos hn h0
  obtain ⟨b, off, ha, hb, hr⟩ := h.row hp
  refine ⟨b, off, ha, hb, fun i hi => ?_⟩
  rw [hr (i * n) n (by rw [hlen]; have : (i + 1) * n ≤ xs.length * n := Nat.mul_le_mul_right _ hi; rw [Nat.add_mul] at this; omega), flat_row f n hf]
def bv (l : List UInt8) : List Value := l.map fun b => .int .u8 b.toNat
theorem bv_length (l : List UInt8) : (bv l).length = l.length := by simp [bv]
theorem bv_get (l : List UInt8) (i : Nat) (h : i < (bv l).length) : (bv l)[i] = .int .u8 ((l[i]'(by simpa [bv] using h)).toNat : Int) := by simp [bv]
theorem bv_append (l m : List UInt8) : bv (l ++ m) = bv l ++ bv m := by simp [bv]
theorem bv_drop (l : List UInt8) (k : Nat) : bv (l.drop k) = (bv l).drop k := by simp [bv, List.map_drop]
theorem bv_take (l : List UInt8) (k : Nat) : bv (l.take k) = (bv l).take k := by simp [bv, List.map_take]
theorem bv_one (l : List UInt8) : ∀ u ∈ bv l, u.oneCell' = true := by
  intro u hu
  simp only [bv, List.mem_map] at hu
  obtain ⟨b, _, rfl⟩ := hu
  rfl
theorem conv_bytes {P : Program} {w : World} {src dst e : TypeId} (hs : P.underlying src = some (.slice e)) (he : P.underlying e = some (.int .u8)) (hd : P.underlying dst = some .string)
    {a : Option Addr} {l : List UInt8} (cap : Nat) (hin : CellsIn w a (bv l)) : (convert src dst (.slice a l.length cap)).run P w = .ok (.string ⟨l.toArray⟩) w := by
  have key : ∀ l : List UInt8, strOfNums (l.map fun b => (b.toNat : Int)) = ⟨l.toArray⟩ := by
    intro l
    unfold strOfNums
    rw [List.map_map]
    congr 2
    conv => rhs; rw [← List.map_id l]
    exact List.map_congr_left (fun b _ => by simp)
  cases l with
  | nil =>
    cases a with
    | none => exact run_convert_bytes_nil w src e hs he _ _ dst hd
    | some a =>
      obtain ⟨b, off, sp⟩ := a
      rw [run_convert_bytes_string w src dst e _ _ _ hs he hd]
      rfl
  | cons c l =>
    obtain ⟨b, off, rfl, _, hx⟩ := hin.at' (by simp [bv])
    rw [← key]
    refine run_convert_bytes_arg w src e hs he b off (c :: l).length cap ((c :: l).map fun b => (b.toNat : Int)) (by simp) (fun i hi => ?_) dst hd
    rw [hx i (by rw [bv_length]; exact hi), bv_get, List.getD_eq_getElem?_getD, List.getElem?_eq_getElem (by simpa using hi), List.getElem_map]
    rfl
end Go
/- A range over a function whose iterator calls no round, in a plain walk: the statement's rule, and a function's contract where such a statement leaves its mark among the deferred calls. No program in sight. -/
namespace Go
open Go.RowKit
set_option linter.unusedSimpArgs false
set_option linter.unusedVariables false

@[go_sem] theorem run_field_agg {P : Program} (t : TypeId) (cs : Array Value) (i : Nat) (w : World) (h : P.underlying t = some (.struct (P.fieldsOf t))) :
    (Instr.field t (.agg cs) i).run P w = match (P.fieldsOf t)[i]? with
      | some f => (part f.type cs f.offset).run P w
      | none => .halt (.stuck "Field: no such field") w := by
  simp only [Instr.field, Sem.run_bind, run_underlying h, Result.andThen_ok]
  cases (P.fieldsOf t)[i]? with
  | none => rfl
  | some f => simp [asAgg]

theorem Grew.putObj {w a : World} (h : Grew w a) {r : Nat} (hr : w.heap.size ≤ r) (o : Obj) : Grew w (a.putObj r o) := by
  refine Grew.of_parts h.os h.tape h.output (by simpa [World.putObj] using h.size) (fun k hk => ?_)
  simp only [World.putObj, Array.getElem?_setIfInBounds]
  rw [if_neg (by omega)]
  exact h.block k hk
theorem World.putObj_block {w : World} {r k : Nat} (o : Obj) (h : k ≠ r) : (w.putObj r o).heap[k]? = w.heap[k]? := by
  simp only [World.putObj, Array.getElem?_setIfInBounds]
  rw [if_neg (by omega)]
theorem World.own_set2 {w : World} {q : Nat} {c : Array Value} {t : TypeId} (h : w.heap[q]? = some (.cells c t (0, 0))) (i : Nat) (u : Value) (c' : Array Value) (hc : c.setIfInBounds i u = c') : (w.setCell ⟨q, i, none⟩ u).heap[q]? = some (.cells c' t (0, 0)) := by
  rw [← hc]; exact World.own_setCell h u
theorem heap_drew0 (w : World) : w.drew.heap = w.heap := rfl
end Go
/- Worlds that are the same but for new blocks, draws, and a few old blocks. No program in sight. -/
namespace Go
open Go.RowKit
structure GrewX (ks : List Nat) (w w' : World) : Prop where
  os : w'.os = w.os
  tape : w'.tape = w.tape
  output : w'.output = w.output
  size : w.heap.size ≤ w'.heap.size
  block : ∀ k, k < w.heap.size → k ∉ ks → w'.heap[k]? = w.heap[k]?
namespace GrewX
variable {ks : List Nat} {w a b w0 : World}
theorem refl (ks : List Nat) (w : World) : GrewX ks w w := ⟨rfl, rfl, rfl, Nat.le_refl _, fun _ _ _ => rfl⟩
theorem of_grew (h : Grew w a) : GrewX ks w a := ⟨h.os, h.tape, h.output, h.size, fun k hk _ => h.block k hk⟩
theorem trans (h : GrewX ks w a) (g : GrewX ks a b) : GrewX ks w b := ⟨g.os.trans h.os, g.tape.trans h.tape, g.output.trans h.output, Nat.le_trans h.size g.size, fun k hk hn => by rw [g.block k (Nat.lt_of_lt_of_le hk h.size) hn]; exact h.block k hk hn⟩
theorem grew (h : GrewX ks w a) (g : Grew a b) : GrewX ks w b := h.trans (of_grew g)
theorem plus (h : GrewX ks w a) (x : More) : GrewX ks w (a.plus x) := h.grew ((Grew.refl a).plus x)
theorem alloc (h : GrewX ks w a) (o : Obj) : GrewX ks w (a.alloc o) := h.grew ((Grew.refl a).alloc o)
theorem drew (h : GrewX ks w a) : GrewX ks w a.drew := h.grew (Grew.refl a).drew
theorem drewN (h : GrewX ks w a) (n : Nat) : GrewX ks w (a.drewN n) := h.grew ((Grew.refl a).drewN n)
theorem set (h : GrewX ks w a) {p : Addr} (hp : p.block ∈ ks ∨ w.heap.size ≤ p.block) (u : Value) : GrewX ks w (a.setCell p u) := by
  refine ⟨h.os, h.tape, h.output, by simpa [World.setCell] using h.size, fun k hk hn => ?_⟩
  rw [Go.RowKit.Below.heap_setCell _ _ _ _ (fun e => by rcases hp with hp | hp <;> first | exact hn (by rw [e]; exact hp) | omega)]
  exact h.block k hk hn
theorem put (h : GrewX ks w a) {r : Nat} (hr : r ∈ ks ∨ w.heap.size ≤ r) (o : Obj) : GrewX ks w (a.putObj r o) :=
  ⟨h.os, h.tape, h.output, by simpa [World.putObj] using h.size, fun k hk hn => by
    rw [World.putObj_block _ (fun e => by rcases hr with hr | hr <;> first | exact hn (by rw [e]; exact hr) | omega)]; exact h.block k hk hn⟩
theorem heap (h : GrewX ks w a) {k : Nat} {o : Obj} (hk : w.heap[k]? = some o) (hn : k ∉ ks) : a.heap[k]? = some o := by
  rw [h.block k (Array.getElem?_eq_some_iff.1 hk).1 hn]; exact hk
theorem toGrew (h : GrewX ks w a) (h0 : Grew w0 w) (hk : ∀ k ∈ ks, w0.heap.size ≤ k) : Grew w0 a :=
  Grew.of_parts (h.os.trans h0.os) (h.tape.trans h0.tape) (h.output.trans h0.output) (Nat.le_trans h0.size h.size) fun k hk0 => by
    rw [h.block k (Nat.lt_of_lt_of_le hk0 h0.size) (fun e => by have := hk k e; omega)]; exact h0.block k hk0
theorem mono {ks' : List Nat} (h : GrewX ks w a) (hs : ∀ k ∈ ks, k ∈ ks') : GrewX ks' w a := ⟨h.os, h.tape, h.output, h.size, fun k hk hn => h.block k hk fun e => hn (hs k e)⟩
theorem fresh {ks' : List Nat} (h : GrewX ks w a) (hs : ∀ k ∈ ks, k ∈ ks' ∨ w.heap.size ≤ k) : GrewX ks' w a := ⟨h.os, h.tape, h.output, h.size, fun k hk hn => h.block k hk fun e => by rcases hs k e with h | h <;> first | exact hn h | omega⟩
theorem cells (h : GrewX ks w a) {p : Option Addr} {xs : List Value} (hc : CellsIn w p xs) (hn : ∀ q, p = some q → q.block ∉ ks) : CellsIn a p xs := by
  intro hx
  obtain ⟨b, off, ha, hc'⟩ := hc hx
  refine ⟨b, off, ha, ?_⟩
  have hlt := World.cellsAt_lt hc' (List.length_pos_iff.2 hx)
  rw [World.cellsAt_congr (w := w) _ _ (fun o s => World.cell?_of_block (w := w) (h.block b hlt (hn _ ha)))]
  exact hc'
theorem cell (h : GrewX ks w a) {p : Addr} (hp : p.block < w.heap.size) (hn : p.block ∉ ks) : a.cell? p = w.cell? p := World.cell?_of_block (w := w) (h.block p.block hp hn)
end GrewX
theorem World.setCell_self {w : World} {a : Addr} {v : Value} (h : w.cell? a = some v) : w.setCell a v = w := by
  unfold World.cell? at h
  split at h
  · rename_i c t fr hb
    split at h
    · cases h
    · rename_i hs
      have : (w.heap.modify a.block fun
        | .cells c elem frozen => .cells (if a.spot.isSome then c else c.setIfInBounds a.off v) elem frozen
        | o => o) = w.heap := by
        apply Array.ext
        · simp
        · intro i h1 h2
          rw [Array.getElem_modify]
          split
          · rename_i hi
            subst hi
            have hb2 : w.heap[a.block] = .cells c t fr := by
              rw [Array.getElem?_eq_getElem h2] at hb
              exact Option.some.inj hb
            rw [hb2]
            show Obj.cells (c.setIfInBounds a.off v) t fr = Obj.cells c t fr
            congr 1
            apply Array.ext
            · simp
            · intro j j1 j2
              rw [Array.getElem_setIfInBounds]
              split
              · rename_i hj
                subst hj
                rw [Array.getElem?_eq_getElem j2] at h
                exact (Option.some.inj h).symm
              · rfl
          · rfl
      show { w with heap := _ } = w
      exact congrArg (fun z => { w with heap := z }) this
  · cases h
end Go
/- Plain law: two ways of reading: the document's (a state that was refused once stays so) and the program's (the first refusal ends all). No program in sight. -/
set_option linter.unusedVariables false
namespace Go.Par
inductive Ref where
  | wire (call : ByteArray) (at_ code : Nat)
  | form (at_ : Nat)
abbrev PM (α : Type) := Nat → Except Ref (α × Nat)
def PM.pure {α : Type} (x : α) : PM α := fun p => .ok (x, p)
def PM.bind {α β : Type} (m : PM α) (f : α → PM β) : PM β := fun p => match m p with
  | .ok (x, q) => f x q
  | .error r => .error r
structure DSt where
  p : Nat
  bad : Option Ref
abbrev DM (α : Type) := DSt → α × DSt
def DM.pure {α : Type} (x : α) : DM α := fun s => (x, s)
def DM.bind {α β : Type} (m : DM α) (f : α → DM β) : DM β := fun s => f (m s).1 (m s).2
def At (r : Ref) (p : Nat) : Prop := match r with
  | .wire _ a _ => a = p
  | .form _ => True
structure Agree {α : Type} (d : DM α) (m : PM α) : Prop where
  ok : ∀ p x q, m p = .ok (x, q) → d ⟨p, none⟩ = (x, ⟨q, none⟩)
  no : ∀ p r, m p = .error r → (d ⟨p, none⟩).2.bad = some r ∧ At r (d ⟨p, none⟩).2.p
  bad : ∀ p r, (d ⟨p, some r⟩).2 = ⟨p, some r⟩
namespace Agree
variable {α β : Type}
theorem pure (x : α) : Agree (DM.pure x) (PM.pure x) := by
  refine ⟨fun p y q h => ?_, fun p r h => ?_, fun p r => rfl⟩
  · cases h; rfl
  · cases h
theorem bind {d : DM α} {m : PM α} {f : α → DM β} {g : α → PM β} (h : Agree d m) (hf : ∀ x, Agree (f x) (g x)) : Agree (d.bind f) (m.bind g) := by
  refine ⟨fun p y q e => ?_, fun p r e => ?_, fun p r => ?_⟩
  · unfold PM.bind at e
    cases hm : m p with
    | ok a =>
      obtain ⟨x, q'⟩ := a
      rw [hm] at e
      unfold DM.bind
      rw [h.ok p x q' hm]
      exact (hf x).ok q' y q e
    | error r => rw [hm] at e; cases e
  · unfold PM.bind at e
    unfold DM.bind
    cases hm : m p with
    | ok a =>
      obtain ⟨x, q'⟩ := a
      rw [hm] at e
      rw [h.ok p x q' hm]
      exact (hf x).no q' r e
    | error r' =>
      rw [hm] at e
      cases e
      obtain ⟨h1, h2⟩ := h.no p r hm
      have hb := (hf (d ⟨p, none⟩).1).bad (d ⟨p, none⟩).2.p r
      have hs : (d ⟨p, none⟩).2 = ⟨(d ⟨p, none⟩).2.p, some r⟩ := by rw [← h1]
      rw [← hs] at hb
      rw [hb]
      exact ⟨h1, h2⟩
  · unfold DM.bind
    have hs := h.bad p r
    rw [hs]
    exact (hf _).bad p r
end Agree
def dLoop {σ : Type} (body : Nat → σ → DM σ) : Nat → Nat → σ → DM σ
  | 0, _, x => DM.pure x
  | n + 1, i, x => fun s => if s.bad.isSome then (x, s) else (body i x).bind (fun y => dLoop body n (i + 1) y) s
def dLoop' {σ : Type} (body : Nat → σ → DM σ) : Nat → Nat → σ → DM σ
  | 0, _, x => DM.pure x
  | n + 1, i, x => (body i x).bind fun y => dLoop' body n (i + 1) y
def pLoop {σ : Type} (body : Nat → σ → PM σ) : Nat → Nat → σ → PM σ
  | 0, _, x => PM.pure x
  | n + 1, i, x => (body i x).bind fun y => pLoop body n (i + 1) y
theorem Agree.loop' {σ : Type} {d : Nat → σ → DM σ} {m : Nat → σ → PM σ} (h : ∀ i x, Agree (d i x) (m i x)) : ∀ n i x, Agree (dLoop' d n i x) (pLoop m n i x)
  | 0, _, x => Agree.pure x
  | n + 1, i, x => (h i x).bind fun y => Agree.loop' h n (i + 1) y
theorem Agree.loop {σ : Type} {d : Nat → σ → DM σ} {m : Nat → σ → PM σ} (h : ∀ i x, Agree (d i x) (m i x)) : ∀ n i x, Agree (dLoop d n i x) (pLoop m n i x)
  | 0, _, x => Agree.pure x
  | n + 1, i, x => by
    have hb := (h i x).bind fun y => Agree.loop h n (i + 1) y
    refine ⟨fun p y q e => ?_, fun p r e => ?_, fun p r => ?_⟩
    · exact hb.ok p y q e
    · exact hb.no p r e
    · rfl
def scan (l : List UInt8) (most : Int) : Nat → Nat → Nat → Nat → Except Nat (Nat × Nat)
  | 0, _, _, _ => (.error 6)
  | f + 1, k, n, p => match l[p]? with
    | none => (.error 7)
    | some b =>
      let n' := n + b.toNat % 128 * 2 ^ (7 * k)
      if 128 ≤ b.toNat then scan l most f (k + 1) n' (p + 1)
      else if b.toNat = 0 ∧ 0 < k then (.error 6)
      else if most < (n' : Int) then (.error 2)
      else .ok (n', p + 1)
theorem scan_code (l : List UInt8) (m : Int) : ∀ f k n p c, scan l m f k n p = .error c → c = 2 ∨ c = 6 ∨ c = 7
  | 0, k, n, p, c, h => by rw [scan] at h; cases h; simp
  | f + 1, k, n, p, c, h => by
    rw [scan] at h
    split at h
    · cases h; simp
    · simp only at h
      split at h
      · exact scan_code l m f _ _ _ _ h
      · split at h
        · cases h; simp
        · split at h
          · cases h; simp
          · cases h
def bNumber : ByteArray := ⟨#[78, 117, 109, 98, 101, 114]⟩
def bCount : ByteArray := ⟨#[67, 111, 117, 110, 116]⟩
def bText : ByteArray := ⟨#[84, 101, 120, 116]⟩
def bByte : ByteArray := ⟨#[66, 121, 116, 101]⟩
def bEnd : ByteArray := ⟨#[69, 110, 100]⟩
section
variable (l : List UInt8)
def wNumber (most : Int) : PM Nat := fun p => match scan l most 9 0 0 p with
  | .ok x => .ok x
  | .error c => .error (.wire bNumber p c)
def wCount (least : Nat) (most : Int) : PM Nat := fun p => match scan l most 9 0 0 p with
  | .ok (n, q) => if (l.length - q) / max least 1 < n then .error (.wire bCount p 7) else .ok (n, q)
  | .error c => .error (.wire bCount p c)
def wText (most : Int) : PM (List UInt8) := fun p => match scan l most 9 0 0 p with
  | .ok (n, q) => if l.length - q < n then .error (.wire bText p 7) else .ok ((l.drop q).take n, q + n)
  | .error c => .error (.wire bText p c)
def wByte : PM UInt8 := fun p => match l[p]? with
  | some b => .ok (b, p + 1)
  | none => .error (.wire bByte p 7)
def wEnd : PM Unit := fun p => if p < l.length then .error (.wire bEnd p 6) else .ok ((), p)
def dW {α : Type} (z : α) (m : PM α) : DM α := fun s => match s.bad with
  | some r => (z, s)
  | none => match m s.p with
    | .ok (x, q) => (x, ⟨q, none⟩)
    | .error r => (z, ⟨s.p, some r⟩)
def Wired {α : Type} (m : PM α) : Prop := ∀ p r, m p = .error r → ∃ c k, r = .wire c p k
theorem dW_agree {α : Type} (z : α) {m : PM α} (h : Wired m) : Agree (dW z m) m := by
  refine ⟨fun p x q e => ?_, fun p r e => ?_, fun p r => rfl⟩
  · simp [dW, e]
  · obtain ⟨c, k, rfl⟩ := h p r e
    simp [dW, e, At]
theorem wNumber_wired (most : Int) : Wired (wNumber l most) := fun p r h => by
  unfold wNumber at h
  split at h
  · cases h
  · cases h; exact ⟨_, _, rfl⟩
theorem wCount_wired (least : Nat) (most : Int) : Wired (wCount l least most) := fun p r h => by
  unfold wCount at h
  split at h
  · split at h
    · cases h; exact ⟨_, _, rfl⟩
    · cases h
  · cases h; exact ⟨_, _, rfl⟩
theorem wText_wired (most : Int) : Wired (wText l most) := fun p r h => by
  unfold wText at h
  split at h
  · split at h
    · cases h; exact ⟨_, _, rfl⟩
    · cases h
  · cases h; exact ⟨_, _, rfl⟩
theorem wByte_wired : Wired (wByte l) := fun p r h => by
  unfold wByte at h
  split at h
  · cases h
  · cases h; exact ⟨_, _, rfl⟩
theorem wEnd_wired : Wired (wEnd l) := fun p r h => by
  unfold wEnd at h
  split at h
  · cases h; exact ⟨_, _, rfl⟩
  · cases h
def pChk {α : Type} (bad : α → Bool) (m : PM α) : PM α := fun p => match m p with
  | .ok (x, q) => if bad x then .error (.form p) else .ok (x, q)
  | .error r => .error r
def dChk {α : Type} (bad : α → Bool) (d : DM α) : DM α := fun s => match (d s).2.bad with
  | some _ => d s
  | none => ((d s).1, ⟨(d s).2.p, if bad (d s).1 then some (.form s.p) else none⟩)
theorem Agree.chk {α : Type} (bad : α → Bool) {d : DM α} {m : PM α} (h : Agree d m) : Agree (dChk bad d) (pChk bad m) := by
  refine ⟨fun p x q e => ?_, fun p r e => ?_, fun p r => ?_⟩
  · unfold pChk at e
    cases hm : m p with
    | ok a =>
      obtain ⟨y, q'⟩ := a
      rw [hm] at e
      simp only at e
      split at e
      · cases e
      · rename_i hb
        cases e
        simp [dChk, h.ok p x q hm, hb]
    | error r' => rw [hm] at e; cases e
  · unfold pChk at e
    cases hm : m p with
    | ok a =>
      obtain ⟨y, q'⟩ := a
      rw [hm] at e
      simp only at e
      split at e
      · rename_i hb
        cases e
        simp [dChk, h.ok p y q' hm, hb, At]
      · cases e
    | error r' =>
      rw [hm] at e
      cases e
      obtain ⟨h1, h2⟩ := h.no p r hm
      simp only [dChk, h1]
      exact ⟨trivial, h2⟩
  · have := h.bad p r
    simp only [dChk, this]
end
def most : Int := 9223372036854775807
structure PId where
  ep : Nat
  rp : Nat
  nb : Nat
structure PEl where
  id : PId
  ch : Nat
structure PAct where
  kind : Nat
  rep : Nat
  place : Nat
  ch : Nat
  num : Nat
  clock : List Nat
structure PRound where
  num : Nat
  cut : List Nat
  votes : List Nat
  dec : Nat
structure PChange where
  kind : Nat
  id : PId
structure POut where
  dst : Nat
  bytes : List UInt8
structure PParts where
  c0 : Nat
  c1 : Nat
  c2 : Nat
  c3 : Nat
  self : Nat
  epoch : Nat
  base : List PEl
  acts : List PAct
  held : List PAct
  rounds : List PRound
  done : List (List PChange)
  undone : List (List PChange)
  front : Bool
  cursor : PId
  out : List POut
def zId : PId := ⟨0, 0, 0⟩
def zRound : PRound := ⟨0, [], [], 0⟩
def lastOf (i n : Nat) : Nat := if i + 1 = n then 1 else 0
section
variable (l : List UInt8)
def pNum (least : Nat) (m : Int) : PM Nat := pChk (fun n => decide (n < least)) (wNumber l m)
def pCount (least : Nat) : PM Nat := wCount l least 2147483647
def pByte (lo hi : Nat) : PM UInt8 := pChk (fun b => decide (b.toNat < lo) || decide (hi < b.toNat)) (wByte l)
def pId : PM PId := (pNum l 0 most).bind fun e => (pNum l 0 most).bind fun r => (pNum l 0 most).bind fun n => PM.pure ⟨e, r, n⟩
def pRow (m : Int) : PM (List Nat) := (pNum l 0 8).bind fun n => pLoop (fun i xs => (pNum l (lastOf i n) m).bind fun v => PM.pure (xs ++ [v])) n 0 []
def pAct : PM PAct := (pByte l 1 3).bind fun k => (pNum l 0 7).bind fun r => (pNum l 0 most).bind fun a => (if k.toNat = 1 then pNum l 0 1114111 else PM.pure 0).bind fun c => (pNum l 1 most).bind fun n => (pRow l most).bind fun t => PM.pure ⟨k.toNat, r, a, c, n, t⟩
def pActs : PM (List PAct) := (pCount l 4).bind fun n => pLoop (fun _ xs => (pAct l).bind fun a => PM.pure (xs ++ [a])) n 0 []
def pRound (i n : Nat) : PM PRound := (pNum l (lastOf i n) most).bind fun v => if v = 0 then PM.pure zRound else (pRow l most).bind fun c => (pRow l 2).bind fun vs => (pNum l 0 2).bind fun d => PM.pure ⟨v, c, vs, d⟩
def pRounds : PM (List PRound) := (pNum l 0 8).bind fun n => pLoop (fun i xs => (pRound l i n).bind fun r => PM.pure (xs ++ [r])) n 0 []
def pChange : PM PChange := (pByte l 1 3).bind fun k => (pId l).bind fun i => PM.pure ⟨k.toNat, i⟩
def pEdit : PM (List PChange) := (pCount l 4).bind fun n => pLoop (fun _ xs => (pChange l).bind fun c => PM.pure (xs ++ [c])) n 0 []
def pEdits : PM (List (List PChange)) := (pCount l 1).bind fun n => pLoop (fun _ xs => (pEdit l).bind fun c => PM.pure (xs ++ [c])) n 0 []
def pEl : PM PEl := (pId l).bind fun i => (pNum l 0 1114111).bind fun c => PM.pure ⟨i, c⟩
def pBase : PM (List PEl) := (pCount l 4).bind fun n => pLoop (fun _ xs => (pEl l).bind fun c => PM.pure (xs ++ [c])) n 0 []
def pOut1 : PM POut := (pNum l 0 most).bind fun t => (wText l 2147483647).bind fun b => PM.pure ⟨t, b⟩
def pOut : PM (List POut) := (pCount l 2).bind fun n => pLoop (fun _ xs => (pOut1 l).bind fun c => PM.pure (xs ++ [c])) n 0 []
def pCursor : PM (Bool × PId) := (pByte l 0 1).bind fun f => if f.toNat = 1 then PM.pure (true, zId) else (pId l).bind fun i => PM.pure (false, i)
def pParts : PM PParts :=
  (pByte l 66 66).bind fun _ => (pNum l 0 most).bind fun c0 => (pNum l 0 most).bind fun c1 => (pNum l 0 most).bind fun c2 => (pNum l 0 most).bind fun c3 => (pNum l 0 most).bind fun s => (pNum l 0 most).bind fun e =>
  (pBase l).bind fun b => (pActs l).bind fun a => (pActs l).bind fun h => (pRounds l).bind fun r => (pEdits l).bind fun d => (pEdits l).bind fun u => (pCursor l).bind fun c => (pOut l).bind fun o => (wEnd l).bind fun _ =>
  PM.pure ⟨c0, c1, c2, c3, s, e, b, a, h, r, d, u, c.1, c.2, o⟩
def dNum (m : Int) : DM Nat := dW 0 (wNumber l m)
def dCount (least : Nat) : DM Nat := dW 0 (wCount l least 2147483647)
def dByte (lo hi : Nat) : DM UInt8 := dChk (fun b => decide (b.toNat < lo) || decide (hi < b.toNat)) (dW 0 (wByte l))
def dId : DM PId := (dNum l most).bind fun e => (dNum l most).bind fun r => (dNum l most).bind fun n => DM.pure ⟨e, r, n⟩
def dLast (i n : Nat) (m : Int) : DM Nat := dChk (fun v => decide (i + 1 = n) && decide (v = 0)) (dNum l m)
def dRow (m : Int) : DM (List Nat) := (dNum l 8).bind fun n => dLoop' (fun i xs => (dLast l i n m).bind fun v => DM.pure (xs ++ [v])) n 0 []
def dAct : DM PAct := (dByte l 1 3).bind fun k => (dNum l 7).bind fun r => (dNum l most).bind fun a => (if k.toNat = 1 then dNum l 1114111 else DM.pure 0).bind fun c => (dChk (fun n => decide (n = 0)) (dNum l most)).bind fun n => (dRow l most).bind fun t => DM.pure ⟨k.toNat, r, a, c, n, t⟩
def dActs : DM (List PAct) := (dCount l 4).bind fun n => dLoop (fun _ xs => (dAct l).bind fun a => DM.pure (xs ++ [a])) n 0 []
def dRound (i n : Nat) : DM PRound := (dLast l i n most).bind fun v => if v = 0 then DM.pure zRound else (dRow l most).bind fun c => (dRow l 2).bind fun vs => (dNum l 2).bind fun d => DM.pure ⟨v, c, vs, d⟩
def dRounds : DM (List PRound) := (dNum l 8).bind fun n => dLoop' (fun i xs => (dRound l i n).bind fun r => DM.pure (xs ++ [r])) n 0 []
def dChange : DM PChange := (dByte l 1 3).bind fun k => (dId l).bind fun i => DM.pure ⟨k.toNat, i⟩
def dEdit : DM (List PChange) := (dCount l 4).bind fun n => dLoop (fun _ xs => (dChange l).bind fun c => DM.pure (xs ++ [c])) n 0 []
def dEdits : DM (List (List PChange)) := (dCount l 1).bind fun n => dLoop (fun _ xs => (dEdit l).bind fun c => DM.pure (xs ++ [c])) n 0 []
def dEl : DM PEl := (dId l).bind fun i => (dNum l 1114111).bind fun c => DM.pure ⟨i, c⟩
def dBase : DM (List PEl) := (dCount l 4).bind fun n => dLoop (fun _ xs => (dEl l).bind fun c => DM.pure (xs ++ [c])) n 0 []
def dText : DM (List UInt8) := dW [] (wText l 2147483647)
def dOut1 : DM POut := (dNum l most).bind fun t => (dText l).bind fun b => DM.pure ⟨t, b⟩
def dOut : DM (List POut) := (dCount l 2).bind fun n => dLoop (fun _ xs => (dOut1 l).bind fun c => DM.pure (xs ++ [c])) n 0 []
def dCursor : DM (Bool × PId) := (dByte l 0 1).bind fun f => if f.toNat = 1 then DM.pure (true, zId) else (dId l).bind fun i => DM.pure (false, i)
def dEnd : DM Unit := dW () (wEnd l)
def dParts : DM PParts :=
  (dByte l 66 66).bind fun _ => (dNum l most).bind fun c0 => (dNum l most).bind fun c1 => (dNum l most).bind fun c2 => (dNum l most).bind fun c3 => (dNum l most).bind fun s => (dNum l most).bind fun e =>
  (dBase l).bind fun b => (dActs l).bind fun a => (dActs l).bind fun h => (dRounds l).bind fun r => (dEdits l).bind fun d => (dEdits l).bind fun u => (dCursor l).bind fun c => (dOut l).bind fun o => (dEnd l).bind fun _ =>
  DM.pure ⟨c0, c1, c2, c3, s, e, b, a, h, r, d, u, c.1, c.2, o⟩
open Agree
theorem num_agree (m : Int) : Agree (dNum l m) (pNum l 0 m) := by
  have h := dW_agree 0 (wNumber_wired l m)
  have e : pNum l 0 m = wNumber l m := by
    funext p
    unfold pNum pChk
    cases wNumber l m p with
    | ok a => simp
    | error r => rfl
  rw [e]; exact h
theorem least_agree (least : Nat) (m : Int) (f : Nat → Bool) (hf : ∀ n, f n = decide (n < least)) : Agree (dChk f (dNum l m)) (pNum l least m) := by
  have e : f = fun n => decide (n < least) := funext hf
  subst e
  exact (dW_agree 0 (wNumber_wired l m)).chk _
theorem last_agree (i n : Nat) (m : Int) : Agree (dLast l i n m) (pNum l (lastOf i n) m) :=
  least_agree l _ m _ fun v => by
    unfold lastOf
    by_cases h : i + 1 = n
    · simp [h, Nat.lt_one_iff]
    · simp [h]
theorem count_agree (least : Nat) : Agree (dCount l least) (pCount l least) := dW_agree 0 (wCount_wired l least _)
theorem byte_agree (lo hi : Nat) : Agree (dByte l lo hi) (pByte l lo hi) := (dW_agree 0 (wByte_wired l)).chk _
theorem id_agree : Agree (dId l) (pId l) := (num_agree l most).bind fun _ => (num_agree l most).bind fun _ => (num_agree l most).bind fun _ => pure _
theorem row_agree (m : Int) : Agree (dRow l m) (pRow l m) := (num_agree l 8).bind fun n => loop' (fun i xs => (last_agree l i n m).bind fun _ => pure _) n 0 []
theorem ite_agree {α : Type} {c : Prop} [Decidable c] {d d' : DM α} {m m' : PM α} (h : Agree d m) (h' : Agree d' m') : Agree (if c then d else d') (if c then m else m') := by
  split
  · exact h
  · exact h'
theorem act_agree : Agree (dAct l) (pAct l) :=
  (byte_agree l 1 3).bind fun _ => (num_agree l 7).bind fun _ => (num_agree l most).bind fun _ => (ite_agree (num_agree l 1114111) (pure 0)).bind fun _ =>
  (least_agree l 1 most _ fun n => by simp [Nat.lt_one_iff]).bind fun _ => (row_agree l most).bind fun _ => pure _
theorem acts_agree : Agree (dActs l) (pActs l) := (count_agree l 4).bind fun n => loop (fun _ xs => (act_agree l).bind fun _ => pure _) n 0 []
theorem round_agree (i n : Nat) : Agree (dRound l i n) (pRound l i n) :=
  (last_agree l i n most).bind fun _ => ite_agree (pure _) ((row_agree l most).bind fun _ => (row_agree l 2).bind fun _ => (num_agree l 2).bind fun _ => pure _)
theorem rounds_agree : Agree (dRounds l) (pRounds l) := (num_agree l 8).bind fun n => loop' (fun i xs => (round_agree l i n).bind fun _ => pure _) n 0 []
theorem change_agree : Agree (dChange l) (pChange l) := (byte_agree l 1 3).bind fun _ => (id_agree l).bind fun _ => pure _
theorem edit_agree : Agree (dEdit l) (pEdit l) := (count_agree l 4).bind fun n => loop (fun _ xs => (change_agree l).bind fun _ => pure _) n 0 []
theorem edits_agree : Agree (dEdits l) (pEdits l) := (count_agree l 1).bind fun n => loop (fun _ xs => (edit_agree l).bind fun _ => pure _) n 0 []
theorem el_agree : Agree (dEl l) (pEl l) := (id_agree l).bind fun _ => (num_agree l 1114111).bind fun _ => pure _
theorem base_agree : Agree (dBase l) (pBase l) := (count_agree l 4).bind fun n => loop (fun _ xs => (el_agree l).bind fun _ => pure _) n 0 []
theorem out1_agree : Agree (dOut1 l) (pOut1 l) := (num_agree l most).bind fun _ => (dW_agree [] (wText_wired l _)).bind fun _ => pure _
theorem out_agree : Agree (dOut l) (pOut l) := (count_agree l 2).bind fun n => loop (fun _ xs => (out1_agree l).bind fun _ => pure _) n 0 []
theorem cursor_agree : Agree (dCursor l) (pCursor l) := (byte_agree l 0 1).bind fun _ => ite_agree (pure _) ((id_agree l).bind fun _ => pure _)
theorem end_agree : Agree (dEnd l) (wEnd l) := dW_agree () (wEnd_wired l)
theorem parts_agree : Agree (dParts l) (pParts l) :=
  (byte_agree l 66 66).bind fun _ => (num_agree l most).bind fun _ => (num_agree l most).bind fun _ => (num_agree l most).bind fun _ => (num_agree l most).bind fun _ => (num_agree l most).bind fun _ => (num_agree l most).bind fun _ =>
  (base_agree l).bind fun _ => (acts_agree l).bind fun _ => (acts_agree l).bind fun _ => (rounds_agree l).bind fun _ => (edits_agree l).bind fun _ => (edits_agree l).bind fun _ => (cursor_agree l).bind fun _ => (out_agree l).bind fun _ => (end_agree l).bind fun _ => pure _
end
end Go.Par
/- The package's errors, as the world that a law starts in has them: one place each, no two alike. -/
namespace Go
open Go.ChangeShapes

@[go_sem] theorem run_eqGuard_iface_right {P : Program} {w : World} (op : BinOp) (t : TypeId) (x y : Operand) (v : Value) (u : TypeId) (z : Value) : (eqGuard op t x y v (.iface u z)).run P w = .ok () w := by
  cases op <;> first | rfl | (unfold eqGuard; cases v <;> rfl)
@[go_sem] theorem run_eqGuard_iface_left {P : Program} {w : World} (op : BinOp) (t : TypeId) (x y : Operand) (v : Value) (u : TypeId) (z : Value) : (eqGuard op t x y (.iface u z) v).run P w = .ok () w := by
  cases op <;> first | rfl | (unfold eqGuard; cases v <;> rfl)

def laidErr (nm : String) (x : String × List UInt8) : String × DataW Unit := (x.1, .iface nm (.ptr (.agg [.lit (.string x.2)])))

structure ErrAtName (P : Program) (tp : TypeId) (w : World) (x : String × List UInt8) (a : Addr) : Prop where
  at' : ∃ g, P.globalNamed x.1 = some g ∧ w.cell? ⟨g, 0, none⟩ = some (.iface tp (.pointer (some a)))
  text : ∃ s, w.cell? a = some (.string s) ∧ s.data.toList = x.2 ∧ s.size ≤ maxLen

theorem errs_of_laid {P : Program} {w : World} {ti tp te ts : TypeId} {ms : Array (String × TypeId)} {nm : String} {f : Field}
    (hi : P.underlying ti = some (.interface ms)) (hrow : ∀ u, P.typeName? 3 u = some nm → u = tp)
    (hp : P.underlying tp = some (.pointer te)) (he : P.underlying te = some (.struct #[f])) (hft : f.type = ts) (hfo : f.offset = 0) (hs : P.underlying ts = some .string) (hc : P.cellsOf te = 1) (hcs : P.cellsOf ts = 1) :
    ∀ (L : List (String × List UInt8)) (ps : List MemPlace), (L.all fun x => (P.globalNamed x.1).bind (fun g => (P.globals[g]?).map (·.type)) == some ti) = true →
      DataW.LaidVars P w (L.map (laidErr nm)) ps → ps.Nodup → (∀ b off, MemPlace.cell b off ∈ ps → ∀ u v, w.cell? ⟨b, off, none⟩ = some (.iface u v) → Value.okWide P w .any 0 u v) →
      ∃ ads : List Addr, (ads.length = L.length ∧ ∀ (i : Nat) x a, L[i]? = some x → ads[i]? = some a → ErrAtName P tp w x a) ∧ (∀ a ∈ ads, MemPlace.cell a.block a.off ∈ ps) ∧ ads.Nodup
  | [], ps, _, h, _, _ => ⟨[], ⟨rfl, fun i x a h => by simp at h⟩, fun a ha => by simp at ha, List.nodup_nil⟩
  | (n, t) :: L, ps, hg, h, hnd, hrows => by
    obtain ⟨g, t', cs, fuel, p, q, hgn, hgt, hv, hd, hr, rfl⟩ := h
    simp only [List.all_cons, Bool.and_eq_true, beq_iff_eq] at hg
    obtain ⟨hg1, hg2⟩ := hg
    rw [hgn] at hg1
    simp only [Option.bind_some] at hg1
    obtain rfl : t' = ti := by rw [hgt] at hg1; exact Option.some.inj hg1
    obtain ⟨l⟩ := cs
    have hn2 := List.nodup_append.1 hnd
    have hn1 := List.nodup_append.1 hn2.1
    obtain ⟨ads, ⟨hl1, h1⟩, h2, h3⟩ := errs_of_laid hi hrow hp he hft hfo hs hc hcs L q hg2 hr hn2.2.1 (fun b off hb => hrows b off (by simp [hb]))
    have ok : ∀ u v, l = [.iface u v] → Value.okWide P w .any 0 u v := fun u v e => by
      subst e
      exact hrows g 0 (by simp [MemPlace.row]) u v (by simpa using World.var?_cell hgn hv 0)
    obtain ⟨a, s, rfl, hcell, hst, hsz, rfl⟩ := errorString_of_trod hi hrow hp he hft hfo hs hc hcs hd ok
    refine ⟨a :: ads, ⟨by simp [hl1], fun i x b hx hb => ?_⟩, ?_, ?_⟩
    · cases i with
      | zero =>
        simp only [List.getElem?_cons_zero, Option.some.injEq] at hx hb
        subst hx; subst hb
        exact ⟨⟨g, hgn, by simpa using World.var?_cell hgn hv 0⟩, ⟨s, hcell, hst, hsz⟩⟩
      | succ i => exact h1 i x b (by simpa using hx) (by simpa using hb)
    · intro b hb
      rcases List.mem_cons.1 hb with rfl | hb
      · simp [MemPlace.row]
      · simp [h2 b hb]
    · refine List.nodup_cons.2 ⟨fun ha => ?_, h3⟩
      exact hn2.2.2 (.cell a.block a.off) (by simp [MemPlace.row]) _ (h2 a ha) rfl
end Go

namespace Go.Proofs.YtnhmekdnfinmiaaGreatDoor
open Go.RowKit Go.ChangeShapes

def errNames : List (String × List UInt8) := [("barrow/api.ErrArg", [98, 97, 100, 32, 97, 114, 103, 117, 109, 101, 110, 116]), ("barrow/api.ErrRange", [111, 117, 116, 32, 111, 102, 32, 114, 97, 110, 103, 101]), ("barrow/api.ErrText", [98, 97, 100, 32, 116, 101, 120, 116]), ("barrow/api.ErrFull", [110, 111, 32, 99, 114, 101, 100, 105, 116, 32, 108, 101, 102, 116]), ("barrow/api.ErrFrozen", [102, 114, 111, 122, 101, 110]), ("barrow/api.ErrForm", [98, 97, 100, 32, 102, 111, 114, 109]), ("barrow/api.ErrShort", [99, 117, 116, 32, 115, 104, 111, 114, 116]), ("barrow/api.ErrOrder", [110, 111, 116, 32, 121, 101, 116]), ("barrow/api.ErrTwice", [116, 104, 101, 114, 101, 32, 97, 108, 114, 101, 97, 100, 121]), ("barrow/api.ErrEpoch", [97, 110, 111, 116, 104, 101, 114, 32, 101, 112, 111, 99, 104]), ("barrow/api.ErrBusy", [98, 117, 115, 121]), ("barrow/api.ErrNone", [110, 111, 116, 104, 105, 110, 103, 32, 116, 104, 101, 114, 101]), ("barrow/api.ErrRoom", [110, 111, 32, 114, 111, 111, 109]), ("barrow/api.ErrOther", [115, 111, 109, 101, 116, 104, 105, 110, 103, 32, 101, 108, 115, 101])]

abbrev errV (a : Addr) : Value := .iface 357 (.pointer (some a))

structure Sents (S : Nat → Addr) (w : World) : Prop where
  s1 : w.cell? ⟨0, 0, none⟩ = some (errV (S 1))
  s2 : w.cell? ⟨2, 0, none⟩ = some (errV (S 2))
  s3 : w.cell? ⟨1, 0, none⟩ = some (errV (S 3))
  s4 : w.cell? ⟨4, 0, none⟩ = some (errV (S 4))
  s5 : w.cell? ⟨3, 0, none⟩ = some (errV (S 5))
  s6 : w.cell? ⟨5, 0, none⟩ = some (errV (S 6))
  s7 : w.cell? ⟨6, 0, none⟩ = some (errV (S 7))
  s8 : w.cell? ⟨9, 0, none⟩ = some (errV (S 8))
  s9 : w.cell? ⟨10, 0, none⟩ = some (errV (S 9))
  s10 : w.cell? ⟨11, 0, none⟩ = some (errV (S 10))
  s11 : w.cell? ⟨12, 0, none⟩ = some (errV (S 11))
  s12 : w.cell? ⟨13, 0, none⟩ = some (errV (S 12))
  s13 : w.cell? ⟨14, 0, none⟩ = some (errV (S 13))
  s14 : w.cell? ⟨15, 0, none⟩ = some (errV (S 14))
  ne : ∀ c d, 1 ≤ c → c ≤ 14 → 1 ≤ d → d ≤ 14 → S c = S d → c = d
  blk : ∀ c, 1 ≤ c → c ≤ 14 → ∃ ca ta, w.heap[(S c).block]? = some (.cells ca ta (0, 0))
  txt : ∀ c, 1 ≤ c → c ≤ 14 → ∃ s : ByteArray, w.cell? (S c) = some (.string s) ∧ s.data.toList = (errNames.getD (c - 1) default).2 ∧ s.size ≤ maxLen

theorem Sents.plus {S : Nat → Addr} {w : World} (h : Sents S w) (x : More) : Sents S (w.plus x) :=
  ⟨by rw [World.cell?_plus _ _ _ (by rw [h.s1]; rfl), h.s1], by rw [World.cell?_plus _ _ _ (by rw [h.s2]; rfl), h.s2], by rw [World.cell?_plus _ _ _ (by rw [h.s3]; rfl), h.s3], by rw [World.cell?_plus _ _ _ (by rw [h.s4]; rfl), h.s4], by rw [World.cell?_plus _ _ _ (by rw [h.s5]; rfl), h.s5], by rw [World.cell?_plus _ _ _ (by rw [h.s6]; rfl), h.s6], by rw [World.cell?_plus _ _ _ (by rw [h.s7]; rfl), h.s7], by rw [World.cell?_plus _ _ _ (by rw [h.s8]; rfl), h.s8], by rw [World.cell?_plus _ _ _ (by rw [h.s9]; rfl), h.s9], by rw [World.cell?_plus _ _ _ (by rw [h.s10]; rfl), h.s10], by rw [World.cell?_plus _ _ _ (by rw [h.s11]; rfl), h.s11], by rw [World.cell?_plus _ _ _ (by rw [h.s12]; rfl), h.s12], by rw [World.cell?_plus _ _ _ (by rw [h.s13]; rfl), h.s13], by rw [World.cell?_plus _ _ _ (by rw [h.s14]; rfl), h.s14], h.ne, fun c h0 h1 => by
    obtain ⟨ca, ta, hb⟩ := h.blk c h0 h1
    exact ⟨ca, ta, by rw [World.block_plus w x _ (Array.getElem?_eq_some_iff.1 hb).1, hb]⟩, fun c h0 h1 => by
    obtain ⟨s, h2, h3⟩ := h.txt c h0 h1
    exact ⟨s, by rw [World.cell?_plus _ _ _ (by rw [h2]; rfl), h2], h3⟩⟩
theorem Sents.grew {S : Nat → Addr} {w w' : World} (h : Sents S w) (g : Grew w w') : Sents S w' := by
  obtain ⟨x, rfl⟩ := g
  exact h.plus x

theorem row_errString (u : TypeId) (h : Tryz.prog.typeName? 3 u = some "*errors.errorString") : u = 357 :=
  typeName_ptr_named (nm := "errors.errorString") (by rw [show "*" ++ "errors.errorString" = "*errors.errorString" by decide]; kernel_rfl) (by kernel_rfl) (by decide) u (by rw [show "*" ++ "errors.errorString" = "*errors.errorString" by decide]; exact h)

set_option maxRecDepth 100000 in
theorem sents_of_laid {W : World} {laid : List (String × DataW Unit)} (h : laidMetH Tryz.prog laid W) (keep : String × DataW Unit → Bool)
    (hk : (laid.filter fun x => keep x && x.2.handleName?.isNone) = errNames.map (laidErr "*errors.errorString")) :
    ∃ S, Sents S W := by
  have h1 := (laidMetH_iff.1 h).1.filter keep
  rw [List.filter_filter, hk] at h1
  obtain ⟨ps, hl, hnd, hrows⟩ := h1
  obtain ⟨ads, ⟨hlen, h2⟩, hpl, h3⟩ := errs_of_laid Tryz.underlying49 row_errString Tryz.underlying357 Tryz.underlying371 rfl rfl Tryz.underlying9 (by kernel_rfl) (by kernel_rfl) errNames ps (by kernel_rfl) hl hnd (fun b off hb => (hrows b off hb).2)
  have hlen' : ads.length = 14 := hlen
  have key : ∀ i x g, errNames[i]? = some x → Tryz.prog.globalNamed x.1 = some g → i < 14 → W.cell? ⟨g, 0, none⟩ = some (errV (ads.getD (i + 1 - 1) default)) := fun i x g hx hg hi => by
    obtain ⟨⟨g', hg', hc⟩, _⟩ := h2 i x (ads.getD i default) hx (by simp [List.getD_eq_getElem?_getD, List.getElem?_eq_getElem (show i < ads.length by omega)])
    obtain rfl := Option.some.inj (hg.symm.trans hg')
    simpa using hc
  refine ⟨fun c => ads.getD (c - 1) default, key 0 _ _ rfl (by kernel_rfl) (by decide), key 1 _ _ rfl (by kernel_rfl) (by decide), key 2 _ _ rfl (by kernel_rfl) (by decide), key 3 _ _ rfl (by kernel_rfl) (by decide), key 4 _ _ rfl (by kernel_rfl) (by decide), key 5 _ _ rfl (by kernel_rfl) (by decide), key 6 _ _ rfl (by kernel_rfl) (by decide), key 7 _ _ rfl (by kernel_rfl) (by decide), key 8 _ _ rfl (by kernel_rfl) (by decide), key 9 _ _ rfl (by kernel_rfl) (by decide), key 10 _ _ rfl (by kernel_rfl) (by decide), key 11 _ _ rfl (by kernel_rfl) (by decide), key 12 _ _ rfl (by kernel_rfl) (by decide), key 13 _ _ rfl (by kernel_rfl) (by decide), fun c d hc1 hc2 hd1 hd2 e => ?_, fun c h0 h1 => ?_, fun c h0 h1 => ?_⟩
  all_goals have gd : ∀ i, (h : i < ads.length) → ads.getD i default = ads[i] := fun i h => by simp [List.getD_eq_getElem?_getD, List.getElem?_eq_getElem h]
  · have e' : ads[c - 1]'(by omega) = ads[d - 1]'(by omega) := by rw [← gd _ (by omega), ← gd _ (by omega)]; exact e
    have hp := List.pairwise_iff_getElem.1 h3
    rcases Nat.lt_trichotomy (c - 1) (d - 1) with hl | hl | hl
    · exact absurd e' (hp _ _ _ _ hl)
    · omega
    · exact absurd e'.symm (hp _ _ _ _ hl)
  · rw [gd (c - 1) (by omega)]
    obtain ⟨ca, ta, hb⟩ := (hrows _ _ (hpl _ (List.getElem_mem (by omega : c - 1 < ads.length)))).1
    exact ⟨ca, ta, hb⟩
  · rw [gd (c - 1) (by omega)]
    have hx : c - 1 < errNames.length := by show c - 1 < 14; omega
    obtain ⟨_, s, h5, h6, h7⟩ := h2 (c - 1) errNames[c - 1] ads[c - 1] (List.getElem?_eq_getElem hx) (List.getElem?_eq_getElem (by omega))
    refine ⟨s, h5, ?_, h7⟩
    rw [h6, List.getD_eq_getElem?_getD, List.getElem?_eq_getElem hx]; rfl
end Go.Proofs.YtnhmekdnfinmiaaGreatDoor
/- A region that draws its order: a head of operations that are quiet over a class of worlds, walked once in the text's order, then a tail whose order is forced (a store of what the head has worked out). Stated over the class of worlds that have grown by new blocks and draws. -/
namespace Go

section
variable {P : Program} {ops : Array Oper} {md : Region.Mode} {C : World → Prop}

def wpAnyQL (P : Program) (md : Region.Mode) (ops : Array Oper) (C : World → Prop) (n : Nat) (L : Array Bool → Act → Prop) : Nat → Array Bool → Act → Prop
  | 0, listed, a => L listed a
  | f + 1, listed, a =>
    Region.ready md ops listed ≠ [] ∧ ∀ i ∈ Region.ready md ops listed, i < n ∧ qOp P ops C i (wpAnyQL P md ops C n L f (listed.setIfInBounds i true)) a

theorem wpAny_of_headQ {n g : Nat} {L : Array Bool → Act → Prop} {Q' : Exit → Act → World → Prop} (hL : ∀ listed a w, C w → L listed a → wpAny P md ops Q' g listed a w) :
    ∀ (f : Nat) (listed : Array Bool) (a : Act) (w : World), C w → wpAnyQL P md ops C n L f listed a → wpAny P md ops Q' (f + g) listed a w
  | 0, listed, a, w, hw, h => by rw [Nat.zero_add]; exact hL _ _ _ hw h
  | f + 1, listed, a, w, hw, h => by
    rw [show f + 1 + g = (f + g) + 1 by omega]
    exact ⟨fun h0 => absurd h0 h.1, fun i hi => wpOp_of_qOp hw (fun a' w' hw' h' => wpAny_of_headQ hL f _ a' w' hw' h') (h.2 i hi).2⟩

theorem wpAnyQL_first {n i : Nat} {oi : Oper} {v : Value} {L : Array Bool → Act → Prop} (hi : ops[i]? = some oi) (hsel : ∀ (j : Nat) (o : Oper) cs b, ops[j]? = some o → o.op ≠ .select cs b)
    (hs : Region.sinkB md ops n = true) (hc : Region.chainB md ops n = true) (hn : n < ops.size) (hin : i < n)
    (hdone : ∀ listed a, L listed a → ∀ j ∈ Region.ready md ops listed, n ≤ j) :
    ∀ (f : Nat) (listed : Array Bool) (a : Act), HeadInv md ops n listed →
      (∀ j oj, ops[j]? = some oj → j ≠ i → listed.getD j true = false → (∀ e ∈ oj.after, Region.binds md e = true → e.on ≠ i) → oi.apart ops oj = true) →
      i ∈ Region.ready md ops listed → YieldsIn P ops C oi v a →
      wpAnyQL P md ops C n L f (listed.setIfInBounds i true) (a.put oi.dst v) → wpAnyQL P md ops C n L (f + 1) listed a := by
  intro f
  induction f with
  | zero =>
    intro listed a inv _ hr hy H
    have hun := (mem_ready.1 hr).1
    refine ⟨fun h => (by rw [h] at hr; cases hr), fun j hj => ?_⟩
    have hjn : j < n := by
      rcases Nat.lt_or_ge j n with h | h
      · exact h
      · exact absurd hj (tail_waits hs hc hn inv _ i rfl hin hun j h)
    refine ⟨hjn, ?_⟩
    by_cases hji : j = i
    · subst hji; exact hy.qOp hi H
    · have := hdone _ _ H j (ready_mono hj hji)
      omega
  | succ f ih =>
    intro listed a inv hfree hr hy H
    have hun := (mem_ready.1 hr).1
    refine ⟨fun h => (by rw [h] at hr; cases hr), fun j hj => ?_⟩
    have hjn : j < n := by
      rcases Nat.lt_or_ge j n with h | h
      · exact h
      · exact absurd hj (tail_waits hs hc hn inv _ i rfl hin hun j h)
    refine ⟨hjn, ?_⟩
    by_cases hji : j = i
    · subst hji; exact hy.qOp hi H
    · have h1 := (H.2 j (ready_mono hj hji)).2
      obtain ⟨hjun, oj, hoj, hall⟩ := mem_ready.1 hj
      have hnot : ∀ e ∈ oj.after, Region.binds md e = true → e.on ≠ i := fun e he hb heq => by
        have h1 := hall e he hb
        rw [heq, getD_both hun] at h1
        cases h1
      have h2 := qOp_put hoj (hfree j oj hoj hji hjun hnot) (fun cs b => hsel i oi cs b hi) (fun cs b => hsel j oj cs b hoj) hy h1
      have hfree' : ∀ k ok, ops[k]? = some ok → k ≠ i → (listed.setIfInBounds j true).getD k true = false →
          (∀ e ∈ ok.after, Region.binds md e = true → e.on ≠ i) → oi.apart ops ok = true := fun k ok hk hki hun hno => by
        refine hfree k ok hk hki ?_ hno
        by_cases hjk : j = k
        · subst hjk; exact hjun
        · rw [getD_set_ne true hjk] at hun; exact hun
      refine qOp_mono (fun a' h3 => ih (listed.setIfInBounds j true) a' (inv.set hj hjn) hfree' (ready_mono hr (Ne.symm hji)) h3.1 ?_) h2
      rw [Array.setIfInBounds_comm _ _ hji]
      exact h3.2

theorem wpAnyQL_lex {n g : Nat} {Lq : Act → Prop} (hsel : Region.noSelect ops = true) (hs : Region.sinkB md ops n = true) (hc : Region.chainB md ops n = true) (hn : n < ops.size) :
    ∀ (l : List Oper) (k : Nat) (listed : Array Bool) (a : Act), (∀ j, j < l.length → l[j]? = ops[k + j]?) → k + l.length = n → HeadInv md ops n listed →
    Region.lexHead md ops g l.length k listed = true → wpQuiet P ops C Lq l a →
    wpAnyQL P md ops C n (fun listed' a' => Region.seqB md ops g n listed' = true ∧ Lq a') l.length listed a
  | [], k, listed, a, _, hk, _, hB, h => by
    have : k = n := by simpa using hk
    subst this
    exact ⟨by simpa [Region.lexHead] using hB, h⟩
  | o :: l, k, listed, a, hl, hk, inv, hB, h => by
    have h0 : ops[k]? = some o := by simpa using (hl 0 (by simp)).symm
    simp only [List.length_cons, Region.lexHead, Bool.and_eq_true] at hB
    obtain ⟨⟨hr, hf⟩, hB'⟩ := hB
    have hkn : k < n := by simp only [List.length_cons] at hk; omega
    have hr' : k ∈ Region.ready md ops listed := by simpa using hr
    have hst : qOp P ops C k (wpQuiet P ops C Lq l) a := by unfold qOp; simp only [h0]; exact h
    obtain ⟨v, hy, hK⟩ := yieldsIn_of_qOp h0 hst
    exact wpAnyQL_first h0 (Region.noSelect_spec hsel) hs hc hn hkn (fun listed' a' hL => seqB_ready hL.1) l.length listed a inv (Region.free_spec h0 hf) hr' hy
      (wpAnyQL_lex hsel hs hc hn l (k + 1) _ _ (fun j hj => by have := hl (j + 1) (by simp; omega); simpa [Nat.add_assoc, Nat.add_comm 1 j] using this) (by simp only [List.length_cons] at hk; omega) (inv.set hr' hkn) hB' hK)

theorem wp_region_quiet_tail {id : Nat} {Q : Exit → Act → World → Prop} {a : Act} {w : World} {l : List Oper} (n : Nat) (hm : P.follows .mixedOrders = true) (hB : Region.lexTailB .any l.toArray n = true) (hC : C { w with drawn := w.drawn + 1 })
    (h : wpQuiet P l.toArray C (fun a' => ∀ w', C w' → wpList P l.toArray Q (l.drop n) a' w') (l.take n) a) : (Code.region id l.toArray true).wp P Q a w := by
  simp only [Region.lexTailB, Bool.and_eq_true, decide_eq_true_eq] at hB
  obtain ⟨⟨⟨⟨hsel, hn⟩, hs⟩, hc⟩, hlex⟩ := hB
  have hn' : n < l.length := by simpa using hn
  have htl : (l.take n).length = n := by simp; omega
  have hdl : (l.drop n).length = l.toArray.size - n := by simp
  have inv0 : HeadInv .any l.toArray n (Array.replicate l.toArray.size false) :=
    ⟨by simp, fun j oj _ hl => (by rw [getD_replicate_false] at hl; cases hl), fun t _ ht => getD_in (by simpa using ht) (getD_replicate_false _ _)⟩
  have H := wpAnyQL_lex (md := .any) (g := l.toArray.size - n) hsel hs hc hn (l.take n) 0 _ a (fun j hj => by
    have hj' : j < n := by rw [htl] at hj; exact hj
    simp [hj']) (by simpa using htl) inv0 (by rw [htl]; exact hlex) h
  refine wp_region_any hm ?_
  have := wpAny_of_headQ (Q' := Q) (g := l.toArray.size - n) (fun listed a' w' hw' hL => by
    have := wpAny_of_seq (md := .any) (Q' := Q) (l.drop n) n listed a' w' (fun j => by simp [List.getElem?_drop]) (by rw [hdl]; exact hL.1) (hL.2 w' hw')
    rwa [hdl] at this) _ _ _ _ hC H
  rw [htl, show n + (l.toArray.size - n) = l.toArray.size by omega] at this
  exact this
end

theorem wp_region_plus_tail {P : Program} {id : Nat} {Q : Exit → Act → World → Prop} {a : Act} {w : World} {l : List Oper} (n : Nat) (hm : P.follows .mixedOrders = true) (hB : Region.lexTailB .any l.toArray n = true)
    (h : wpQuiet P l.toArray (fun w' => ∃ x, w' = w.plus x) (fun a' => ∀ w', (∃ x, w' = w.plus x) → wpList P l.toArray Q (l.drop n) a' w') (l.take n) a) : (Code.region id l.toArray true).wp P Q a w :=
  wp_region_quiet_tail (C := fun w' => ∃ x, w' = w.plus x) n hm hB ⟨⟨#[], w.drawn + 1⟩, by simp [World.plus]⟩ h
end Go
/- Walks: the reasons by their numbers, and the number of a reason; errors as trees. -/
namespace Go.Proofs.YtnhmekdnfinmiaaGreatDoor
open Go.RowKit
set_option linter.unusedSimpArgs false
set_option linter.unusedVariables false

set_option maxHeartbeats 2000000 in
theorem named_in {S : Nat → Addr} {w : World} (hS : Sents S w) (c : Int) (h0 : 1 ≤ c) (h1 : c ≤ 13) :
    Calls Tryz.prog 97 #[.int .i64 c] w fun e w' => e = .returned (errV (S c.toNat)) ∧ Grew w w' := by
  obtain ⟨s1, s2, s3, s4, s5, s6, s7, s8, s9, s10, s11, s12, s13, s14, hne, hbl, htx⟩ := hS
  clear hne hbl htx
  have hc : c = 1 ∨ c = 2 ∨ c = 3 ∨ c = 4 ∨ c = 5 ∨ c = 6 ∨ c = 7 ∨ c = 8 ∨ c = 9 ∨ c = 10 ∨ c = 11 ∨ c = 12 ∨ c = 13 := by omega
  rcases hc with rfl | rfl | rfl | rfl | rfl | rfl | rfl | rfl | rfl | rfl | rfl | rfl | rfl <;>
  · go_enter Tryz.func97, Tryz.ntmps97
    go_wp2_with fail
    go_ret
    exact ⟨rfl, by repeat (first | with_reducible exact HG.out | with_reducible exact Grew.refl _ | with_reducible assumption | with_reducible apply Grew.plus | with_reducible apply Grew.drewN | with_reducible apply Grew.drew | with_reducible apply Grew.alloc | with_reducible refine Grew.setCell ?_ (by simp [go_sem]; try omega) _)⟩

abbrev faultV (a : Addr) : Value := .iface 122 (.pointer (some a))
abbrev manyV (a : Addr) : Value := .iface 169 (.pointer (some a))

def IsNum (S : Nat → Addr) (w : World) (v : Value) (k : Nat) : Prop :=
  ∀ c : Nat, 1 ≤ c → c ≤ 13 → ∀ w', Grew w w' → (binOp .eql 49 v (errV (S c))).run Tryz.prog w' = .ok (.bool (decide (c = k))) w'
set_option maxRecDepth 100000 in
theorem isNum_reason {S : Nat → Addr} {w : World} (hS : Sents S w) (k : Nat) (h0 : 1 ≤ k) (h1 : k ≤ 14) : IsNum S w (errV (S k)) k := by
  intro c hc0 hc1 w' hg
  have hS' := hS.grew hg
  have hi : ∃ i, Tryz.prog.info? 357 = some i ∧ i.comparable = true := ⟨_, rfl, by kernel_rfl⟩
  have hj : ∃ j, Tryz.prog.info? 371 = some j ∧ j.size ≠ 0 := ⟨_, rfl, by decide +kernel⟩
  obtain ⟨i, hi, hic⟩ := hi
  obtain ⟨j, hj, hjz⟩ := hj
  by_cases e : c = k
  · subst e
    rw [decide_eq_true rfl]
    exact run_eql_iface_ptr_same w' _ Tryz.underlying49 Tryz.underlying357 hi hic hj
  · rw [decide_eq_false e]
    obtain ⟨ca, ta, ha⟩ := hS'.blk k h0 h1
    obtain ⟨cb, tb, hb⟩ := hS'.blk c hc0 (by omega)
    exact run_eql_iface_ptr_other w' Tryz.underlying49 Tryz.underlying357 hi hic hj hjz (fun h => e (hS.ne k c h0 h1 hc0 (by omega) h).symm) ha hb
theorem eql_iface_types (w : World) (t u : TypeId) (x y : Value) (h : t ≠ u) : (binOp .eql 49 (.iface t x) (.iface u y)).run Tryz.prog w = .ok (.bool false) w := by
  have key : ∀ d : Nat, (Op.equalIn (d + 1) 49 (.iface t x) (.iface u y)).run Tryz.prog w = .ok false w := fun d => by
    simp [Op.equalIn, run_underlying Tryz.underlying49, h]
  simp only [binOp]
  simp [Op.equal, Op.maxDepth, key 9999]
theorem isNum_other {S : Nat → Addr} {w : World} (t : TypeId) (x : Value) (h : t ≠ 357) : IsNum S w (.iface t x) 0 := by
  intro c hc0 hc1 w' hg
  rw [decide_eq_false (by omega)]
  exact eql_iface_types w' _ _ _ _ h

def numOf (k : Nat) : Nat := if k ≤ 13 then k else 0
set_option maxRecDepth 100000 in
set_option maxHeartbeats 1000000 in
theorem number_any {S : Nat → Addr} {w w0 : World} (hS : Sents S w0) (v : Value) (k : Nat) (hk : IsNum S w0 v k) (hg : Grew w0 w) :
    Calls Tryz.prog 64 #[v] w fun e w' => e = .returned (.int .i64 (numOf k)) ∧ Grew w w' := by
  have HS := Lib.hid hS
  have HK := Lib.hid hk
  have HG0 := Lib.hid hg
  clear hS hk hg
  go_enter Tryz.func64, Tryz.ntmps64
  go_wp2_with fail
  go_loopg [3] 13 (fun g s3 wr => ∃ c : Nat, 1 ≤ c ∧ c ≤ 14 ∧ s3 = .int .i64 c ∧ g = 14 - c ∧ (∀ d, 1 ≤ d → d < c → d ≠ k) ∧ Grew w wr)
  case atStart => exact ⟨1, by omega, by omega, rfl, rfl, fun d h0 h1 => by omega, Grew.refl _⟩
  case round =>
    obtain ⟨c, hc1, hc2, rfl, hgm, hno, hgw⟩ := hrel
    have HGM := Lib.hid hgm
    have HNO := Lib.hid hno
    have HG := Lib.hid hgw
    clear hgm hno
    by_cases hlt : c ≤ 13
    · have hcmp := fun gx => HK.out c hc1 hlt (wr.plus gx) (HG0.out.trans (hgw.plus gx))
      have NC := Lib.hid (named_in (HS.out.grew (HG0.out.trans hgw)) c (by omega) (by omega))
      rw [Int.toNat_natCast] at NC
      clear hgw
      generalize hb : decide (c = k) = b at *
      have HB := Lib.hid hb
      clear hb
      cases b
      case false =>
        go_wp2_with (go_at_call 97; refine NC.out.mono ?_; rintro e w' ⟨rfl, gx, rfl⟩)
        go_roundg (14 - (c + 1))
        case measure => rw [HGM.out]; omega
        case rel => exact ⟨c + 1, by omega, by omega, by go_num, rfl, fun d h0 h1 => (Nat.lt_succ_iff_lt_or_eq.1 h1).elim (fun h => HNO.out d h0 h) (fun h => h ▸ of_decide_eq_false HB.out), by repeat (first | with_reducible exact HG.out | with_reducible exact Grew.refl _ | with_reducible assumption | with_reducible apply Grew.plus | with_reducible apply Grew.drewN | with_reducible apply Grew.drew | with_reducible apply Grew.alloc | with_reducible refine Grew.setCell ?_ (by simp [go_sem]; try omega) _)⟩
      case true =>
        go_wp2_with (go_at_call 97; refine NC.out.mono ?_; rintro e w' ⟨rfl, gx, rfl⟩)
        go_ret
        have e := of_decide_eq_true HB.out
        subst e
        exact ⟨ret_int (by unfold numOf; rw [if_pos hlt]), by repeat (first | with_reducible exact HG.out | with_reducible exact Grew.refl _ | with_reducible assumption | with_reducible apply Grew.plus | with_reducible apply Grew.drewN | with_reducible apply Grew.drew | with_reducible apply Grew.alloc | with_reducible refine Grew.setCell ?_ (by simp [go_sem]; try omega) _)⟩
    · obtain rfl : c = 14 := by omega
      clear hgw
      go_wp2_with fail
      go_ret
      refine ⟨ret_int ?_, by repeat (first | with_reducible exact HG.out | with_reducible exact Grew.refl _ | with_reducible assumption | with_reducible apply Grew.plus | with_reducible apply Grew.drewN | with_reducible apply Grew.drew | with_reducible apply Grew.alloc | with_reducible refine Grew.setCell ?_ (by simp [go_sem]; try omega) _)⟩
      unfold numOf
      split
      · by_cases h0 : k = 0
        · subst h0; rfl
        · exact absurd rfl (HNO.out k (by omega) (by omega))
      · rfl
end Go.Proofs.YtnhmekdnfinmiaaGreatDoor
/- An error as a tree, and where it lies: a reason, a refusal around an error, several errors. The walk through it. -/

namespace Go.Proofs.YtnhmekdnfinmiaaGreatDoor
open Go.RowKit
set_option linter.unusedSimpArgs false
set_option linter.unusedVariables false

inductive Err where
  | none
  | reason (c : Nat)
  | fault (l c : ByteArray) (i : Int) (e : Err)
  | many (es : List Err)

mutual
def Err.walk {σ : Type} (f : σ → Nat → σ × Bool) : Err → σ → σ × Bool
  | .none, s => (s, true)
  | .reason c, s => f s (numOf c)
  | .fault _ _ _ e, s => if (f s 0).2 then e.walk f (f s 0).1 else ((f s 0).1, false)
  | .many es, s => if (f s 0).2 then Err.walkL f es (f s 0).1 else ((f s 0).1, false)
def Err.walkL {σ : Type} (f : σ → Nat → σ × Bool) : List Err → σ → σ × Bool
  | [], s => (s, true)
  | e :: es, s => if (e.walk f s).2 then Err.walkL f es (e.walk f s).1 else ((e.walk f s).1, false)
end

mutual
def Err.size : Err → Nat
  | .none => 0
  | .reason _ => 1
  | .fault _ _ _ e => e.size + 1
  | .many es => Err.sizeL es + 1
def Err.sizeL : List Err → Nat
  | [] => 0
  | e :: es => e.size + Err.sizeL es
end

inductive ErrAt (S : Nat → Addr) (w : World) : Err → Value → Prop
  | none : ErrAt S w .none .nilIface
  | reason (c : Nat) : 1 ≤ c → c ≤ 14 → ErrAt S w (.reason c) (errV (S c))
  | fault {l c : ByteArray} {i : Int} {e : Err} {v : Value} {b : Nat} : w.heap[b]? = some (.cells #[.string l, .string c, .int .i64 i, v] 124 (0, 0)) → ErrAt S w e v → ErrAt S w (.fault l c i e) (faultV ⟨b, 0, none⟩)
  | many {b cap : Nat} {a : Option Addr} {es : List Err} {vs : List Value} : w.heap[b]? = some (.cells #[.slice a es.length cap] 229 (0, 0)) → CellsIn w a vs → (a = Option.none → vs.length = 0 ∧ cap = 0) → vs.length = es.length → es.length ≤ 1000000000000 → (∀ u ∈ vs, u.oneCell' = true) →
      (∀ (i : Nat) e v, es[i]? = some e → vs[i]? = some v → ErrAt S w e v) → ErrAt S w (.many es) (manyV ⟨b, 0, none⟩)

theorem Grew.heap {w w' : World} (h : Grew w w') {b : Nat} {o : Obj} (hb : w.heap[b]? = some o) : w'.heap[b]? = some o := by
  rw [h.block b (Array.getElem?_eq_some_iff.1 hb).1]; exact hb

theorem ErrAt.grew {S : Nat → Addr} {w w' : World} (g : Grew w w') {e : Err} {v : Value} (h : ErrAt S w e v) : ErrAt S w' e v := by
  induction h with
  | none => exact .none
  | reason c h0 h1 => exact .reason c h0 h1
  | fault hc _ ih => exact .fault (Grew.heap g hc) ih
  | many hc hs hn hl hb h1 _ ih => exact .many (Grew.heap g hc) (hs.grew g) hn hl hb h1 ih

def Mine (p : Addr) (w : World) (k : Nat) : Prop := k = p.block ∨ ∃ v, w.cell? p = some v ∧ v.ownBlock = some k
def Keeps (p : Addr) (w w' : World) : Prop := w.heap.size ≤ w'.heap.size ∧ ∀ k, k < w.heap.size → ¬ Mine p w k → w'.heap[k]? = w.heap[k]? ∧ ¬ Mine p w' k
theorem Keeps.refl (p : Addr) (w : World) : Keeps p w w := ⟨Nat.le_refl _, fun _ _ h => ⟨rfl, h⟩⟩
theorem Keeps.trans {p : Addr} {w w' w'' : World} (h : Keeps p w w') (h' : Keeps p w' w'') : Keeps p w w'' :=
  ⟨Nat.le_trans h.1 h'.1, fun k hk hm => by
    obtain ⟨e1, m1⟩ := h.2 k hk hm
    obtain ⟨e2, m2⟩ := h'.2 k (by have := h.1; omega) m1
    exact ⟨e2.trans e1, m2⟩⟩
theorem Mine.grew {p : Addr} {w w' : World} (hg : Grew w w') (hp : p.block < w.heap.size) {k : Nat} (h : Mine p w' k) : Mine p w k := by
  rcases h with h | ⟨v, hv, ho⟩
  · exact .inl h
  · exact .inr ⟨v, by rw [← hg.cell hp]; exact hv, ho⟩
theorem Keeps.of_grew {p : Addr} {w w' : World} (hg : Grew w w') (hp : p.block < w.heap.size) : Keeps p w w' :=
  ⟨hg.size, fun k hk hm => ⟨hg.block k hk, fun h => hm (h.grew hg hp)⟩⟩
theorem _root_.Go.CellsIn.keepB {w w' : World} {a : Option Addr} {xs : List Value} (h : CellsIn w a xs) (hb : ∀ b, a = some b → b.block < w.heap.size → w'.heap[b.block]? = w.heap[b.block]?) : CellsIn w' a xs := fun hn => by
  obtain ⟨b, off, ha, hc⟩ := h hn
  refine ⟨b, off, ha, ?_⟩
  have hlt := World.cellsAt_lt hc (List.length_pos_iff.2 hn)
  rw [World.cellsAt_congr (w := w) _ _ (fun o s => World.cell?_of_block (w := w) (hb ⟨b, off, none⟩ ha hlt))]
  exact hc

theorem ErrAt.one {S : Nat → Addr} {w : World} {e : Err} {v : Value} (h : ErrAt S w e v) : v.oneCell' = true := by
  cases h <;> rfl
theorem ErrAt.nil_iff {S : Nat → Addr} {w : World} {e : Err} {v : Value} (h : ErrAt S w e v) : v = .nilIface ↔ e = .none := by
  cases h <;> simp [errV, faultV, manyV]

@[go_sem] theorem as_E_F (v : Value) (w : World) : (Instr.typeAssert (.iface 357 v) 49 122 true).run Tryz.prog w = .ok (.tuple #[.pointer none, .bool false]) w := by kernel_rfl
@[go_sem] theorem as_E_M (v : Value) (w : World) : (Instr.typeAssert (.iface 357 v) 49 169 true).run Tryz.prog w = .ok (.tuple #[.pointer none, .bool false]) w := by kernel_rfl
@[go_sem] theorem as_F_F (v : Value) (w : World) : (Instr.typeAssert (.iface 122 v) 49 122 true).run Tryz.prog w = .ok (.tuple #[v, .bool true]) w := by kernel_rfl
@[go_sem] theorem as_F_M (v : Value) (w : World) : (Instr.typeAssert (.iface 122 v) 49 169 true).run Tryz.prog w = .ok (.tuple #[.pointer none, .bool false]) w := by kernel_rfl
@[go_sem] theorem as_M_F (v : Value) (w : World) : (Instr.typeAssert (.iface 169 v) 49 122 true).run Tryz.prog w = .ok (.tuple #[.pointer none, .bool false]) w := by kernel_rfl
@[go_sem] theorem as_M_M (v : Value) (w : World) : (Instr.typeAssert (.iface 169 v) 49 169 true).run Tryz.prog w = .ok (.tuple #[v, .bool true]) w := by kernel_rfl
@[go_sem] theorem as_N_F (w : World) : (Instr.typeAssert .nilIface 49 122 true).run Tryz.prog w = .ok (.tuple #[.pointer none, .bool false]) w := by kernel_rfl
@[go_sem] theorem as_N_M (w : World) : (Instr.typeAssert .nilIface 49 169 true).run Tryz.prog w = .ok (.tuple #[.pointer none, .bool false]) w := by kernel_rfl

theorem elErr : Elem Tryz.prog 170 49 1 16 := Elem.of Tryz.underlying170 (by kernel_rfl) (by decide)

set_option maxHeartbeats 1000000 in
theorem new_any (l c : ByteArray) (i : Int) (u : TypeId) (z : Value) (w : World) :
    Calls Tryz.prog 24 #[.string l, .string c, .int .i64 i, .iface u z] w fun e w' => e = .returned (faultV ⟨w.heap.size, 0, none⟩) ∧ w' = w.alloc (.cells #[.string l, .string c, .int .i64 (max i (-1)), .iface u z] 124) := by
  go_enter Tryz.func24, Tryz.ntmps24
  go_wp2_with fail
  go_ret
  exact ⟨rfl, rfl⟩
theorem unwrapF_any {l c : ByteArray} {i : Int} {v : Value} {b : Nat} (w : World) (h : w.heap[b]? = some (.cells #[.string l, .string c, .int .i64 i, v] 124 (0, 0))) :
    Calls Tryz.prog 95 #[.pointer (some ⟨b, 0, none⟩)] w fun e w' => e = .returned v ∧ w' = w := by
  have h3 := (World.own_cell h 3 _ rfl).1
  go_enter Tryz.func95, Tryz.ntmps95
  go_wp2_with fail
  go_ret
  exact ⟨rfl, rfl⟩
theorem unwrapM_any {b n cap : Nat} {a : Option Addr} {vs : List Value} (w : World) (h : w.heap[b]? = some (.cells #[.slice a n cap] 229 (0, 0))) (hin : CellsIn w a vs) (hn : a = none → vs.length = 0 ∧ cap = 0) (hl : vs.length = n) (hb : n ≤ 1000000000000) (h1 : ∀ u ∈ vs, u.oneCell' = true) :
    Calls Tryz.prog 96 #[.pointer (some ⟨b, 0, none⟩)] w fun e w' => ∃ ar cp, e = .returned (.slice ar n cp) ∧ CellsIn w' ar vs ∧ Grew w w' ∧ ∀ q, ar = some q → w.heap.size ≤ q.block := by
  have h0 := (World.own_cell h 0 _ rfl).1
  have HN := Lib.hid hn
  have HI := Lib.hid hin
  have H1 := Lib.hid h1
  clear hn hin h1
  go_enter Tryz.func96, Tryz.ntmps96
  go_wp2_with (at_builtin; go_loud (refine wpList_apps (by rfl) _ _ 170 (by rfl) elErr w.heap.size _ 0 [] (by rfl) ⟨rfl, .inl ⟨rfl, rfl⟩⟩ a n cap vs (by rfl) HI.out (by rw [hl]; omega) H1.out (fun h => by have := HN.out h; omega) (by omega) (by unfold maxLen; omega) w (Grew.refl w) (Nat.le_refl _) (Nat.le_refl _) ?_); intro ar cp w1 hg1 hown1 hkeep hsz1; simp only [Nat.zero_add, List.nil_append] at hown1; have HO1 := Lib.hid hown1; have HG1 := Lib.hid hg1; clear hown1 hg1 hkeep)
  go_ret
  simp only [Nat.zero_add]
  obtain ⟨ar', cp', e', _, _, _, hfr, _⟩ := HO1.out.rd
  cases e'
  exact ⟨ar, cp, rfl, HO1.out.cin, HG1.out, fun q hq => (hfr q hq).1⟩
theorem link_any {l c : ByteArray} {i : Int} {v : Value} {b : Nat} (w0 w : World) (hg : Grew w0 w) (h : w0.heap[b]? = some (.cells #[.string l, .string c, .int .i64 i, v] 124 (0, 0))) :
    Calls Tryz.prog 98 #[.pointer (some ⟨b, 0, none⟩)] w fun e w' => e = .returned (.agg #[.string l, .string c, .int .i64 i]) ∧ Grew w w' := by
  have hh := fun (o : Obj) (gx : More) => Grew.heap ((hg.alloc o).plus gx) h
  have h0 : ∀ (o : Obj) (gx : More), ((w.alloc o).plus gx).cell? ⟨b, 0, none⟩ = some (.string l) := fun o gx => (World.own_cell (hh o gx) 0 _ rfl).1
  have h1 : ∀ (o : Obj) (gx : More), ((w.alloc o).plus gx).cell? ⟨b, 1, none⟩ = some (.string c) := fun o gx => (World.own_cell (hh o gx) 1 _ rfl).1
  have h2 : ∀ (o : Obj) (gx : More), ((w.alloc o).plus gx).cell? ⟨b, 2, none⟩ = some (.int .i64 i) := fun o gx => (World.own_cell (hh o gx) 2 _ rfl).1
  clear h hg hh
  go_enter Tryz.func98, Tryz.ntmps98
  go_wp2_with fail
  refine wp_region_plus_tail 13 (by kernel_rfl) (by kernel_rfl) ?_
  simp only [List.take_succ_cons, List.take_zero, List.drop_succ_cons, List.drop_zero]
  repeat (go_big_quiet_step ((first | fail)))
  refine wpQuiet_nil ?_
  intro _ hw'
  obtain ⟨nx, rfl⟩ := hw'
  go_wp2_with fail
  exact bodyPost_ret (v := .agg #[.string l, .string c, .int .i64 i]) (by simp [results, Tryz.results98, go_sem]) rfl ⟨rfl, by repeat (first | with_reducible exact HG.out | with_reducible exact Grew.refl _ | with_reducible assumption | with_reducible apply Grew.plus | with_reducible apply Grew.drewN | with_reducible apply Grew.drew | with_reducible apply Grew.alloc | with_reducible refine Grew.setCell ?_ (by simp [go_sem]; try omega) _)⟩
set_option maxRecDepth 100000 in
set_option maxHeartbeats 4000000 in
theorem through_any {S : Nat → Addr} {w0 : World} {σ : Type} (fn : Nat) (p : Addr) (f : σ → Nat → σ × Bool) (Inv : Nat → σ → World → Prop) (hI : ∀ m s w w', Inv m s w → Grew w w' → Inv m s w') (hG : ∀ m s w, Inv m s w → Grew w0 w) (hM : ∀ m s w, Inv m s w → ∀ k, Mine p w k → k < w.heap.size) (hD : ∀ m m' s w, m' ≤ m → Inv m s w → Inv m' s w)
    (hfn : ∀ v w, (callFunc fn #[v, .pointer (some p)]).run Tryz.prog w = .ok (.enter fn #[v, .pointer (some p)]) w)
    (hcl : ∀ v k m s w, IsNum S w0 v k → v.oneCell' = true → Inv (m + 1) s w → Calls Tryz.prog fn #[v, .pointer (some p)] w fun e w' => e = .returned (.bool (f s (numOf k)).2) ∧ Inv m (f s (numOf k)).1 w' ∧ Keeps p w w') (hS : Sents S w0)
    {e : Err} {v : Value} (he : ErrAt S w0 e v) : ∀ m s w, Inv (e.size + m) s w → Calls Tryz.prog 62 #[v, .func (.func fn) #[] #[.pointer (some p)]] w fun x w' => x = .returned (.bool (e.walk f s).2) ∧ Inv m (e.walk f s).1 w' ∧ Keeps p w w' := by
  have HI := Lib.hid hI
  have HGW := Lib.hid hG
  have HM := Lib.hid hM
  have HD := Lib.hid hD
  have HC := Lib.hid hcl
  have HS := Lib.hid hS
  clear hI hG hM hD hcl hS
  induction he with
  | none =>
    intro m s w hi
    rw [Err.size, Nat.zero_add] at hi
    have HV := Lib.hid hi
    clear hi
    go_enter Tryz.func62, Tryz.ntmps62
    go_wp2_with fail
    go_ret
    exact ⟨rfl, HV.out, Keeps.refl _ _⟩
  | reason c h0 h1 =>
    intro m s w hi
    rw [Err.size, Nat.add_comm] at hi
    have HV := Lib.hid hi
    clear hi
    have NC := Lib.hid (HC.out (errV (S c)) c m s w (isNum_reason HS.out c h0 h1) rfl HV.out)
    have hw : Err.walk f (.reason c) s = f s (numOf c) := by rw [Err.walk]
    rw [hw]
    generalize f s (numOf c) = r at *
    obtain ⟨s1, b1⟩ := r
    go_enter Tryz.func62, Tryz.ntmps62
    cases b1
    case false =>
      go_wp2_with (with_reducible (show Calls _ fn _ _ _); refine NC.out.mono ?_; rintro e w' ⟨rfl, hv, hkp⟩; have HV1 := Lib.hid hv; have HK1 := Lib.hid hkp; clear hv hkp)
      go_ret
      exact ⟨rfl, HV1.out, HK1.out⟩
    case true =>
      go_wp2_with (with_reducible (show Calls _ fn _ _ _); refine NC.out.mono ?_; rintro e w' ⟨rfl, hv, hkp⟩; have HV1 := Lib.hid hv; have HK1 := Lib.hid hkp; clear hv hkp)
      go_ret
      exact ⟨rfl, HV1.out, HK1.out⟩
  | @fault l c i e v b hc ht ih =>
    intro m s w hi
    rw [Err.size, Nat.add_right_comm] at hi
    have HV := Lib.hid hi
    clear hi
    have NC := Lib.hid (HC.out (faultV ⟨b, 0, none⟩) 0 (e.size + m) s w (isNum_other _ _ (by decide)) rfl HV.out)
    rw [Err.walk]
    rw [show numOf 0 = 0 from rfl] at NC
    generalize f s 0 = r at *
    obtain ⟨s1, b1⟩ := r
    go_enter Tryz.func62, Tryz.ntmps62
    cases b1
    case false =>
      go_wp2_with (with_reducible (show Calls _ fn _ _ _); refine NC.out.mono ?_; rintro e w' ⟨rfl, hv, hkp⟩; have HV1 := Lib.hid hv; have HK1 := Lib.hid hkp; clear hv hkp)
      go_ret
      exact ⟨rfl, HD.out _ _ _ _ (by omega) HV1.out, HK1.out⟩
    case true =>
      rw [if_pos rfl]
      go_wp2_with (first | (go_at_call 95; refine (unwrapF_any _ (Grew.heap (HGW.out _ _ _ HV1.out) hc)).mono ?_; rintro e w2 ⟨rfl, rfl⟩) | (go_at_call 62; refine (ih m s1 _ HV1.out).mono ?_; rintro e w3 ⟨rfl, hv2, hkp2⟩; have HV2 := Lib.hid hv2; have HK2 := Lib.hid hkp2; clear hv2 hkp2) | (with_reducible (show Calls _ fn _ _ _); refine NC.out.mono ?_; rintro e w' ⟨rfl, hv, hkp⟩; have HV1 := Lib.hid hv; have HK1 := Lib.hid hkp; clear hv hkp))
      go_ret
      exact ⟨rfl, HV2.out, HK1.out.trans HK2.out⟩
  | @many b cap a es vs hc hin hn hl hb h1 hk ih =>
    intro m s w hi
    rw [Err.size, Nat.add_right_comm] at hi
    have HV := Lib.hid hi
    clear hi
    have NC := Lib.hid (HC.out (manyV ⟨b, 0, none⟩) 0 (Err.sizeL es + m) s w (isNum_other _ _ (by decide)) rfl HV.out)
    rw [Err.walk]
    rw [show numOf 0 = 0 from rfl] at NC
    generalize f s 0 = r at *
    obtain ⟨s1, b1⟩ := r
    have HIN := Lib.hid hin
    have HN := Lib.hid hn
    have H1 := Lib.hid h1
    have IH := Lib.hid ih
    have HK := Lib.hid hk
    clear hin hn h1 ih hk
    cases b1
    case false =>
      go_enter Tryz.func62, Tryz.ntmps62
      go_wp2_with (with_reducible (show Calls _ fn _ _ _); refine NC.out.mono ?_; rintro e w' ⟨rfl, hv, hkp⟩; have HV1 := Lib.hid hv; have HK1 := Lib.hid hkp; clear hv hkp)
      go_ret
      exact ⟨rfl, HD.out _ _ _ _ (by omega) HV1.out, HK1.out⟩
    case true =>
      rw [if_pos rfl]
      simp only []
      generalize hr : Err.walkL f es s1 = rr
      obtain ⟨sr, br⟩ := rr
      have HR := Lib.hid hr
      clear hr
      go_enter Tryz.func62, Tryz.ntmps62
      go_wp2_with (first | (go_at_call 96; refine (unwrapM_any _ (Grew.heap (HGW.out _ _ _ HV1.out) hc) (HIN.out.grew (HGW.out _ _ _ HV1.out)) HN.out hl hb H1.out).mono ?_; rintro e w2 ⟨ar, cp, rfl, hin2, hg2, hfr2⟩; have HI2 := Lib.hid hin2; have HG2 := Lib.hid hg2; have HF2 := Lib.hid hfr2; clear hin2 hg2 hfr2) | (with_reducible (show Calls _ fn _ _ _); refine NC.out.mono ?_; rintro e w' ⟨rfl, hv, hkp⟩; have HV1 := Lib.hid hv; have HK1 := Lib.hid hkp; clear hv hkp))
      go_loopg [29] es.length (fun g s29 wr => ∃ i : Nat, ∃ si : σ, i ≤ es.length ∧ s29 = .int .i64 i ∧ g = es.length - i ∧ Err.walkL f (es.drop i) si = (sr, br) ∧ Inv (Err.sizeL (es.drop i) + m) si wr ∧ CellsIn wr ar vs ∧ Keeps p w wr ∧ ∀ q, ar = some q → ¬ Mine p wr q.block)
      case atStart => exact ⟨0, s1, by omega, rfl, by omega, by rw [List.drop_zero]; exact HR.out, by rw [List.drop_zero]; exact HI.out _ _ _ _ HV1.out HG2.out, HI2.out, HK1.out.trans (Keeps.of_grew HG2.out (HM.out _ _ _ HV1.out _ (.inl rfl))), fun q hq hm => by have h1 := HM.out _ _ _ HV1.out _ (hm.grew HG2.out (HM.out _ _ _ HV1.out _ (.inl rfl))); have h2 := HF2.out q hq; omega⟩
      case round =>
        obtain ⟨i, si, hi, rfl, hgm, hwk, hiv, hcin, hkp, hnm⟩ := hrel
        have HGM := Lib.hid hgm
        have HVI := Lib.hid hiv
        have HCI := Lib.hid hcin
        have HKP := Lib.hid hkp
        have HNM := Lib.hid hnm
        clear hgm hiv hcin hkp hnm
        by_cases hlt : i < es.length
        · have hlv : i < vs.length := by omega
          obtain ⟨bq, off, rfl, hbq, hcell⟩ := HCI.out.at' (by omega)
          have hci := hcell i hlv
          clear hcell
          rw [List.drop_eq_getElem_cons hlt, Err.walkL] at hwk
          have hv0 := HVI.out
          rw [List.drop_eq_getElem_cons hlt, Err.sizeL, Nat.add_assoc] at hv0
          have NC2 := Lib.hid (IH.out i es[i] vs[i] (List.getElem?_eq_getElem hlt) (List.getElem?_eq_getElem hlv) (Err.sizeL (es.drop (i + 1)) + m) si wr hv0)
          clear hv0
          generalize hvi : vs[i] = vi at *
          generalize hei : es[i] = ei at *
          generalize Err.walk f ei si = ri at *
          obtain ⟨s', b'⟩ := ri
          cases b'
          case false =>
            simp only [Bool.false_eq_true, if_false, Prod.mk.injEq] at hwk
            obtain ⟨rfl, rfl⟩ := hwk
            go_wp2_with (go_at_call 62; refine NC2.out.mono ?_; rintro e w3 ⟨rfl, hv3, hk3⟩; have HV3 := Lib.hid hv3; have HK3 := Lib.hid hk3; clear hv3 hk3)
            go_ret
            exact ⟨rfl, HD.out _ _ _ _ (by omega) HV3.out, HKP.out.trans HK3.out⟩
          case true =>
            rw [if_pos rfl] at hwk
            have HWK := Lib.hid hwk
            clear hwk
            go_wp2_with (go_at_call 62; refine NC2.out.mono ?_; rintro e w3 ⟨rfl, hv3, hk3⟩; have HV3 := Lib.hid hv3; have HK3 := Lib.hid hk3; clear hv3 hk3)
            go_roundg (es.length - (i + 1))
            case measure => rw [HGM.out]; omega
            case rel => exact ⟨i + 1, s', by omega, by go_num, rfl, HWK.out, HV3.out, HCI.out.keepB (fun q hq hlt => (HK3.out.2 _ hlt (HNM.out q hq)).1), HKP.out.trans HK3.out, fun q hq => by cases hq; exact (HK3.out.2 _ hbq (HNM.out _ rfl)).2⟩
        · obtain rfl : i = es.length := by omega
          rw [List.drop_length, Err.walkL] at hwk
          simp only [Prod.mk.injEq] at hwk
          obtain ⟨rfl, rfl⟩ := hwk
          go_wp2_with fail
          go_ret
          exact ⟨rfl, HD.out _ _ _ _ (by omega) HVI.out, HKP.out⟩
end Go.Proofs.YtnhmekdnfinmiaaGreatDoor
/- Walks: wire's reader: how many bytes are left, a byte, a number. -/
namespace Go.Proofs.YtnhmekdnfinmiaaGreatDoor
open Go.RowKit Go.Par
set_option linter.unusedSimpArgs false
set_option linter.unusedVariables false
abbrev pt (b : Nat) : Value := .pointer (some ⟨b, 0, none⟩)
abbrev tRd : TypeId := 126
structure WR (w : World) (R : Nat) (a : Option Addr) (cap : Nat) (l : List UInt8) (p : Nat) : Prop where
  c : w.heap[R]? = some (.cells #[.slice a l.length cap, .int .i64 p, .nilIface] tRd (0, 0))
  row : CellsIn w a (bv l)
  ne : ∀ q, a = some q → q.block ≠ R
  cap : l.length ≤ cap ∧ cap ≤ 9223372036854775807
  len : l.length ≤ 4000
  le : p ≤ l.length
theorem WR.grewX {ks : List Nat} {w w' : World} {R : Nat} {a : Option Addr} {cap : Nat} {l : List UInt8} {p : Nat} (h : WR w R a cap l p) (hg : GrewX ks w w') (hR : R ∉ ks) (ha : ∀ q, a = some q → q.block ∉ ks) : WR w' R a cap l p :=
  ⟨hg.heap h.c hR, hg.cells h.row ha, h.ne, h.cap, h.len, h.le⟩
theorem WR.grew {w w' : World} {R : Nat} {a : Option Addr} {cap : Nat} {l : List UInt8} {p : Nat} (h : WR w R a cap l p) (hg : Grew w w') : WR w' R a cap l p := h.grewX (ks := []) (GrewX.of_grew hg) (by simp) (by simp)
theorem WR.set {w : World} {R : Nat} {a : Option Addr} {cap : Nat} {l : List UInt8} {p : Nat} (h : WR w R a cap l p) (q : Nat) (hq : q ≤ l.length) : WR (w.setCell ⟨R, 1, none⟩ (.int .i64 q)) R a cap l q :=
  ⟨World.own_set2 h.c 1 _ _ rfl, ((GrewX.refl [R] w).set (.inl (by simp)) _).cells h.row (fun x hx => by simpa using h.ne x hx), h.ne, h.cap, h.len, hq⟩
def stopV (S : Nat → Addr) (c : Nat) : Value := .iface 168 (.agg #[errV (S c)])
section
variable {S : Nat → Addr} {w0 w : World} {R : Nat} {a : Option Addr} {cap : Nat} {l : List UInt8} {p : Nat}
theorem wire_left (h : WR w R a cap l p) : Calls Tryz.prog 93 #[pt R] w fun e w' => e = .returned (.int .i64 ((l.length : Int) - p)) ∧ Grew w w' := by
  have q0 : w.cell? ⟨R, 0, none⟩ = some (.slice a l.length cap) := (World.own_cell h.c 0 _ rfl).1
  have q1 : w.cell? ⟨R, 1, none⟩ = some (.int .i64 p) := (World.own_cell h.c 1 _ rfl).1
  have hR := World.block_lt_of_cell? w _ q0
  have hl := h.len
  have hp := h.le
  clear h
  go_enter Tryz.func93, Tryz.ntmps93
  go_wp2
  refine wp_region_plus (by kernel_rfl) (by kernel_rfl) ?_
  repeat (go_big_quiet_step ((first | fail)))
  refine wpQuiet_nil ?_
  intro _ hw'
  obtain ⟨nx, rfl⟩ := hw'
  go_wp2
  go_ret
  exact ⟨rfl, by repeat (first | with_reducible exact HG.out | with_reducible exact Grew.refl _ | with_reducible assumption | with_reducible apply Grew.plus | with_reducible apply Grew.drewN | with_reducible apply Grew.drew | with_reducible apply Grew.alloc | with_reducible refine Grew.setCell ?_ (by simp [go_sem]; try omega) _)⟩
set_option maxRecDepth 100000 in
theorem wire_byte_some (h : WR w R a cap l p) (b : UInt8) (hb : l[p]? = some b) : Calls Tryz.prog 138 #[pt R] w fun e w' => e = .returned (.int .u8 b.toNat) ∧ WR w' R a cap l (p + 1) ∧ GrewX [R] w w' := by
  have hlt : p < l.length := (List.getElem?_eq_some_iff.1 hb).1
  have q0 : w.cell? ⟨R, 0, none⟩ = some (.slice a l.length cap) := (World.own_cell h.c 0 _ rfl).1
  obtain ⟨q1, f1⟩ : w.cell? ⟨R, 1, none⟩ = some (.int .i64 p) ∧ w.frozen? ⟨R, 1, none⟩ = false := World.own_cell h.c 1 _ rfl
  have hR := World.block_lt_of_cell? w _ q0
  have hl := h.len
  have hp := h.le
  have hcp := h.cap
  obtain ⟨ba, off, rfl, hba, hc⟩ := h.row.at' (by rw [bv_length]; omega)
  have q2 := hc p (by rw [bv_length]; exact hlt)
  rw [bv_get] at q2
  have hbb : l[p]'hlt = b := (List.getElem?_eq_some_iff.1 hb).2
  rw [hbb] at q2
  have hne : ba ≠ R := h.ne _ rfl
  have H := Lib.hid h
  have HL := Lib.hid (wire_left h)
  have hlp : ¬ ((l.length : Int) - p = 0) := by omega
  clear h hc
  go_enter Tryz.func138, Tryz.ntmps138
  go_wp2_with (go_at_call 93; refine HL.out.mono ?_; rintro e w' ⟨rfl, gx, rfl⟩)
  have h1 := H.out.set (p + 1) (by omega)
  have hg1 : GrewX [R] w (w.setCell ⟨R, 1, none⟩ (.int .i64 ((p + 1 : Nat) : Int))) := (GrewX.refl [R] w).set (.inl (by simp)) _
  rw [show ((p + 1 : Nat) : Int) = (p : Int) + 1 by omega] at h1 hg1
  clear q0 q1 f1 hlp hR
  generalize w.setCell ⟨R, 1, none⟩ (.int .i64 ((p : Int) + 1)) = w1 at *
  have q0 : w1.cell? ⟨R, 0, none⟩ = some (.slice (some ⟨ba, off, none⟩) l.length cap) := (World.own_cell h1.c 0 _ rfl).1
  have q1 : w1.cell? ⟨R, 1, none⟩ = some (.int .i64 ((p : Int) + 1)) := by have := (World.own_cell h1.c 1 _ rfl).1; simpa using this
  have hR := World.block_lt_of_cell? w1 _ q0
  have q3 : w1.cell? ⟨ba, off + p, none⟩ = some (.int .u8 b.toNat) := by rw [hg1.cell hba (by simpa using hne)]; exact q2
  have hba1 := World.block_lt_of_cell? w1 _ q3
  have e1 : (p : Int) + 1 - 1 = p := by omega
  have HX := Lib.hid (And.intro h1 hg1)
  clear h1 hg1 q2
  refine wp_region_plus (by kernel_rfl) (by kernel_rfl) ?_
  repeat (go_big_quiet_step ((first | fail)))
  refine wpQuiet_nil ?_
  intro _ hw'
  obtain ⟨nx, rfl⟩ := hw'
  go_wp2_with fail
  go_ret
  exact ⟨rfl, HX.out.1.grew (by repeat (first | with_reducible exact HG.out | with_reducible exact Grew.refl _ | with_reducible assumption | with_reducible apply Grew.plus | with_reducible apply Grew.drewN | with_reducible apply Grew.drew | with_reducible apply Grew.alloc | with_reducible refine Grew.setCell ?_ (by simp [go_sem]; try omega) _)), HX.out.2.grew (by repeat (first | with_reducible exact HG.out | with_reducible exact Grew.refl _ | with_reducible assumption | with_reducible apply Grew.plus | with_reducible apply Grew.drewN | with_reducible apply Grew.drew | with_reducible apply Grew.alloc | with_reducible refine Grew.setCell ?_ (by simp [go_sem]; try omega) _))⟩
theorem wire_byte_none (hS : Sents S w) (h : WR w R a cap l p) (hb : l[p]? = none) : Calls Tryz.prog 138 #[pt R] w fun e w' => e = .panicked [{ v := stopV S 7, recovered := false }] ∧ Grew w w' := by
  have hlt : l.length = p := by have h1 := List.getElem?_eq_none_iff.1 hb; have := h.le; omega
  have HL := Lib.hid (wire_left h)
  have hlp : ((l.length : Int) - p) = 0 := by omega
  have s7 := hS.s7
  have hp : 6 < w.heap.size := World.block_lt_of_cell? w _ s7
  clear h
  go_enter Tryz.func138, Tryz.ntmps138
  go_wp2_with (go_at_call 93; refine HL.out.mono ?_; rintro e w' ⟨rfl, gx, rfl⟩)
  exact ⟨rfl, rfl, by repeat (first | with_reducible exact HG.out | with_reducible exact Grew.refl _ | with_reducible assumption | with_reducible apply Grew.plus | with_reducible apply Grew.drewN | with_reducible apply Grew.drew | with_reducible apply Grew.alloc | with_reducible refine Grew.setCell ?_ (by simp [go_sem]; try omega) _)⟩
theorem or_nat64 (n z : Nat) (hn : n < 18446744073709551616) (hz : z < 18446744073709551616) : bits .or .i64 (n : Int) (z : Int) = wrap64 ((n ||| z : Nat) : Int) := by
  have ofI : ∀ x : Nat, x < 18446744073709551616 → (BitVec.ofInt 64 (x : Int)).toNat = x := fun x hx => by
    rw [show BitVec.ofInt 64 (x : Int) = BitVec.ofNat 64 x from by simp, BitVec.toNat_ofNat]
    exact Nat.mod_eq_of_lt hx
  show IntKind.i64.wrap ((BitVec.ofInt 64 (n : Int) ||| BitVec.ofInt 64 (z : Int)).toNat : Int) = _
  rw [BitVec.toNat_or, ofI n hn, ofI z hz, IntKind.wrap_i64]
  unfold wrap64
  rfl
theorem wrap64_nat (z : Nat) (hz : z < 9223372036854775808) : wrap64 (z : Int) = z := IntWalk.wrap64_in _ ⟨by omega, by omega⟩
theorem or_step (n c k : Nat) (hn : n < 2 ^ (7 * k)) (hc : c < 128) (hk : k < 9) : bits .or .i64 (n : Int) (wrap64 ((c : Int) * 2 ^ (7 * k))) = ((n + c * 2 ^ (7 * k) : Nat) : Int) := by
  have h1 : (2 : Nat) ^ (7 * k) ≤ 72057594037927936 := (show (2 : Nat) ^ (7 * k) ≤ 2 ^ 56 from Nat.pow_le_pow_right (by omega) (by omega))
  have h2 : c * 2 ^ (7 * k) ≤ 127 * 72057594037927936 := Nat.mul_le_mul (by omega) h1
  have h3 : ((c : Int) * 2 ^ (7 * k)) = ((c * 2 ^ (7 * k) : Nat) : Int) := by simp
  have hor : n ||| c * 2 ^ (7 * k) = n + c * 2 ^ (7 * k) := by
    rw [Nat.or_comm, ← Nat.shiftLeft_eq, ← Nat.shiftLeft_add_eq_or_of_lt hn, Nat.add_comm]
  rw [h3]
  clear h3
  generalize c * 2 ^ (7 * k) = z at *
  generalize (2 : Nat) ^ (7 * k) = y at *
  rw [wrap64_nat z (by omega), or_nat64 n z (by omega) (by omega), hor, wrap64_nat _ (by omega)]
def NumPost (S : Nat → Addr) (R : Nat) (a : Option Addr) (cap : Nat) (l : List UInt8) (r : Except Nat (Nat × Nat)) (e : Ending) (w' : World) : Prop := match r with
  | .ok (n, q) => e = .returned (.int .i64 n) ∧ (n : Int) ≤ 9223372036854775807 ∧ WR w' R a cap l q
  | .error c => e = .panicked [{ v := stopV S c, recovered := false }] ∧ 1 ≤ c ∧ c ≤ 13 ∧ ∃ q, WR w' R a cap l q
set_option maxRecDepth 100000 in
set_option maxHeartbeats 1000000 in
theorem wire_num (hS : Sents S w0) (hg0 : Grew w0 w) (hR0 : w0.heap.size ≤ R) (h : WR w R a cap l p) (m : Int) (hm : 0 ≤ m) (hm2 : m ≤ 9223372036854775807) :
    Calls Tryz.prog 92 #[pt R, .int .i64 m] w fun e w' => GrewX [R] w w' ∧ NumPost S R a cap l (scan l m 9 0 0 p) e w' := by
  have H := Lib.hid h
  have HS := Lib.hid hS
  have HG0 := Lib.hid hg0
  clear h hS hg0
  go_enter Tryz.func92, Tryz.ntmps92
  go_wp2_with fail
  go_loopw [4, 7] (fun s4 s7 wr => ∃ (k n q : Nat), k ≤ 9 ∧ s7 = .int .i64 k ∧ s4 = .int .i64 n ∧ n < 2 ^ (7 * k) ∧ scan l m (9 - k) k n q = scan l m 9 0 0 p ∧ WR wr R a cap l q ∧ GrewX [R] w wr) (fun _ s7 _ => 9 - (intOf s7).toNat)
  case atStart => exact ⟨0, 0, p, by omega, rfl, rfl, by omega, rfl, H.out, GrewX.refl _ _⟩
  case round =>
    obtain ⟨k, n, q, hk, rfl, rfl, hn, hs, hr, hg⟩ := hrel
    have HR := Lib.hid hr
    have HG := Lib.hid hg
    have hsw := HS.out.grew (hg.toGrew HG0.out (by simpa using hR0))
    have HSW := Lib.hid hsw
    have HSC := Lib.hid hs
    clear hr hg hs
    by_cases hlt : k < 9
    · cases hb : l[q]? with
      | none =>
        have e1 : scan l m (9 - k) k n q = .error 7 := by
          rw [show 9 - k = (8 - k) + 1 by omega, scan, hb]
        have HE1 := Lib.hid e1
        clear e1
        go_wp2_with (go_at_call 138; refine (wire_byte_none HSW.out HR.out hb).mono ?_; rintro e w' ⟨rfl, gx, rfl⟩)
        exact ⟨rfl, HG.out.plus gx, by rw [← HSC.out, HE1.out]; exact ⟨rfl, by omega, by omega, q, HR.out.grew (by repeat (first | with_reducible exact HG.out | with_reducible exact Grew.refl _ | with_reducible assumption | with_reducible apply Grew.plus | with_reducible apply Grew.drewN | with_reducible apply Grew.drew | with_reducible apply Grew.alloc | with_reducible refine Grew.setCell ?_ (by simp [go_sem]; try omega) _))⟩⟩
      | some b =>
        have hbl : b.toNat < 256 := b.toNat_lt
        have hor := or_step n (b.toNat % 128) k hn (by omega) hlt
        rw [show ((b.toNat % 128 : Nat) : Int) = (b.toNat : Int) % 128 by omega] at hor
        have e1 : scan l m (9 - k) k n q = if 128 ≤ b.toNat then scan l m (8 - k) (k + 1) (n + b.toNat % 128 * 2 ^ (7 * k)) (q + 1) else if b.toNat = 0 ∧ 0 < k then .error 6 else if m < ((n + b.toNat % 128 * 2 ^ (7 * k) : Nat) : Int) then .error 2 else .ok (n + b.toNat % 128 * 2 ^ (7 * k), q + 1) := by
          rw [show 9 - k = (8 - k) + 1 by omega, scan, hb]
        have hn2 : n + b.toNat % 128 * 2 ^ (7 * k) < 2 ^ (7 * (k + 1)) := by
          have : b.toNat % 128 * 2 ^ (7 * k) ≤ 127 * 2 ^ (7 * k) := Nat.mul_le_mul_right _ (by omega)
          have e : (2 : Nat) ^ (7 * (k + 1)) = 128 * 2 ^ (7 * k) := by rw [Nat.mul_add, Nat.pow_add]; omega
          omega
        clear hsw
        generalize hn2e : n + b.toNat % 128 * 2 ^ (7 * k) = n2 at *
        have HN2 := Lib.hid hn2e
        clear hn2e
        have hn9 : n2 < 9223372036854775808 := by
          have := Nat.pow_le_pow_right (n := 2) (by omega) (show 7 * (k + 1) ≤ 63 by omega)
          have e : (2 : Nat) ^ 63 = 9223372036854775808 := by decide
          omega
        have hbm : (b.toNat : Int) % 128 = ((b.toNat % 128 : Nat) : Int) := by omega
        clear hbm
        by_cases h128 : 128 ≤ b.toNat
        · rw [if_pos h128] at e1
          have HE1 := Lib.hid e1
          clear e1
          go_wp2_with (go_at_call 138; refine (wire_byte_some HR.out b hb).mono ?_; rintro e w1 ⟨rfl, hr1, hg1⟩; have HR1 := Lib.hid hr1; have HG1 := Lib.hid hg1; clear hr1 hg1)
          go_roundw
          case rel => exact ⟨k + 1, n2, q + 1, by omega, by go_num, rfl, hn2, by rw [← HSC.out, HE1.out, show 9 - (k + 1) = 8 - k by omega], HR1.out, HG.out.trans HG1.out⟩
          case measure => simp [intOf]; omega
        · rw [if_neg h128] at e1
          by_cases h6 : b.toNat = 0 ∧ 0 < k
          · rw [if_pos h6] at e1
            have HE1 := Lib.hid e1
            clear e1
            obtain ⟨h60, h61⟩ := h6
            have hb0 : b.toNat = 0 := h60
            have hk0 : (0 : Int) < k := by omega
            clear h128
            go_wp2_with (go_at_call 138; refine (wire_byte_some HR.out b hb).mono ?_; rintro e w1 ⟨rfl, hr1, hg1⟩; have s6 := (HS.out.grew ((HG.out.trans hg1).toGrew HG0.out (by simpa using hR0))).s6; have l6 : 5 < w1.heap.size := World.block_lt_of_cell? w1 _ s6; have HR1 := Lib.hid hr1; have HG1 := Lib.hid hg1; clear hr1 hg1)
            exact ⟨rfl, HG.out.trans HG1.out, by rw [← HSC.out, HE1.out]; exact ⟨rfl, by omega, by omega, q + 1, HR1.out⟩⟩
          · rw [if_neg h6] at e1
            by_cases hb0 : b.toNat = 0
            · have hk0 : k = 0 := by omega
              subst hk0
              have hn0 : n = 0 := by simpa using hn
              have hn20 : n2 = 0 := by have := HN2.out; rw [hb0] at this; omega
              subst hn0
              subst hn20
              clear hor HN2
              have h00 : bits BinOp.or IntKind.i64 0 0 = 0 := by decide
              have hr2 : ¬ (m < ((0 : Nat) : Int)) := by omega
              rw [if_neg hr2] at e1
              have HE1 := Lib.hid e1
              clear e1 h6
              have hm0 : ¬ (m < 0) := by omega
              go_wp2_with (go_at_call 138; refine (wire_byte_some HR.out b hb).mono ?_; rintro e w1 ⟨rfl, hr1, hg1⟩; have s2 := (HS.out.grew ((HG.out.trans hg1).toGrew HG0.out (by simpa using hR0))).s2; have l2 : 2 < w1.heap.size := World.block_lt_of_cell? w1 _ s2; have HR1 := Lib.hid hr1; have HG1 := Lib.hid hg1; clear hr1 hg1)
              go_ret
              exact ⟨HG.out.trans HG1.out, by rw [← HSC.out, HE1.out]; exact ⟨rfl, by omega, HR1.out⟩⟩
            · clear h6
              by_cases hr2 : m < (n2 : Int)
              · rw [if_pos hr2] at e1
                have HE1 := Lib.hid e1
                clear e1
                go_wp2_with (go_at_call 138; refine (wire_byte_some HR.out b hb).mono ?_; rintro e w1 ⟨rfl, hr1, hg1⟩; have s2 := (HS.out.grew ((HG.out.trans hg1).toGrew HG0.out (by simpa using hR0))).s2; have l2 : 2 < w1.heap.size := World.block_lt_of_cell? w1 _ s2; have HR1 := Lib.hid hr1; have HG1 := Lib.hid hg1; clear hr1 hg1)
                exact ⟨rfl, HG.out.trans HG1.out, by rw [← HSC.out, HE1.out]; exact ⟨rfl, by omega, by omega, q + 1, HR1.out⟩⟩
              · rw [if_neg hr2] at e1
                have HE1 := Lib.hid e1
                clear e1
                go_wp2_with (go_at_call 138; refine (wire_byte_some HR.out b hb).mono ?_; rintro e w1 ⟨rfl, hr1, hg1⟩; have s2 := (HS.out.grew ((HG.out.trans hg1).toGrew HG0.out (by simpa using hR0))).s2; have l2 : 2 < w1.heap.size := World.block_lt_of_cell? w1 _ s2; have HR1 := Lib.hid hr1; have HG1 := Lib.hid hg1; clear hr1 hg1)
                go_ret
                exact ⟨HG.out.trans HG1.out, by rw [← HSC.out, HE1.out]; exact ⟨rfl, by omega, HR1.out⟩⟩
    · have hk9 : k = 9 := by omega
      subst hk9
      have s6 := hsw.s6
      have l6 : 5 < wr.heap.size := World.block_lt_of_cell? wr _ s6
      clear hsw
      go_wp2_with fail
      exact ⟨rfl, HG.out, by rw [← HSC.out, scan]; exact ⟨rfl, by omega, by omega, q, HR.out⟩⟩
end
end Go.Proofs.YtnhmekdnfinmiaaGreatDoor
