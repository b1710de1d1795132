/- Slices that lie in memory: what they read as; appends onto a slice of the call's own, over grown worlds. No program in sight. -/
import Derived.Test.YthekgpchjonboaaGreatDoorBase
import Derived.Deep.AppendLies
import Derived.OneCell
import Derived.Laws.Cover4
import Derived.Laws.BytesArg
namespace Go
open Go.RowKit

/-- From that address on lie those cells, if there are any. -/
def CellsIn (w : World) (a : Option Addr) (xs : List Value) : Prop := xs ≠ [] → ∃ b off, a = some ⟨b, off, none⟩ ∧ w.cellsAt ⟨b, off, none⟩ xs.length = some xs

theorem World.cellsAt_lt {w : World} {b off n : Nat} {cs : List Value} (h : w.cellsAt ⟨b, off, none⟩ n = some cs) (h0 : 0 < n) : b < w.heap.size := by
  have h1 := World.cellsAt_cell h 0 h0
  have h2 := (World.cellsAt_some h).1
  rw [List.getElem?_eq_getElem (by omega)] at h1
  exact World.block_lt_of_cell? w _ h1

namespace CellsIn
variable {w w' : World} {a : Option Addr} {xs : List Value}
theorem nil (w : World) (a : Option Addr) : CellsIn w a [] := fun h => absurd rfl h
theorem same (h : CellsIn w a xs) (hb : ∀ k, k < w.heap.size → w'.heap[k]? = w.heap[k]?) : CellsIn w' a xs := fun hn => by
  obtain ⟨b, off, ha, hc⟩ := h hn
  refine ⟨b, off, ha, ?_⟩
  have hlt := World.cellsAt_lt hc (List.length_pos_iff.2 hn)
  rw [World.cellsAt_congr (w := w) _ _ (fun o s => World.cell?_of_block (w := w) (hb b hlt))]
  exact hc
theorem grew (h : CellsIn w a xs) (hg : Grew w w') : CellsIn w' a xs := h.same hg.block
theorem at' (h : CellsIn w a xs) (hn : 0 < xs.length) : ∃ b off, a = some ⟨b, off, none⟩ ∧ b < w.heap.size ∧ ∀ i (hi : i < xs.length), w.cell? ⟨b, off + i, none⟩ = some (xs[i]'hi) := by
  obtain ⟨b, off, ha, hc⟩ := h (List.length_pos_iff.1 hn)
  refine ⟨b, off, ha, World.cellsAt_lt hc hn, fun i hi => ?_⟩
  rw [World.cellsAt_cell hc i hi, List.getElem?_eq_getElem hi]
/-- n cells in the middle, as one row. -/
theorem row (h : CellsIn w a xs) (hn : 0 < xs.length) : ∃ b off, a = some ⟨b, off, none⟩ ∧ b < w.heap.size ∧ ∀ i m, i + m ≤ xs.length → w.cellsAt ⟨b, off + i, none⟩ m = some ((xs.drop i).take m) := by
  obtain ⟨b, off, ha, hc⟩ := h (List.length_pos_iff.1 hn)
  exact ⟨b, off, ha, World.cellsAt_lt hc hn, fun i m him => World.cellsAt_sub hc i m him⟩
theorem of_cells {b off : Nat} (h : ∀ i (hi : i < xs.length), w.cell? ⟨b, off + i, none⟩ = some (xs[i]'hi)) : CellsIn w (some ⟨b, off, none⟩) xs := fun _ =>
  ⟨b, off, rfl, World.cellsAt_of rfl (fun i hi => by rw [h i hi, List.getElem?_eq_getElem hi])⟩
theorem drop {b off : Nat} (h : CellsIn w (some ⟨b, off, none⟩) xs) (k : Nat) : CellsIn w (some ⟨b, off + k, none⟩) (xs.drop k) := by
  intro hn
  have hl : 0 < (xs.drop k).length := List.length_pos_iff.2 hn
  rw [List.length_drop] at hl
  obtain ⟨b', off', ha, _, hc⟩ := h.row (by omega)
  simp only [Option.some.injEq, Addr.mk.injEq, and_true] at ha
  obtain ⟨rfl, rfl⟩ := ha
  refine ⟨b, off + k, rfl, ?_⟩
  rw [hc k _ (by rw [List.length_drop]; omega), List.take_of_length_le (Nat.le_refl _)]
theorem take (h : CellsIn w a xs) (k : Nat) : CellsIn w a (xs.take k) := by
  intro hn
  have hl : 0 < (xs.take k).length := List.length_pos_iff.2 hn
  rw [List.length_take] at hl
  obtain ⟨b, off, ha, _, hc⟩ := h.row (by omega)
  refine ⟨b, off, ha, ?_⟩
  have := hc 0 (xs.take k).length (by rw [List.length_take]; omega)
  rw [Nat.add_zero] at this
  rw [this, List.drop_zero, List.length_take]
  congr 1
  rw [Nat.min_comm]
  rcases Nat.le_total xs.length k with h1 | h1
  · rw [Nat.min_eq_left h1, List.take_of_length_le (Nat.le_refl _), List.take_of_length_le h1]
  · rw [Nat.min_eq_right h1]
end CellsIn

/-- What a slice type's elements are. -/
def Elem (P : Program) (t e : TypeId) (size bytes : Nat) : Prop :=
  P.underlying t = some (.slice e) ∧ ∃ i z, P.info? e = some i ∧ i.zero = some z ∧ i.size = size ∧ i.bytes = bytes ∧ z.cells.size = size ∧ 0 < size
theorem Elem.of {P : Program} {t e : TypeId} {size bytes : Nat} (ht : P.underlying t = some (.slice e)) (hi : ((P.info? e).map fun i => (i.zero.map (·.cells.size), i.size, i.bytes)) = some (some size, size, bytes)) (h0 : 0 < size) : Elem P t e size bytes := by
  cases hq : P.info? e with
  | none => simp [hq] at hi
  | some i =>
    simp only [hq, Option.map_some, Option.some.injEq, Prod.mk.injEq] at hi
    obtain ⟨h1, h2, h3⟩ := hi
    cases hz : i.zero with
    | none => simp [hz] at h1
    | some z =>
      simp only [hz, Option.map_some, Option.some.injEq] at h1
      exact ⟨ht, i, z, hq, hz, h2, h3, h1, h0⟩

theorem heap_alloc_at (w : World) (o : Obj) (B : Nat) (h : B = w.heap.size) : (w.alloc o).heap[B]? = some o := by subst h; exact heap_alloc_new w o
theorem heap_alloc_past (w : World) (o : Obj) (B : Nat) (h : B < w.heap.size) : (w.alloc o).heap[B]? = w.heap[B]? := heap_alloc_old w o h

namespace World.ownsRow
variable {w w' : World} {base : Nat} {e : TypeId} {size n : Nat} {v : Value} {xs : List Value}
theorem grew (h : w.ownsRow base e size v n xs) (hg : Grew w w') : w'.ownsRow base e size v n xs :=
  h.kept (hg.grownBy none) (by cases v.ownBlock <;> simp)
theorem keep (h : w.ownsRow base e size v n xs) (hb : ∀ k, v.ownBlock = some k → w'.heap[k]? = w.heap[k]?) : w'.ownsRow base e size v n xs := by
  refine ⟨h.1, ?_⟩
  rcases h.2 with hn | ⟨g, cap, cur, rfl, hb', hgg, rest⟩
  · exact .inl hn
  · exact .inr ⟨g, cap, cur, rfl, hb', by rw [hb g rfl]; exact hgg, rest⟩
theorem low (h : w.ownsRow base e size v n xs) {base' : Nat} (hb : base' ≤ base) : w.ownsRow base' e size v n xs := by
  refine ⟨h.1, ?_⟩
  rcases h.2 with hn | ⟨g, cap, cur, rfl, hb', rest⟩
  · exact .inl hn
  · exact .inr ⟨g, cap, cur, rfl, by omega, rest⟩
theorem setOther (h : w.ownsRow base e size v n xs) {q i : Nat} (hq : v.ownBlock ≠ some q) (u : Value) : (w.setCell ⟨q, i, none⟩ u).ownsRow base e size v n xs :=
  h.keep fun k hk => Go.RowKit.Below.heap_setCell w ⟨q, i, none⟩ u k (fun e => hq (by rw [hk]; exact congrArg some e))
/-- What an owned slice reads as. -/
theorem rd (h : w.ownsRow base e size v n xs) : ∃ a cap, v = .slice a n cap ∧ n ≤ cap ∧ cap ≤ 9223372036854775807 ∧ CellsIn w a xs ∧ (∀ b, a = some b → base ≤ b.block ∧ b.block < w.heap.size) ∧ (a = none → n = 0 ∧ cap = 0) := by
  have hx := h.1
  rcases h.2 with ⟨rfl, rfl⟩ | ⟨g, cap, cur, rfl, hb', hg, hn, hm, hcs, htk⟩
  · have : xs = [] := by simpa using hx
    subst this
    exact ⟨none, 0, rfl, Nat.le_refl _, by omega, CellsIn.nil _ _, by simp, fun _ => ⟨rfl, rfl⟩⟩
  · refine ⟨_, cap, rfl, hn, by unfold maxLen at hm; omega, CellsIn.of_cells (fun i hi => ?_), fun b hb => ?_, fun h => by cases h⟩
    · rw [Nat.zero_add, cell_of_row w g i cur e (0, 0) hg]
      have : cur.toList[i]? = some xs[i] := by
        rw [← List.getElem?_eq_getElem hi, ← htk, List.getElem?_take, if_pos (by omega)]
      simpa using this
    · cases hb; exact ⟨hb', (Array.getElem?_eq_some_iff.1 hg).1⟩
theorem caps {a : Option Addr} {m cap : Nat} (h : w.ownsRow base e size (.slice a m cap) n xs) : n ≤ cap ∧ cap ≤ 9223372036854775807 := by
  obtain ⟨a', c', e, h1, h2, _⟩ := h.rd
  cases e; exact ⟨h1, h2⟩
theorem cin {a : Option Addr} {m cap : Nat} (h : w.ownsRow base e size (.slice a m cap) n xs) : CellsIn w a xs := by
  obtain ⟨a', c', e, _, _, h3, _⟩ := h.rd
  cases e; exact h3
end World.ownsRow

section
variable {P : Program} {ops : Array Oper} {rest : List Oper} {o : Oper} {a : Act} {w : World} {Q : Exit → Act → World → Prop}
/-- append of m elements that have just been laid into a block of their own. -/
theorem wpList_app (hgd : o.guard = none) (s x : Operand) (t : TypeId)
    (ho : o.op = .call { callee := .builtin .append, args := #[s, x], argTypes := #[t, t] })
    {e : TypeId} {size bytes : Nat} (hE : Elem P t e size bytes) (base : Nat) (v : Value) (n : Nat) (xs : List Value) (hs : a.eval s = v) (hown : w.ownsRow base e size v n xs)
    (B m c : Nat) (cs : Array Value) (tt : TypeId) (hx : a.eval x = .slice (some ⟨B, 0, none⟩) m c) (hb : w.heap[B]? = some (.cells cs tt (0, 0))) (hl : cs.size = m * size) (h1 : ∀ u ∈ cs.toList, u.oneCell' = true)
    (hm : 0 < m) (hbytes : (n + m) * bytes ≤ 140737488355328) (h63 : n + m ≤ maxLen) (W0 : World) (hg0 : Grew W0 w) (h00 : W0.heap.size ≤ base) (hbase : base ≤ w.heap.size)
    (h : ∀ g cap w1, Grew W0 w1 → w1.ownsRow base e size (.slice (some ⟨g, 0, none⟩) (n + m) cap) (n + m) (xs ++ cs.toList) → (∀ k, k < w.heap.size → some k ≠ v.ownBlock → w1.heap[k]? = w.heap[k]?) → w.heap.size ≤ w1.heap.size → (v.ownBlock = some g ∨ g = w.heap.size) → wpList P ops Q rest (a.put o.dst (.slice (some ⟨g, 0, none⟩) (n + m) cap)) w1) : wpList P ops Q (o :: rest) a w := by
  obtain ⟨ht, i, z, hi, hz, hsz, hby, hzs, h0⟩ := hE
  refine wpList_append_lies w hgd s x t ho base e i z size bytes ht hi hz hsz hby hzs h0 v n xs hs hown _ m c cs.toList hx (by simpa using hl) (World.news_of_block hb) h1 hm h63 hbytes hbase _ rfl (fun g cap w1 hown1 hgrow hat hlt => ?_)
  exact h g cap w1 (hg0.grown hgrow (fun k hk => by have := (hown.lt k hk).1; omega)) hown1 hgrow.block hgrow.size hat
/-- append of another slice. -/
theorem wpList_apps (hgd : o.guard = none) (s x : Operand) (t : TypeId)
    (ho : o.op = .call { callee := .builtin .append, args := #[s, x], argTypes := #[t, t] })
    {e : TypeId} {size bytes : Nat} (hE : Elem P t e size bytes) (base : Nat) (v : Value) (n : Nat) (xs : List Value) (hs : a.eval s = v) (hown : w.ownsRow base e size v n xs)
    (ad : Option Addr) (m c : Nat) (news : List Value) (hx : a.eval x = .slice ad m c) (hin : CellsIn w ad news) (hl : news.length = m * size) (h1 : ∀ u ∈ news, u.oneCell' = true) (had : ad = none → m = 0 ∧ c = 0)
    (hbytes : (n + m) * bytes ≤ 140737488355328) (h63 : n + m ≤ maxLen) (W0 : World) (hg0 : Grew W0 w) (h00 : W0.heap.size ≤ base) (hbase : base ≤ w.heap.size)
    (h : ∀ ar cap w1, Grew W0 w1 → w1.ownsRow base e size (.slice ar (n + m) cap) (n + m) (xs ++ news) → (∀ k, k < w.heap.size → some k ≠ v.ownBlock → w1.heap[k]? = w.heap[k]?) → w.heap.size ≤ w1.heap.size → wpList P ops Q rest (a.put o.dst (.slice ar (n + m) cap)) w1) : wpList P ops Q (o :: rest) a w := by
  obtain ⟨ht, i, z, hi, hz, hsz, hby, hzs, h0⟩ := hE
  cases ad with
  | none =>
    obtain ⟨rfl, rfl⟩ := had rfl
    have hnil : news = [] := List.eq_nil_of_length_eq_zero (by simpa using hl)
    subst hnil
    refine wpList_plain hgd fun _ hK => ?_
    have hr := run_append_owned_none (P := P) w base t o.type e i size ht hi v n xs hown
    obtain ⟨ar, cap, rfl, _⟩ := hown.rd
    unfold Oper.wp execOp
    simp only [ho, resolve, invoke, builtin, Sem.run_bind, Sem.run_pure, Result.andThen_ok, List.map_toArray, List.map_cons, List.map_nil, hs, hx, hr]
    exact hK _ _ (h ar cap w hg0 (by simpa using hown) (fun _ _ _ => rfl) (Nat.le_refl _))
  | some ad =>
    refine wpList_append_own w hgd s x t ho base e i z size bytes ht hi hz hsz hby hzs h0 v n xs hs hown ad m c news hx hl (fun j u hu => ?_) h1 h63 hbytes hbase (fun v' w1 hown1 hgrow _ => ?_)
    · have hj : j < news.length := (List.getElem?_eq_some_iff.1 hu).1
      obtain ⟨b, off, ha, _, hc⟩ := hin.at' (by omega)
      cases ha
      have := hc j hj
      rw [← hu, List.getElem?_eq_getElem hj, ← this]
      congr 1
      unfold Addr.add; split <;> simp_all
    · obtain ⟨ar, cap, rfl, _⟩ := hown1.rd
      exact h ar cap w1 (hg0.grown hgrow (fun k hk => by have := (hown.lt k hk).1; omega)) hown1 hgrow.block hgrow.size
end

/-- A block that is known whole, read as a row. -/
theorem World.cellsAt_block {w : World} {q : Nat} {c : Array Value} {t : TypeId} {fr : Nat × Nat} (h : w.heap[q]? = some (.cells c t fr)) (n : Nat) (hn : c.size = n) : w.cellsAt ⟨q, 0, none⟩ n = some c.toList :=
  World.cellsAt_of (by simpa using hn) (fun i hi => by rw [Nat.zero_add, cell_of_row w q i c t fr h]; simp)
/-- A cell of the call's own. -/
theorem World.own_cell {w : World} {q : Nat} {c : Array Value} {t : TypeId} (h : w.heap[q]? = some (.cells c t (0, 0))) (i : Nat) (u : Value) (hu : c[i]? = some u) : w.cell? ⟨q, i, none⟩ = some u ∧ w.frozen? ⟨q, i, none⟩ = false := by
  refine ⟨by rw [cell_of_row w q i c t (0, 0) h, hu], frozen_of_row w q i c t h⟩
theorem World.own_setCell {w : World} {q i : Nat} {c : Array Value} {t : TypeId} (h : w.heap[q]? = some (.cells c t (0, 0))) (u : Value) : (w.setCell ⟨q, i, none⟩ u).heap[q]? = some (.cells (c.setIfInBounds i u) t (0, 0)) := by
  simp only [World.setCell, Array.getElem?_modify, if_true, h, Option.map_some]
  congr 2
theorem World.setCell_size (w : World) (p : Addr) (u : Value) : (w.setCell p u).heap.size = w.heap.size := by simp [World.setCell]
theorem World.block_setCell (w : World) (p : Addr) (u : Value) (k : Nat) (h : k ≠ p.block) : (w.setCell p u).heap[k]? = w.heap[k]? := Below.heap_setCell w p u k h

theorem World.kept_block {w w1 : World} {row : Option Nat} {q : Nat} {o : Obj} (hkeep : ∀ k, k < w.heap.size → some k ≠ row → w1.heap[k]? = w.heap[k]?) (h : w.heap[q]? = some o) (hne : row ≠ some q) : w1.heap[q]? = some o := by
  rw [hkeep q (Array.getElem?_eq_some_iff.1 h).1 (Ne.symm hne)]; exact h
theorem World.own_cell1 {w : World} {q : Nat} {u : Value} {t : TypeId} (h : w.heap[q]? = some (.cells #[u] t (0, 0))) : w.cell? ⟨q, 0, none⟩ = some u := (World.own_cell h 0 u rfl).1
/-- A row of numbers of which the first k have been written. -/
def numRow (n : Nat) (f : Nat → Int) (k : Nat) : Array Value := ((List.range n).map fun j => Value.int .i64 (if j < k then f j else 0)).toArray
theorem numRow_size (n : Nat) (f : Nat → Int) (k : Nat) : (numRow n f k).size = n := by simp [numRow]
theorem numRow_get (n : Nat) (f : Nat → Int) (k j : Nat) (h : j < n) : (numRow n f k)[j]? = some (.int .i64 (if j < k then f j else 0)) := by simp [numRow, h]
theorem numRow_set (n : Nat) (f : Nat → Int) (k : Nat) (h : k < n) : (numRow n f k).setIfInBounds k (.int .i64 (f k)) = numRow n f (k + 1) := by
  apply Array.ext_getElem?
  intro j
  rw [Array.getElem?_setIfInBounds]
  by_cases hj : j < n
  · rw [numRow_get _ _ _ _ hj, numRow_size]
    by_cases e : k = j
    · subst e; rw [if_pos rfl, if_pos h, numRow_get _ _ _ _ hj, if_pos (by omega)]
    · rw [if_neg e, numRow_get _ _ _ _ hj]
      congr 3
      rw [eq_iff_iff]; omega
  · rw [Array.getElem?_eq_none (by rw [numRow_size]; omega), Array.getElem?_eq_none (by rw [numRow_size]; omega), numRow_size]
    split
    · omega
    · rfl
theorem numRow_skip (n : Nat) (f : Nat → Int) (k : Nat) (h : f k = 0) : numRow n f (k + 1) = numRow n f k := by
  unfold numRow
  congr 1
  apply List.map_congr_left
  intro j _
  congr 1
  by_cases h1 : j < k
  · rw [if_pos h1, if_pos (by omega)]
  · rw [if_neg h1]
    split
    · obtain rfl : j = k := by omega
      exact h
    · rfl
theorem flat_length {α : Type} (f : α → List Value) (n : Nat) (hf : ∀ x, (f x).length = n) : ∀ xs : List α, (xs.flatMap f).length = xs.length * n
  | [] => by simp
  | x :: xs => by rw [List.flatMap_cons, List.length_append, hf, flat_length f n hf xs, List.length_cons, Nat.add_mul]; omega
theorem flat_row {α : Type} (f : α → List Value) (n : Nat) (hf : ∀ x, (f x).length = n) : ∀ (xs : List α) (i : Nat) (h : i < xs.length), ((xs.flatMap f).drop (i * n)).take n = f (xs[i]'h)
  | x :: xs, 0, _ => by
    rw [Nat.zero_mul, List.drop_zero, List.flatMap_cons]
    have := List.take_left (l₁ := f x) (l₂ := xs.flatMap f)
    rwa [hf] at this
  | x :: xs, i + 1, h => by
    have h1 : (xs.flatMap f).drop (i * n) = ((x :: xs).flatMap f).drop ((i + 1) * n) := by
      rw [List.flatMap_cons, Nat.add_mul, Nat.one_mul, Nat.add_comm, ← hf x, ← List.drop_drop, List.drop_left]
    rw [← h1]
    exact flat_row f n hf xs i (by simpa using h)
/-- A list of rows of one length in memory: the i-th row. -/
theorem CellsIn.rowAt {α : Type} {w : World} {a : Option Addr} (f : α → List Value) (n : Nat) (hf : ∀ x, (f x).length = n) (h0 : 0 < n) {xs : List α} (h : CellsIn w a (xs.flatMap f)) (hn : 0 < xs.length) :
    ∃ b off, a = some ⟨b, off, none⟩ ∧ b < w.heap.size ∧ ∀ i (hi : i < xs.length), w.cellsAt ⟨b, off + i * n, none⟩ n = some (f (xs[i]'hi)) := by
  have hlen := flat_length f n hf xs
  have hp : 0 < (xs.flatMap f).length := by rw [hlen]; exact Nat.mul_pos hn h0
  obtain ⟨b, off, ha, hb, hr⟩ := h.row hp
  refine ⟨b, off, ha, hb, fun i hi => ?_⟩
  rw [hr (i * n) n (by rw [hlen]; have : (i + 1) * n ≤ xs.length * n := Nat.mul_le_mul_right _ hi; rw [Nat.add_mul] at this; omega), flat_row f n hf]
theorem ne_fresh {v : Value} {g p H : Nat} (hat : v.ownBlock = some g ∨ g = H) (h1 : v.ownBlock ≠ some p) (h2 : p < H) (n c : Nat) : (Value.slice (some ⟨g, 0, none⟩) n c).ownBlock ≠ some p := fun e => by
  simp only [Value.ownBlock, Option.some.injEq] at e
  subst e
  rcases hat with h | h
  · exact h1 h
  · omega
/-- Bytes as cells. -/
def bv (l : List UInt8) : List Value := l.map fun b => .int .u8 b.toNat
theorem bv_length (l : List UInt8) : (bv l).length = l.length := by simp [bv]
theorem bv_get (l : List UInt8) (i : Nat) (h : i < (bv l).length) : (bv l)[i] = .int .u8 ((l[i]'(by simpa [bv] using h)).toNat : Int) := by simp [bv]
theorem bv_append (l m : List UInt8) : bv (l ++ m) = bv l ++ bv m := by simp [bv]
theorem bv_drop (l : List UInt8) (k : Nat) : bv (l.drop k) = (bv l).drop k := by simp [bv, List.map_drop]
theorem bv_take (l : List UInt8) (k : Nat) : bv (l.take k) = (bv l).take k := by simp [bv, List.map_take]
theorem bv_of_ints (l : List UInt8) (zs : List Int) (h : l.map (fun b => (b.toNat : Int)) = zs) : bv l = zs.map (Value.int .u8) := by
  rw [← h, List.map_map]; rfl
theorem bv_one (l : List UInt8) : ∀ u ∈ bv l, u.oneCell' = true := by
  intro u hu
  simp only [bv, List.mem_map] at hu
  obtain ⟨b, _, rfl⟩ := hu
  rfl
/-- string(text) of a slice of runes that reads as cs. -/
theorem conv_runes {P : Program} {w : World} {src dst e : TypeId} (hs : P.underlying src = some (.slice e)) (he : P.underlying e = some (.int .i32)) (hd : P.underlying dst = some .string)
    {a : Option Addr} {cs : List Int} (cap : Nat) (hin : CellsIn w a (cs.map (Value.int .i32))) : (convert src dst (.slice a cs.length cap)).run P w = .ok (.string (runesBytes cs)) w := by
  cases cs with
  | nil =>
    cases a with
    | none => exact run_convert_runes_nil w src dst e _ _ hs he hd
    | some a =>
      have := run_convert_runes w src dst e a 0 cap [] (Nat.le_refl _) hs he hd (fun j hj => absurd hj (Nat.not_lt_zero _))
      simpa using this
  | cons c cs =>
    obtain ⟨b, off, rfl, _, hx⟩ := hin.at' (by simp)
    have := run_convert_runes w src dst e ⟨b, off, none⟩ (c :: cs).length cap (c :: cs) (Nat.le_refl _) hs he hd (fun j hj => by
      have h1 := hx j (by simpa using hj)
      have h2 : (⟨b, off, none⟩ : Addr).add j = ⟨b, off + j, none⟩ := by unfold Addr.add; split <;> simp_all
      rw [h2, h1, List.getElem_map, List.getD_eq_getElem?_getD, List.getElem?_eq_getElem hj]; rfl)
    rwa [List.take_of_length_le (Nat.le_refl _)] at this
/-- string(b) of a slice of bytes that reads as l. -/
theorem conv_bytes {P : Program} {w : World} {src dst e : TypeId} (hs : P.underlying src = some (.slice e)) (he : P.underlying e = some (.int .u8)) (hd : P.underlying dst = some .string)
    {a : Option Addr} {l : List UInt8} (cap : Nat) (hin : CellsIn w a (bv l)) : (convert src dst (.slice a l.length cap)).run P w = .ok (.string ⟨l.toArray⟩) w := by
  have key : ∀ l : List UInt8, strOfNums (l.map fun b => (b.toNat : Int)) = ⟨l.toArray⟩ := by
    intro l
    unfold strOfNums
    rw [List.map_map]
    congr 2
    conv => rhs; rw [← List.map_id l]
    exact List.map_congr_left (fun b _ => by simp)
  cases l with
  | nil =>
    cases a with
    | none => exact run_convert_bytes_nil w src e hs he _ _ dst hd
    | some a =>
      obtain ⟨b, off, sp⟩ := a
      rw [run_convert_bytes_string w src dst e _ _ _ hs he hd]
      rfl
  | cons c l =>
    obtain ⟨b, off, rfl, _, hx⟩ := hin.at' (by simp [bv])
    rw [← key]
    refine run_convert_bytes_arg w src e hs he b off (c :: l).length cap ((c :: l).map fun b => (b.toNat : Int)) (by simp) (fun i hi => ?_) dst hd
    rw [hx i (by rw [bv_length]; exact hi), bv_get, List.getD_eq_getElem?_getD, List.getElem?_eq_getElem (by simpa using hi), List.getElem_map]
    rfl
end Go
