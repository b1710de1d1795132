/- Clocks as plain data: eight integers; covers, merge, meet, compare. No program in sight. -/
import GoSem.Core.Value
namespace Go

structure C8 where
  x0 : Int
  x1 : Int
  x2 : Int
  x3 : Int
  x4 : Int
  x5 : Int
  x6 : Int
  x7 : Int
deriving DecidableEq

namespace C8
def cells (c : C8) : Array Value := #[.int .i64 c.x0, .int .i64 c.x1, .int .i64 c.x2, .int .i64 c.x3, .int .i64 c.x4, .int .i64 c.x5, .int .i64 c.x6, .int .i64 c.x7]
def covers (a b : C8) : Bool := decide (b.x0 ≤ a.x0 ∧ b.x1 ≤ a.x1 ∧ b.x2 ≤ a.x2 ∧ b.x3 ≤ a.x3 ∧ b.x4 ≤ a.x4 ∧ b.x5 ≤ a.x5 ∧ b.x6 ≤ a.x6 ∧ b.x7 ≤ a.x7)
def merge (a b : C8) : C8 := ⟨max a.x0 b.x0, max a.x1 b.x1, max a.x2 b.x2, max a.x3 b.x3, max a.x4 b.x4, max a.x5 b.x5, max a.x6 b.x6, max a.x7 b.x7⟩
def meet (a b : C8) : C8 := ⟨min a.x0 b.x0, min a.x1 b.x1, min a.x2 b.x2, min a.x3 b.x3, min a.x4 b.x4, min a.x5 b.x5, min a.x6 b.x6, min a.x7 b.x7⟩
def compare (a b : C8) : Int := if a = b then 0 else if b.covers a then 1 else if a.covers b then 2 else 3
def get (c : C8) : Nat → Int
  | 0 => c.x0 | 1 => c.x1 | 2 => c.x2 | 3 => c.x3 | 4 => c.x4 | 5 => c.x5 | 6 => c.x6 | _ => c.x7
def set (c : C8) (i : Nat) (v : Int) : C8 :=
  match i with
  | 0 => { c with x0 := v } | 1 => { c with x1 := v } | 2 => { c with x2 := v } | 3 => { c with x3 := v }
  | 4 => { c with x4 := v } | 5 => { c with x5 := v } | 6 => { c with x6 := v } | _ => { c with x7 := v }
def zero : C8 := ⟨0, 0, 0, 0, 0, 0, 0, 0⟩

theorem covers_iff (a b : C8) : a.covers b = true ↔ (b.x0 ≤ a.x0 ∧ b.x1 ≤ a.x1 ∧ b.x2 ≤ a.x2 ∧ b.x3 ≤ a.x3 ∧ b.x4 ≤ a.x4 ∧ b.x5 ≤ a.x5 ∧ b.x6 ≤ a.x6 ∧ b.x7 ≤ a.x7) := by simp [covers]
theorem covers_antisymm (a b : C8) (h : a.covers b = true) (k : b.covers a = true) : a = b := by
  obtain ⟨⟩ := a; obtain ⟨⟩ := b
  simp only [covers_iff] at h k
  simp only [C8.mk.injEq]; omega
theorem covers_refl (a : C8) : a.covers a = true := by simp [covers_iff]
theorem cells_get (c : C8) (k : Nat) (h : k < 8) : c.cells[k]? = some (.int .i64 (c.get k)) := by
  match k, h with
  | 0, _ => rfl
  | 1, _ => rfl
  | 2, _ => rfl
  | 3, _ => rfl
  | 4, _ => rfl
  | 5, _ => rfl
  | 6, _ => rfl
  | 7, _ => rfl
theorem cells_set (c : C8) (k : Nat) (v : Int) (h : k < 8) : c.cells.setIfInBounds k (.int .i64 v) = (c.set k v).cells := by
  match k, h with
  | 0, _ => rfl
  | 1, _ => rfl
  | 2, _ => rfl
  | 3, _ => rfl
  | 4, _ => rfl
  | 5, _ => rfl
  | 6, _ => rfl
  | 7, _ => rfl
theorem set_get (c : C8) (k : Nat) (h : k < 8) : c.set k (c.get k) = c := by
  match k, h with
  | 0, _ => rfl
  | 1, _ => rfl
  | 2, _ => rfl
  | 3, _ => rfl
  | 4, _ => rfl
  | 5, _ => rfl
  | 6, _ => rfl
  | 7, _ => rfl
theorem size_cells (c : C8) : c.cells.size = 8 := rfl

/-- What a loop over the entries has made of a after k rounds. -/
def upTo (f : Int → Int → Int) (a b : C8) : Nat → C8
  | 0 => a
  | k + 1 => (upTo f a b k).set k (f ((upTo f a b k).get k) (b.get k))
theorem upTo_max (a b : C8) : upTo max a b 8 = a.merge b := by
  simp [upTo, merge, set, get]
theorem upTo_min (a b : C8) : upTo min a b 8 = a.meet b := by
  simp [upTo, meet, set, get]
def toL (c : C8) : List Int := [c.x0, c.x1, c.x2, c.x3, c.x4, c.x5, c.x6, c.x7]
theorem cells_toL (c : C8) : c.cells = (c.toL.map (Value.int .i64)).toArray := rfl
theorem toL_inj (a b : C8) : a.toL = b.toL ↔ a = b := by
  obtain ⟨⟩ := a; obtain ⟨⟩ := b
  simp [toL]
/-- Is it the number of a replica? -/
def isIn (r : Int) : Bool := decide (0 ≤ r) && decide (r < 8)
def has (a : C8) (r n : Int) : Bool := isIn r && (decide (1 ≤ n) && decide (n ≤ a.get r.toNat))
/-- All entries are numbers of 64 bits. -/
def Fits (c : C8) : Prop := ∀ i, i < 8 → -9223372036854775808 ≤ c.get i ∧ c.get i ≤ 9223372036854775807
end C8

/-- An act: its operation, its number, its issuer's clock. -/
structure ActD where
  kind : Int
  place : Int
  char : Int
  replica : Int
  number : Int
  clock : C8
deriving DecidableEq
namespace ActD
def cells (c : ActD) : Array Value := #[.int .i64 c.kind, .int .i64 c.place, .int .i32 c.char, .int .i64 c.replica, .int .i64 c.number, .int .i64 c.clock.x0, .int .i64 c.clock.x1, .int .i64 c.clock.x2, .int .i64 c.clock.x3, .int .i64 c.clock.x4, .int .i64 c.clock.x5, .int .i64 c.clock.x6, .int .i64 c.clock.x7]
theorem cells_clock (c : ActD) (k : Nat) (h : k < 8) : c.cells[5 + k]? = some (.int .i64 (c.clock.get k)) := by
  match k, h with
  | 0, _ => rfl
  | 1, _ => rfl
  | 2, _ => rfl
  | 3, _ => rfl
  | 4, _ => rfl
  | 5, _ => rfl
  | 6, _ => rfl
  | 7, _ => rfl
end ActD
def C8.ready (a : C8) (x : ActD) : Bool :=
  C8.isIn x.replica && (!(a.get x.replica.toNat == 9223372036854775807) && (decide (1 ≤ x.number) && (x.number == a.get x.replica.toNat + 1 && (x.clock.get x.replica.toNat == a.get x.replica.toNat && a.covers x.clock))))
/-- How many acts the first k entries of w want beyond h's. -/
def C8.lagTo (h w : C8) : Nat → Int
  | 0 => 0
  | k + 1 => C8.lagTo h w k + (if w.get k ≤ h.get k then 0 else w.get k - h.get k)
def C8.lag (h w : C8) : Int := if C8.lagTo h w 8 ≤ 9223372036854775807 then C8.lagTo h w 8 else 9223372036854775807
theorem C8.lagTo_le (h w : C8) (k : Nat) : C8.lagTo h w k ≤ C8.lagTo h w (k + 1) := by
  simp only [C8.lagTo]; split <;> omega
theorem C8.lagTo_nonneg (h w : C8) (k : Nat) : 0 ≤ C8.lagTo h w k := by
  induction k with
  | zero => simp [C8.lagTo]
  | succ k ih => have := C8.lagTo_le h w k; omega
theorem C8.lagTo_le8 (h w : C8) (k : Nat) (hk : k ≤ 8) : C8.lagTo h w k ≤ C8.lagTo h w 8 := by
  have key : ∀ n, k + n ≤ 8 → C8.lagTo h w k ≤ C8.lagTo h w (k + n) := by
    intro n
    induction n with
    | zero => intro _; exact Int.le_refl _
    | succ n ih => intro hn; exact Int.le_trans (ih (by omega)) (C8.lagTo_le h w (k + n))
  have := key (8 - k) (by omega)
  rwa [show k + (8 - k) = 8 by omega] at this
theorem C8.lag_over (h w : C8) (k : Nat) (hk : k < 8) (hv : ¬ C8.lagTo h w (k + 1) ≤ 9223372036854775807) : C8.lag h w = 9223372036854775807 := by
  have := C8.lagTo_le8 h w (k + 1) (by omega)
  rw [C8.lag, if_neg (by omega)]
theorem C8.lagTo_skip (h w : C8) (k : Nat) (hv : w.get k ≤ h.get k) : C8.lagTo h w (k + 1) = C8.lagTo h w k := by
  simp [C8.lagTo, hv]
theorem C8.lagTo_add (h w : C8) (k : Nat) (hv : ¬ w.get k ≤ h.get k) : C8.lagTo h w (k + 1) = C8.lagTo h w k + (w.get k - h.get k) := by
  simp [C8.lagTo, hv]
theorem C8.lag_all (h w : C8) (hv : C8.lagTo h w 8 ≤ 9223372036854775807) : C8.lag h w = C8.lagTo h w 8 := by
  rw [C8.lag, if_pos hv]
/-- Are the first k entries right for n replicas? -/
def C8.validTo (c : C8) (n : Int) : Nat → Bool
  | 0 => true
  | k + 1 => C8.validTo c n k && decide (0 ≤ c.get k ∧ ((k : Int) < n ∨ c.get k = 0))
def C8.valid (c : C8) (n : Int) : Bool := decide (0 ≤ n) && (decide (n ≤ 8) && C8.validTo c n 8)
theorem C8.validTo_false (c : C8) (n : Int) (k m : Nat) (h : C8.validTo c n k = false) : C8.validTo c n (k + m) = false := by
  induction m with
  | zero => exact h
  | succ m ih => show C8.validTo c n (k + m + 1) = false; rw [C8.validTo, ih, Bool.false_and]
theorem C8.valid_over (c : C8) (n : Int) (k : Nat) (hk : k < 8) (h : C8.validTo c n (k + 1) = false) : C8.valid c n = false := by
  have := C8.validTo_false c n (k + 1) (8 - (k + 1)) h
  rw [show k + 1 + (8 - (k + 1)) = 8 by omega] at this
  simp [C8.valid, this]
theorem C8.valid_all (c : C8) (n : Int) (h0 : 0 ≤ n) (h8 : n ≤ 8) (h : C8.validTo c n 8 = true) : C8.valid c n = true := by
  simp [C8.valid, h0, h8, h]
theorem C8.lag_nonneg (h w : C8) : 0 ≤ C8.lag h w := by
  have := C8.lagTo_nonneg h w 8
  unfold C8.lag; split <;> omega
theorem C8.covers_get (a b : C8) (h : a.covers b = true) (k : Nat) (hk : k < 8) : b.get k ≤ a.get k := by
  rw [C8.covers_iff] at h
  match k, hk with
  | 0, _ => exact h.1
  | 1, _ => exact h.2.1
  | 2, _ => exact h.2.2.1
  | 3, _ => exact h.2.2.2.1
  | 4, _ => exact h.2.2.2.2.1
  | 5, _ => exact h.2.2.2.2.2.1
  | 6, _ => exact h.2.2.2.2.2.2.1
  | 7, _ => exact h.2.2.2.2.2.2.2
theorem C8.covers_of_get (a b : C8) (h : ∀ k, k < 8 → b.get k ≤ a.get k) : a.covers b = true := by
  rw [C8.covers_iff]
  exact ⟨h 0 (by omega), h 1 (by omega), h 2 (by omega), h 3 (by omega), h 4 (by omega), h 5 (by omega), h 6 (by omega), h 7 (by omega)⟩
theorem C8.lagTo_zero (h w : C8) (hc : h.covers w = true) : ∀ k, k ≤ 8 → C8.lagTo h w k = 0
  | 0, _ => rfl
  | k + 1, hk => by rw [C8.lagTo_skip h w k (C8.covers_get h w hc k (by omega))]; exact C8.lagTo_zero h w hc k (by omega)
theorem C8.lag_beq (h w : C8) : (C8.lag h w == 0) = h.covers w := by
  cases hc : h.covers w with
  | true =>
    have := C8.lagTo_zero h w hc 8 (by omega)
    simp [C8.lag, this]
  | false =>
    rw [beq_eq_false_iff_ne]
    intro h0
    have : h.covers w = true := C8.covers_of_get h w (fun k hk => by
      by_cases hle : w.get k ≤ h.get k
      · exact hle
      · have h1 := C8.lagTo_add h w k hle
        have h2 := C8.lagTo_nonneg h w k
        have h3 := C8.lagTo_le8 h w (k + 1) (by omega)
        unfold C8.lag at h0
        split at h0 <;> omega)
    rw [this] at hc; cases hc
/-- All of a list joined, from its first on. -/
def C8.folded (f : C8 → C8 → C8) : List C8 → C8
  | [] => C8.zero
  | x :: l => l.foldl f x
theorem C8.foldl_take (f : C8 → C8 → C8) (x : C8) (l : List C8) (k : Nat) (h : k < l.length) : (l.take (k + 1)).foldl f x = f ((l.take k).foldl f x) (l[k]'h) := by
  rw [List.take_succ_eq_append_getElem h, List.foldl_append]
  rfl
theorem C8.merge_self (a : C8) : a.merge a = a := by simp [C8.merge]
theorem C8.meet_self (a : C8) : a.meet a = a := by simp [C8.meet]
theorem C8.folded_take (f : C8 → C8 → C8) (xs : List C8) (k : Nat) (h0 : 0 < k) (h : k < xs.length) : C8.folded f (xs.take (k + 1)) = f (C8.folded f (xs.take k)) (xs[k]'h) := by
  cases xs with
  | nil => simp at h
  | cons x l =>
    obtain ⟨j, rfl⟩ : ∃ j, k = j + 1 := ⟨k - 1, by omega⟩
    simp only [List.take_succ_cons, C8.folded, List.getElem_cons_succ]
    rw [C8.foldl_take f x l j (by simpa using h)]
theorem C8.folded_one (f : C8 → C8 → C8) (xs : List C8) (h : 0 < xs.length) : C8.folded f (xs.take 1) = xs[0]'h := by
  cases xs with
  | nil => simp at h
  | cons x l => simp [C8.folded]
theorem C8.covers_merge (c a b : C8) : c.covers (a.merge b) = (c.covers a && c.covers b) := by
  rw [Bool.eq_iff_iff]; simp only [Bool.and_eq_true, C8.covers_iff, C8.merge]; omega
theorem C8.meet_covers (a b c : C8) : (a.meet b).covers c = (a.covers c && b.covers c) := by
  rw [Bool.eq_iff_iff]; simp only [Bool.and_eq_true, C8.covers_iff, C8.meet]; omega
theorem C8.covers_trans (a b c : C8) (h : a.covers b = true) (k : b.covers c = true) : a.covers c = true := by
  simp only [C8.covers_iff] at *; omega
theorem C8.covers_foldl (c : C8) : ∀ (l : List C8) (x : C8), c.covers (l.foldl C8.merge x) = (c.covers x && l.all fun y => c.covers y)
  | [], x => by simp
  | y :: l, x => by rw [List.foldl_cons, C8.covers_foldl c l, C8.covers_merge, List.all_cons, Bool.and_assoc]
theorem C8.foldl_covers (c : C8) : ∀ (l : List C8) (x : C8), (l.foldl C8.meet x).covers c = (x.covers c && l.all fun y => y.covers c)
  | [], x => by simp
  | y :: l, x => by rw [List.foldl_cons, C8.foldl_covers c l, C8.meet_covers, List.all_cons, Bool.and_assoc]
theorem C8.covers_most (c : C8) (xs : List C8) (h : 0 < xs.length) : c.covers (C8.folded C8.merge xs) = xs.all fun y => c.covers y := by
  cases xs with
  | nil => simp at h
  | cons x l => rw [C8.folded, C8.covers_foldl, List.all_cons]
theorem C8.least_covers (c : C8) (xs : List C8) (h : 0 < xs.length) : (C8.folded C8.meet xs).covers c = xs.all fun y => y.covers c := by
  cases xs with
  | nil => simp at h
  | cons x l => rw [C8.folded, C8.foldl_covers, List.all_cons]
theorem C8.most_covers_each (xs : List C8) (k : Nat) (h : k < xs.length) : (C8.folded C8.merge xs).covers (xs[k]'h) = true := by
  have := C8.covers_most (C8.folded C8.merge xs) xs (by omega)
  rw [C8.covers_refl] at this
  exact List.all_eq_true.1 this.symm _ (List.getElem_mem h)
theorem C8.each_covers_least (xs : List C8) (k : Nat) (h : k < xs.length) : (xs[k]'h).covers (C8.folded C8.meet xs) = true := by
  have := C8.least_covers (C8.folded C8.meet xs) xs (by omega)
  rw [C8.covers_refl] at this
  exact List.all_eq_true.1 this.symm _ (List.getElem_mem h)
theorem all_take_succ {α : Type} (p : α → Bool) (xs : List α) (k : Nat) (h : k < xs.length) : (xs.take (k + 1)).all p = ((xs.take k).all p && p (xs[k]'h)) := by
  rw [List.take_succ_eq_append_getElem h, List.all_append]; simp
end Go
