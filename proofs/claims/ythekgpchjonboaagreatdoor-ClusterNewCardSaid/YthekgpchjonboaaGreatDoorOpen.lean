/- Opening arguments whose types are flat: integers, bools and strings, in structs and arrays. No program in sight. -/
import Derived.Test.YthekgpchjonboaaGreatDoorBase
import Derived.Test.YthekgpchjonboaaGreatDoorSl
import Derived.ProofKit
import Derived.OpenShut
import Derived.Deep.Slices
namespace Go
open Go.ChangeShapes Go.WideShapes

/-- Does a cell hold a value of that scalar type? -/
def FitsCell : TypeDesc → Value → Prop
  | .int k, v => ∃ n, v = .int k n ∧ (Lit.int k n).wf = true
  | .bool, v => ∃ b, v = .bool b
  | .string, v => ∃ s, v = .string s ∧ s.size ≤ maxLen
  | _, _ => False

def FitsRow : List TypeDesc → List Value → Prop
  | [], [] => True
  | k :: ks, c :: cs => FitsCell k c ∧ FitsRow ks cs
  | _, _ => False

theorem FitsRow.length {ks : List TypeDesc} {cs : List Value} (h : FitsRow ks cs) : cs.length = ks.length := by
  induction ks generalizing cs with
  | nil => cases cs <;> simp_all [FitsRow]
  | cons k ks ih => cases cs with
    | nil => simp [FitsRow] at h
    | cons c cs => simp [ih h.2]
theorem FitsRow.append {ks ls : List TypeDesc} {cs ds : List Value} (h : FitsRow ks cs) (k : FitsRow ls ds) : FitsRow (ks ++ ls) (cs ++ ds) := by
  induction ks generalizing cs with
  | nil => cases cs <;> simp_all [FitsRow]
  | cons a ks ih => cases cs with
    | nil => simp [FitsRow] at h
    | cons c cs => exact ⟨h.1, ih h.2⟩
theorem fitsRow_cons {k : TypeDesc} {ks : List TypeDesc} {cs : List Value} (h : FitsRow (k :: ks) cs) : ∃ c cs', cs = c :: cs' ∧ FitsCell k c ∧ FitsRow ks cs' := by
  cases cs with
  | nil => simp [FitsRow] at h
  | cons c cs => exact ⟨c, cs, rfl, h.1, h.2⟩
theorem fitsRow_nil {cs : List Value} (h : FitsRow [] cs) : cs = [] := by
  cases cs with
  | nil => rfl
  | cons c cs => simp [FitsRow] at h
theorem fitsCell_int {k : IntKind} {v : Value} (h : FitsCell (.int k) v) : ∃ n, v = .int k n ∧ (Lit.int k n).wf = true := h
theorem fitsCell_bool {v : Value} (h : FitsCell .bool v) : ∃ b, v = .bool b := h
theorem fitsCell_string {v : Value} (h : FitsCell .string v) : ∃ s, v = .string s ∧ s.size ≤ maxLen := h

/-- The scalar types of a type's cells, if it is flat. -/
def flatFields (f : TypeId → Option (List TypeDesc)) (c : TypeId → Nat) : Nat → List Field → Option (List TypeDesc)
  | _, [] => some []
  | off, x :: xs => (f x.type).bind fun ks => if x.offset = off ∧ c x.type = ks.length then (flatFields f c (off + ks.length) xs).map (ks ++ ·) else none
def Program.flat (P : Program) : Nat → TypeId → Option (List TypeDesc)
  | 0, _ => none
  | d + 1, t => match P.underlying t with
    | some (.int k) => some [.int k]
    | some .bool => some [.bool]
    | some .string => some [.string]
    | some (.array n e) => (P.flat d e).bind fun ks => if P.cellsOf e = ks.length ∧ P.cellsOf t = n * ks.length then some (List.replicate n ks).flatten else none
    | some (.struct fs) => (flatFields (P.flat d) P.cellsOf 0 fs.toList).bind fun ks => if P.cellsOf t = ks.length then some ks else none
    | _ => none

section
variable {H : Type} {enc : TypeId × Value → H} {P : Program} {w : World} {base : Nat} {spare : Nat → Bool} {held : Bool}

theorem fits_rows {ks : List TypeDesc} : ∀ (n : Nat) (cs : List Value), cs.length = n * ks.length → (∀ i, i < n → FitsRow ks ((cs.drop (i * ks.length)).take ks.length)) → FitsRow (List.replicate n ks).flatten cs
  | 0, cs, hl, _ => by
    have : cs = [] := by simpa using hl
    subst this; exact trivial
  | n + 1, cs, hl, h => by
    have h0 := h 0 (by omega)
    simp only [Nat.zero_mul, List.drop_zero] at h0
    rw [List.replicate_succ, List.flatten_cons, ← List.take_append_drop ks.length cs]
    refine h0.append (fits_rows n (cs.drop ks.length) (by rw [List.length_drop, hl, Nat.add_mul]; omega) (fun i hi => ?_))
    have := h (i + 1) (by omega)
    rwa [List.drop_drop, show ks.length + i * ks.length = (i + 1) * ks.length by rw [Nat.add_mul]; omega]

theorem trod_flatFields {d m : Nat} {cs : List Value}
    (ih : ∀ (t : TypeId) (ks : List TypeDesc) (cs : List Value) (x : DataW H × List MemPlace), P.flat d t = some ks → DataW.trod enc P w base spare held m t cs = some x → x.2 = [] ∧ FitsRow ks cs) :
    ∀ (l : List Field) (ys : List (DataW H × List MemPlace)) (off : Nat) (ks : List TypeDesc), flatFields (P.flat d) P.cellsOf off l = some ks → ys.length = l.length →
      (∀ (i : Nat) (f : Field), l[i]? = some f → DataW.trod enc P w base spare held m f.type ((cs.drop f.offset).take (P.cellsOf f.type)) = ys[i]?) →
      ys.flatMap (·.2) = [] ∧ FitsRow ks ((cs.drop off).take ks.length)
  | [], ys, off, ks, h, hl, _ => by
    simp only [flatFields, Option.some.injEq] at h
    subst h
    have : ys = [] := by simpa using hl
    subst this
    exact ⟨rfl, by simp [FitsRow]⟩
  | f :: l, [], off, ks, h, hl, _ => by simp at hl
  | f :: l, y :: ys, off, ks, h, hl, hg => by
    simp only [flatFields] at h
    cases hf : P.flat d f.type with
    | none => simp [hf] at h
    | some qs =>
      simp only [hf, Option.bind_some] at h
      split at h
      · rename_i hc
        cases hr : flatFields (P.flat d) P.cellsOf (off + qs.length) l with
        | none => simp [hr] at h
        | some rs =>
          simp only [hr, Option.map_some, Option.some.injEq] at h
          subst h
          have h0 := hg 0 f rfl
          rw [hc.1, hc.2] at h0
          obtain ⟨h1, h2⟩ := ih _ _ _ _ hf h0
          obtain ⟨h3, h4⟩ := trod_flatFields ih l ys (off + qs.length) rs hr (by simpa using hl) (fun i g hi => hg (i + 1) g (by simpa using hi))
          refine ⟨by simp only [List.flatMap_cons, h1, h3, List.append_nil], ?_⟩
          have hsp : (cs.drop off).take (qs ++ rs).length = (cs.drop off).take qs.length ++ (cs.drop (off + qs.length)).take rs.length := by
            rw [List.length_append, List.take_add, List.drop_drop]
          rw [hsp]
          exact h2.append h4
      · simp at h

theorem trod_flat : ∀ (d : Nat) (t : TypeId) (ks : List TypeDesc) (fuel : Nat) (cs : List Value) (x : DataW H × List MemPlace), P.flat d t = some ks →
    DataW.trod enc P w base spare held fuel t cs = some x → x.2 = [] ∧ FitsRow ks cs
  | 0, _, _, _, _, _, h, _ => by simp [Program.flat] at h
  | d + 1, t, ks, fuel, cs, x, h, hx => by
    unfold Program.flat at h
    split at h
    · rename_i k hu
      obtain ⟨n, rfl, rfl, wn⟩ := DataW.trod_int hu hx
      simp only [Option.some.injEq] at h; subst h
      exact ⟨rfl, ⟨n, rfl, wn⟩, trivial⟩
    · rename_i hu
      obtain ⟨b, rfl, rfl⟩ := DataW.trod_bool hu hx
      simp only [Option.some.injEq] at h; subst h
      exact ⟨rfl, ⟨b, rfl⟩, trivial⟩
    · rename_i hu
      obtain ⟨s, rfl, rfl, ws⟩ := DataW.trod_string hu hx
      simp only [Option.some.injEq] at h; subst h
      exact ⟨rfl, ⟨s, rfl, ws⟩, trivial⟩
    · rename_i n e hu
      obtain ⟨xs, m, rfl, rfl, hl, hn, hel⟩ := DataW.trod_array hu hx
      cases hf : P.flat d e with
      | none => simp [hf] at h
      | some qs =>
        simp only [hf, Option.bind_some] at h
        split at h
        · rename_i hc
          simp only [Option.some.injEq] at h; subst h
          have hg : ∀ i, i < n → ∃ y, xs[i]? = some y ∧ y.2 = [] ∧ FitsRow qs ((cs.drop (i * qs.length)).take qs.length) := by
            intro i hi
            have h1 := hel i hi
            have hi' : i < xs.length := by omega
            rw [List.getElem?_eq_getElem hi'] at h1
            have h2 := trod_flat d e qs m _ _ hf h1
            rw [hc.1] at h2
            exact ⟨_, List.getElem?_eq_getElem hi', h2⟩
          refine ⟨?_, fits_rows n cs (by rw [hl, hc.2]) (fun i hi => let ⟨_, _, _, h3⟩ := hg i hi; h3)⟩
          simp only [List.flatMap_eq_nil_iff]
          intro y hy
          obtain ⟨i, hi, he⟩ := List.mem_iff_getElem.1 hy
          obtain ⟨z, hz, hz2, _⟩ := hg i (by omega)
          rw [List.getElem?_eq_getElem hi, he] at hz
          simp only [Option.some.injEq] at hz
          rw [hz]; exact hz2
        · simp at h
    · rename_i fs hu
      obtain ⟨xs, m, rfl, rfl, hl, hn, hel⟩ := DataW.trod_struct hu hx
      cases hr : flatFields (P.flat d) P.cellsOf 0 fs.toList with
      | none => simp [hr] at h
      | some qs =>
        simp only [hr, Option.bind_some] at h
        split at h
        · rename_i hc
          simp only [Option.some.injEq] at h; subst h
          have h1 := trod_flatFields (cs := cs) (fun t ks cs x => trod_flat d t ks m cs x) fs.toList xs 0 qs hr (by simpa using hn) (fun i f hi => hel i f (by simpa using hi))
          refine ⟨h1.1, ?_⟩
          have h2 := h1.2
          rwa [List.drop_zero, List.take_of_length_le (by omega)] at h2
        · simp at h
    · simp at h
end

theorem okWide_arr {P : Program} {w : World} {r : Reach} {base : Nat} {t e : TypeId} {n : Nat} {v : Value} (hu : P.underlying t = some (.array n e)) (h : Value.okWide P w r base t v) : ∃ cs, v = .agg cs := by
  unfold Value.okWide at h
  rw [hu] at h
  obtain ⟨cs, hc, _⟩ := h
  exact ⟨cs, hc⟩
theorem okWide_str {P : Program} {w : World} {r : Reach} {base : Nat} {t : TypeId} {fs : Array Field} {v : Value} (hu : P.underlying t = some (.struct fs)) (h : Value.okWide P w r base t v) : ∃ cs, v = .agg cs := by
  unfold Value.okWide at h
  rw [hu] at h
  obtain ⟨cs, hc, _⟩ := h
  exact ⟨cs, hc⟩

theorem list_choose {α : Type} (d : α) {n : Nat} {p : Nat → α → Prop} (h : ∀ i, i < n → ∃ x, p i x) : ∃ xs : List α, xs.length = n ∧ ∀ i, i < n → p i (xs.getD i d) := by
  induction n with
  | zero => exact ⟨[], rfl, fun i hi => absurd hi (Nat.not_lt_zero _)⟩
  | succ n ih =>
    obtain ⟨xs, hl, hx⟩ := ih (fun i hi => h i (by omega))
    obtain ⟨y, hy⟩ := h n (by omega)
    refine ⟨xs ++ [y], by simp [hl], fun i hi => ?_⟩
    by_cases hlt : i < n
    · have := hx i hlt
      rw [List.getD_eq_getElem?_getD, List.getElem?_append_left (by omega), ← List.getD_eq_getElem?_getD]
      exact this
    · obtain rfl : i = n := by omega
      rw [List.getD_eq_getElem?_getD, List.getElem?_append_right (by omega), hl]
      simpa using hy

section
variable {H : Type} {enc : TypeId × Value → H} {P : Program} {w : World} {base : Nat} {spare : Nat → Bool} {held : Bool}
/-- A slice whose elements are of a flat type, opened. -/
theorem flatSlice_open {d fuel : Nat} {t e : TypeId} {ks : List TypeDesc} {cs : List Value} {x : DataW H × List MemPlace} (ht : P.underlying t = some (.slice e)) (hf : P.flat d e = some ks) (hn : 0 < ks.length)
    (hc : P.cellsOf e = ks.length) (h : DataW.trod enc P w base spare held fuel t cs = some x) :
    ∃ (a : Option Addr) (len cap : Nat), cs = [.slice a len cap] ∧ len ≤ cap ∧ cap ≤ maxLen ∧
      (0 < len → ∃ b off, a = some ⟨b, off, none⟩ ∧ b < w.heap.size ∧ ∀ i, i < len → ∃ row, w.cellsAt ⟨b, off + i * ks.length, none⟩ ks.length = some row ∧ FitsRow ks row) ∧ (a = none → cap = 0) := by
  rcases Go.Deep.open_slice ht h with ⟨rfl, _⟩ | ⟨a, len, cap, m, n, D, Pl, rfl, _, hl, hm, hmm, _, hel⟩
  · exact ⟨none, 0, 0, rfl, Nat.le_refl _, Nat.zero_le _, fun h => absurd h (Nat.lt_irrefl _), fun _ => rfl⟩
  · refine ⟨some a, len, cap, rfl, hl, hm, fun h0 => ?_, fun h => by cases h⟩
    have hlm : len ≤ m := by rw [hmm]; split <;> omega
    have hrow : ∀ i, i < len → ∃ row, w.cells? base (a.add (i * ks.length)) ks.length = some row ∧ FitsRow ks row := by
      intro i hi
      obtain ⟨row, h1, h2⟩ := hel i (by omega)
      rw [hc] at h1
      exact ⟨row, h1, (trod_flat d e ks n row _ hf h2).2⟩
    obtain ⟨row0, h1, _⟩ := hrow 0 h0
    have h2 := World.cells?_some h1
    have hsp : a.spot = none ∧ a.block < w.heap.size := by
      obtain ⟨_, h3, h4⟩ := h2
      have h5 := h4 0 hn
      simp only [Nat.zero_mul, Addr.add, if_true] at h5
      cases hcc : w.cell? a with
      | none =>
        rw [hcc] at h5
        have : row0[0]? = some (row0[0]'(by omega)) := List.getElem?_eq_getElem _
        rw [this] at h5; cases h5
      | some v => exact ⟨World.cell?_spot hcc, World.block_lt_of_cell? w a hcc⟩
    obtain ⟨b, off, sp⟩ := a
    obtain ⟨hs, hb⟩ := hsp
    simp only at hs; subst hs
    refine ⟨b, off, rfl, hb, fun i hi => ?_⟩
    obtain ⟨row, h3, h4⟩ := hrow i hi
    refine ⟨row, ?_, h4⟩
    obtain ⟨_, h5, h6⟩ := World.cells?_some h3
    refine World.cellsAt_of h5 (fun j hj => ?_)
    have h7 := h6 j hj
    rw [← h7]
    congr 1
    simp only [Addr.add]
    split <;> split <;> simp_all <;> omega
end

theorem World.cellsAt_append {w : World} {b : Nat} : ∀ {m k o : Nat} {u v : List Value}, w.cellsAt ⟨b, o, none⟩ m = some u → w.cellsAt ⟨b, o + m, none⟩ k = some v → w.cellsAt ⟨b, o, none⟩ (m + k) = some (u ++ v) := by
  intro m k o u v h1 h2
  obtain ⟨l1, c1⟩ := World.cellsAt_some h1
  obtain ⟨l2, c2⟩ := World.cellsAt_some h2
  refine World.cellsAt_of (by simp [l1, l2]) (fun i hi => ?_)
  by_cases him : i < m
  · rw [List.getElem?_append_left (by omega)]; exact c1 rfl i him
  · rw [List.getElem?_append_right (by omega), l1]
    have := c2 rfl (i - m) (by omega)
    rwa [show o + m + (i - m) = o + i by omega] at this
theorem cellsAt_flat {α : Type} {w : World} {b : Nat} (f : α → List Value) (n : Nat) (hf : ∀ x, (f x).length = n) : ∀ (xs : List α) (o : Nat), (∀ i (h : i < xs.length), w.cellsAt ⟨b, o + i * n, none⟩ n = some (f (xs[i]'h))) → w.cellsAt ⟨b, o, none⟩ (xs.flatMap f).length = some (xs.flatMap f)
  | [], _, _ => rfl
  | x :: xs, o, h => by
    rw [List.flatMap_cons, List.length_append, hf]
    refine World.cellsAt_append ?_ ?_
    · have := h 0 (by simp)
      simpa using this
    · refine cellsAt_flat f n hf xs (o + n) (fun i hi => ?_)
      have := h (i + 1) (by simpa using hi)
      rw [Nat.add_mul] at this
      rw [show o + n + i * n = o + (i * n + 1 * n) by omega]
      simpa using this
/-- A slice of rows that came in, its rows read as data. -/
theorem flat_choose {α : Type} {w : World} {a : Option Addr} {len : Nat} {ks : List TypeDesc} (d : α) (f : α → List Value) (hf : ∀ x, (f x).length = ks.length) (G : α → Prop) (hp : ∀ row, FitsRow ks row → ∃ x, row = f x ∧ G x)
    (h : 0 < len → ∃ b off, a = some ⟨b, off, none⟩ ∧ b < w.heap.size ∧ ∀ i, i < len → ∃ row, w.cellsAt ⟨b, off + i * ks.length, none⟩ ks.length = some row ∧ FitsRow ks row) :
    ∃ xs : List α, xs.length = len ∧ CellsIn w a (xs.flatMap f) ∧ ∀ x ∈ xs, G x := by
  by_cases h0 : 0 < len
  · obtain ⟨b, off, rfl, hb, hr⟩ := h h0
    obtain ⟨xs, hxl, hx⟩ := list_choose (α := α) d (n := len) (p := fun i c => w.cellsAt ⟨b, off + i * ks.length, none⟩ ks.length = some (f c) ∧ G c) (fun i hi => by
      obtain ⟨row, h1, h2⟩ := hr i hi
      obtain ⟨c, hc, hg⟩ := hp row h2
      exact ⟨c, by rw [← hc]; exact h1, hg⟩)
    refine ⟨xs, hxl, fun _ => ⟨b, off, rfl, cellsAt_flat f _ hf xs off (fun i hi => ?_)⟩, fun x hx' => ?_⟩
    · have := (hx i (by omega)).1
      simpa [List.getD, hi] using this
    · obtain ⟨i, hi, rfl⟩ := List.mem_iff_getElem.1 hx'
      have := (hx i (by omega)).2
      simpa [List.getD, hi] using this
  · exact ⟨[], by simp; omega, CellsIn.nil _ _, by simp⟩

/-- A slice that came in: where it leads, what it reads as, its capacity. -/
structure SliceIn (α : Type) where
  a : Option Addr
  xs : List α
  cap : Nat
end Go
