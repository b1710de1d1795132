/- A new cluster in memory, the program's and the document's; what stands while a row of one's own grows. -/
import Derived.Test.YthekgpchjonboaaGreatDoorRepG
import Derived.Test.YthekgpchjonboaaGreatDoorRepE
namespace Go
open Go.RowKit
/-- All blocks stand but those of some element types. -/
def KeptBut (ts : List TypeId) (w w' : World) : Prop := ∀ (k : Nat) (o : Obj), w.heap[k]? = some o → (∀ t ∈ ts, ∀ c fr, o ≠ Obj.cells c t fr) → w'.heap[k]? = some o
theorem KeptBut.of_row {w w' : World} {base size n : Nat} {t : TypeId} {ts : List TypeId} {v : Value} {xs : List Value} (hts : t ∈ ts) (h : w.ownsRow base t size v n xs) (hk : ∀ k, k < w.heap.size → some k ≠ v.ownBlock → w'.heap[k]? = w.heap[k]?) : KeptBut ts w w' := by
  intro k o ho hn
  by_cases e : some k = v.ownBlock
  · exfalso
    rcases h.2 with ⟨rfl, _⟩ | ⟨g, cap, cur, rfl, _, hg, _⟩
    · cases e
    · cases e
      rw [hg] at ho
      exact hn t hts cur (0, 0) (Option.some.inj ho).symm
  · rw [hk k (Array.getElem?_eq_some_iff.1 ho).1 e]; exact ho
theorem KeptBut.of_grew {ts : List TypeId} {w w' : World} (h : Grew w w') : KeptBut ts w w' := fun k o ho _ => by rw [h.block k (Array.getElem?_eq_some_iff.1 ho).1]; exact ho
theorem KeptBut.of_set {ts : List TypeId} {w : World} {B i : Nat} {c : Array Value} {t : TypeId} {fr : Nat × Nat} (hts : t ∈ ts) (hb : w.heap[B]? = some (.cells c t fr)) (v : Value) : KeptBut ts w (w.setCell ⟨B, i, none⟩ v) := fun k o ho hn => by
  have e : k ≠ B := fun e => by subst e; rw [hb] at ho; exact hn t hts c fr (Option.some.inj ho).symm
  rw [World.block_setCell _ _ _ _ e]; exact ho
theorem KeptBut.trans {ts : List TypeId} {a b c : World} (h : KeptBut ts a b) (h2 : KeptBut ts b c) : KeptBut ts a c := fun k o ho hn => h2 k o (h k o ho hn) hn
theorem KeptBut.cells {ts : List TypeId} {w w' : World} (hk : KeptBut ts w w') {b : Nat} {c : Array Value} {t : TypeId} {fr : Nat × Nat} (h : w.heap[b]? = some (.cells c t fr)) (ht : t ∉ ts) : w'.heap[b]? = some (.cells c t fr) := hk _ _ h fun t' ht' c' fr' e => by
  injection e with _ e _
  subst e
  exact ht ht'
theorem KeptBut.map {ts : List TypeId} {w w' : World} (hk : KeptBut ts w w') {b : Nat} {es : Array MapEntry} {c : Nat} (h : w.heap[b]? = some (.map es c)) : w'.heap[b]? = some (.map es c) := hk _ _ h fun t' ht' c' fr' e => by cases e
end Go
namespace Go.Proofs.YthekgpchjonboaaGreatDoor
open Go.RowKit
set_option linter.unusedSimpArgs false
set_option linter.unusedVariables false
abbrev tPRep : TypeId := 54
abbrev tPDRep : TypeId := 60
abbrev tCl : TypeId := 53
abbrev tDCl : TypeId := 68
abbrev tBag : TypeId := 113
abbrev tDBag : TypeId := 111
theorem EModel.keptBut {ts : List TypeId} {w w' : World} {M T Bi : Nat} (h1 : tModel ∉ ts) (h2 : tTree ∉ ts) (h : EModel w M T Bi) (hk : KeptBut ts w w') : EModel w' M T Bi := by
  refine ⟨hk.cells h.m h1, hk.map h.i, ?_⟩
  have := h.t
  unfold ETree at this ⊢
  exact hk.cells this h2
abbrev tsE : List TypeId := [tPRep, tCl]
abbrev tsD : List TypeId := [tPDRep, tDCl, 33]
theorem ERep.keptBut {w w' : World} {R L M T Bi Bb I D S Bh : Nat} {c0 c1 c2 c3 s : Int} (h : ERep w R L M T Bi Bb I D S Bh c0 c1 c2 c3 s) (hk : KeptBut tsE w w') : ERep w' R L M T Bi Bb I D S Bh c0 c1 c2 c3 s :=
  ⟨hk.cells h.r (by decide), ⟨hk.cells h.l.l (by decide), hk.map h.l.b, h.l.m.keptBut (by decide) (by decide) hk⟩, hk.cells h.i (by decide), hk.map h.h, hk.cells h.d (by decide), hk.cells h.st (by decide)⟩
theorem DRep.keptBut {w w' : World} {Q G I D S : Nat} {c0 c1 c2 c3 s : Int} (h : DRep w Q G I D S c0 c1 c2 c3 s) (hk : KeptBut tsD w w') : DRep w' Q G I D S c0 c1 c2 c3 s :=
  ⟨hk.cells h.r (by decide), hk.cells h.g (by decide), hk.cells h.d (by decide), hk.cells h.st (by decide)⟩
/-- New replicas, numbered. -/
def EReps (w : World) (rs : List Nat) (c0 c1 c2 c3 : Int) : Prop   := ∀ (i R : Nat), rs[i]? = some R → ∃ L M T Bi Bb I D S Bh, ERep w R L M T Bi Bb I D S Bh c0 c1 c2 c3 (i : Int)
def DReps (w : World) (rs : List Nat) (c0 c1 c2 c3 : Int) : Prop := ∀ (i Q : Nat), rs[i]? = some Q → ∃ G I D S, DRep w Q G I D S c0 c1 c2 c3 (i : Int)
section
variable {w w' : World} {rs : List Nat} {c0 c1 c2 c3 : Int}
theorem EReps.nil : EReps w [] c0 c1 c2 c3 := fun i R h => by simp at h
theorem DReps.nil : DReps w [] c0 c1 c2 c3 := fun i R h => by simp at h
theorem EReps.grew (h : EReps w rs c0 c1 c2 c3) (hg : Grew w w') : EReps w' rs c0 c1 c2 c3 := fun i R hi => by
  obtain ⟨L, M, T, Bi, Bb, I, D, S, Bh, e⟩ := h i R hi
  exact ⟨L, M, T, Bi, Bb, I, D, S, Bh, e.grew hg⟩
theorem DReps.grew (h : DReps w rs c0 c1 c2 c3) (hg : Grew w w') : DReps w' rs c0 c1 c2 c3 := fun i R hi => by
  obtain ⟨G, I, D, S, e⟩ := h i R hi
  exact ⟨G, I, D, S, e.grew hg⟩
theorem EReps.keptBut (h : EReps w rs c0 c1 c2 c3) (hg : KeptBut tsE w w') : EReps w' rs c0 c1 c2 c3 := fun i R hi => by
  obtain ⟨L, M, T, Bi, Bb, I, D, S, Bh, e⟩ := h i R hi
  exact ⟨L, M, T, Bi, Bb, I, D, S, Bh, e.keptBut hg⟩
theorem DReps.keptBut (h : DReps w rs c0 c1 c2 c3) (hg : KeptBut tsD w w') : DReps w' rs c0 c1 c2 c3 := fun i R hi => by
  obtain ⟨G, I, D, S, e⟩ := h i R hi
  exact ⟨G, I, D, S, e.keptBut hg⟩
theorem EReps.push (h : EReps w rs c0 c1 c2 c3) {R L M T Bi Bb I D S Bh : Nat} (e : ERep w R L M T Bi Bb I D S Bh c0 c1 c2 c3 (rs.length : Int)) : EReps w (rs ++ [R]) c0 c1 c2 c3 := fun i R' hi => by
  rcases Nat.lt_or_ge i rs.length with hl | hl
  · rw [List.getElem?_append_left hl] at hi
    exact h i R' hi
  · rw [List.getElem?_append_right hl] at hi
    have h0 : i - rs.length = 0 := by
      rcases Nat.eq_zero_or_pos (i - rs.length) with h0 | h0
      · exact h0
      · rw [List.getElem?_eq_none (show 1 ≤ i - rs.length from h0)] at hi; cases hi
    rw [h0] at hi
    cases hi
    obtain rfl : i = rs.length := by omega
    exact ⟨L, M, T, Bi, Bb, I, D, S, Bh, e⟩
theorem DReps.push (h : DReps w rs c0 c1 c2 c3) {Q G I D S : Nat} (e : DRep w Q G I D S c0 c1 c2 c3 (rs.length : Int)) : DReps w (rs ++ [Q]) c0 c1 c2 c3 := fun i R' hi => by
  rcases Nat.lt_or_ge i rs.length with hl | hl
  · rw [List.getElem?_append_left hl] at hi
    exact h i R' hi
  · rw [List.getElem?_append_right hl] at hi
    have h0 : i - rs.length = 0 := by
      rcases Nat.eq_zero_or_pos (i - rs.length) with h0 | h0
      · exact h0
      · rw [List.getElem?_eq_none (show 1 ≤ i - rs.length from h0)] at hi; cases hi
    rw [h0] at hi
    cases hi
    obtain rfl : i = rs.length := by omega
    exact ⟨G, I, D, S, e⟩
end
def ptrs (rs : List Nat) : List Value := rs.map ptr
theorem ptrs_length (rs : List Nat) : (ptrs rs).length = rs.length := by simp [ptrs]
theorem ptrs_push (rs : List Nat) (R : Nat) : ptrs (rs ++ [R]) = ptrs rs ++ [ptr R] := by simp [ptrs]
theorem elPRep : Elem Tryz.prog 50 tPRep 1 8 := Elem.of Tryz.underlying50 (by kernel_rfl) (by decide)
theorem elPDRep : Elem Tryz.prog 64 tPDRep 1 8 := Elem.of Tryz.underlying64 (by kernel_rfl) (by decide)
/-- A new cluster. -/
structure ECl (w : World) (C B m : Nat) (a : Option Addr) (cap : Nat) (rs : List Nat) (c0 c1 c2 c3 : Int) : Prop where
  c : w.heap[C]? = some (.cells #[.slice a rs.length cap, ptr B, nilS, .map (some m)] tCl (0, 0))
  m : w.heap[m]? = some (.map #[] 0)
  b : w.heap[B]? = some (.cells #[.int .i64 4096, .int .i64 0, nilS, .int .i64 0, .int .i64 0, .int .i64 0, .int .i64 0] tBag (0, 0))
  row : CellsIn w a (ptrs rs)
  cap : rs.length ≤ cap ∧ cap ≤ 9223372036854775807
  len : (rs.length : Int) = c0
  reps : EReps w rs c0 c1 c2 c3
/-- The document's. -/
structure DCl (w : World) (C B : Nat) (a : Option Addr) (cap : Nat) (rs : List Nat) (c0 c1 c2 c3 : Int) : Prop where
  c : w.heap[C]? = some (.cells #[.int .i64 c0, .int .i64 c1, .int .i64 c2, .int .i64 c3, .slice a rs.length cap, ptr B, nilS, nilS] tDCl (0, 0))
  b : w.heap[B]? = some (.cells #[.int .i64 4096, .int .i64 1, nilS, .int .i64 0, .int .i64 0, .int .i64 0, .int .i64 0] tDBag (0, 0))
  row : CellsIn w a (ptrs rs)
  cap : rs.length ≤ cap ∧ cap ≤ 9223372036854775807
  len : (rs.length : Int) = c0
  reps : DReps w rs c0 c1 c2 c3
section
variable {w w' : World} {C B m cap : Nat} {a : Option Addr} {rs : List Nat} {c0 c1 c2 c3 : Int}
theorem ECl.grew (h : ECl w C B m a cap rs c0 c1 c2 c3) (hg : Grew w w') : ECl w' C B m a cap rs c0 c1 c2 c3 := ⟨Grew.heap hg h.c, Grew.heap hg h.m, Grew.heap hg h.b, h.row.grew hg, h.cap, h.len, h.reps.grew hg⟩
theorem DCl.grew (h : DCl w C B a cap rs c0 c1 c2 c3) (hg : Grew w w') : DCl w' C B a cap rs c0 c1 c2 c3 := ⟨Grew.heap hg h.c, Grew.heap hg h.b, h.row.grew hg, h.cap, h.len, h.reps.grew hg⟩
/-- The i-th one's place. -/
theorem ptrs_at {w : World} {a : Option Addr} {rs : List Nat} (h : CellsIn w a (ptrs rs)) (h0 : 0 < rs.length) : ∃ b off, a = some ⟨b, off, none⟩ ∧ b < w.heap.size ∧ ∀ (i R : Nat), rs[i]? = some R → w.cell? ⟨b, off + i, none⟩ = some (ptr R) := by
  obtain ⟨b, off, ha, hb, hc⟩ := h.at' (by rw [ptrs_length]; exact h0)
  refine ⟨b, off, ha, hb, fun i R hi => ?_⟩
  have hl : i < rs.length := (List.getElem?_eq_some_iff.1 hi).1
  rw [hc i (by rw [ptrs_length]; exact hl)]
  have : (ptrs rs)[i]'(by rw [ptrs_length]; exact hl) = ptr R := by
    simp only [ptrs, List.getElem_map]
    rw [(List.getElem?_eq_some_iff.1 hi).2]
  rw [this]
end
end Go.Proofs.YthekgpchjonboaaGreatDoor
