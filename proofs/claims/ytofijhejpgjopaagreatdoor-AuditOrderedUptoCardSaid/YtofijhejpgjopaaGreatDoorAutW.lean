/- The walk of the law AuditAuthors: who wrote what of any list of elements. -/
import Derived.Test.YtofijhejpgjopaaGreatDoorRunR
import Derived.Test.YtofijhejpgjopaaGreatDoorCauW
namespace Go
theorem joined_take_le {α : Type} (f : α → ByteArray) : ∀ (l : List α) (s : ByteArray), s.size ≤ (l.foldl (fun s x => s ++ f x) s).size
  | [], s => Nat.le_refl _
  | x :: l, s => by
    have := joined_take_le f l (s ++ f x)
    rw [ByteArray.size_append] at this
    rw [List.foldl_cons]; omega
end Go
namespace Go.Proofs.YtofijhejpgjopaaGreatDoor
open Go.RowKit
set_option linter.unusedSimpArgs false
set_option linter.unusedVariables false

theorem joined_take (l : List Link) (k : Nat) : (joined (l.take k)).size ≤ (joined l).size := by
  have : joined l = (l.drop k).foldl (fun s x => s ++ x.1) (joined (l.take k)) := by
    conv => lhs; rw [← List.take_append_drop k l]
    rw [joined, List.foldl_append]; rfl
  rw [this]
  exact joined_take_le (fun x : Link => x.1) _ _
theorem joined_size (l : List ElD) : (joined (runs l)).size ≤ 4 * l.length := by
  rw [(runs_ok l).all]
  have h3 := foldl_size_le (chars l) ByteArray.empty
  have h4 := chars_len l
  have h5 : (runesBytes (chars l)).size ≤ 0 + 4 * (chars l).length := h3
  omega
theorem clk29_same (x0 x1 x2 x3 x4 x5 x6 x7 : Int) (W : World) : (Op.equalIn 10000 29 (.agg #[.int .i64 x0, .int .i64 x1, .int .i64 x2, .int .i64 x3, .int .i64 x4, .int .i64 x5, .int .i64 x6, .int .i64 x7]) (.agg #[.int .i64 x0, .int .i64 x1, .int .i64 x2, .int .i64 x3, .int .i64 x4, .int .i64 x5, .int .i64 x6, .int .i64 x7])).run Tryz.prog W = .ok true W := by
  have h := run_equalIn_ints (P := Tryz.prog) W 9998 29 3 8 .i64 [x0, x1, x2, x3, x4, x5, x6, x7] [x0, x1, x2, x3, x4, x5, x6, x7] Tryz.underlying29 Tryz.underlying3 (by kernel_rfl) rfl rfl
  simpa using h
theorem cut_any (l : List ElD) (a : Option Addr) (cap : Nat) (w : World) (ha : CellsIn w a (l.flatMap elRow)) (hcap : l.length ≤ cap) (hm : cap ≤ 9223372036854775807) (hnil : a = none → l.length = 0 ∧ cap = 0) :
    ∃ l' : List ElD, l'.length ≤ 60 ∧ l'.length ≤ cap ∧ (a = none → l'.length = 0 ∧ cap = 0) ∧ CellsIn w a (l'.flatMap elRow) ∧ ∀ W, Calls Tryz.prog 12 #[.slice a l.length cap] W fun e w' => e = .returned (.slice a l'.length cap) ∧ Grew W w' := by
  by_cases h60 : l.length ≤ 60
  · refine ⟨l, h60, hcap, hnil, ha, fun W => ?_⟩
    clear ha hnil
    generalize l.length = n at *
    have hq : ¬ (60 : Int) < n := by omega
    go_enter Tryz.func12, Tryz.ntmps12
    go_wp2
    go_ret
    exact ⟨rfl, by repeat (first | with_reducible exact HG.out | with_reducible exact Grew.refl _ | with_reducible assumption | with_reducible apply Grew.plus | with_reducible apply Grew.drewN | with_reducible apply Grew.drew | with_reducible apply Grew.alloc | with_reducible refine Grew.setCell ?_ (by simp [go_sem]; try omega) _)⟩
  · have hx : (l.take 60).length = 60 := List.length_take_of_le (by omega)
    have ha' : CellsIn w a ((l.take 60).flatMap elRow) := by
      have := ha.take (60 * 5)
      rwa [flat_take elRow 5 elRow_len l 60 (by omega)] at this
    refine ⟨l.take 60, by omega, by omega, fun h => by have := hnil h; omega, ha', fun W => ?_⟩
    rw [hx]
    clear ha ha' hx hnil
    generalize l.length = n at *
    have hq : (60 : Int) < n := by omega
    go_enter Tryz.func12, Tryz.ntmps12
    go_wp2
    go_ret
    exact ⟨rfl, by repeat (first | with_reducible exact HG.out | with_reducible exact Grew.refl _ | with_reducible assumption | with_reducible apply Grew.plus | with_reducible apply Grew.drewN | with_reducible apply Grew.drew | with_reducible apply Grew.alloc | with_reducible refine Grew.setCell ?_ (by simp [go_sem]; try omega) _)⟩
theorem lend_els_n (n : Nat) (l : List ElD) (hn : l.length = n) (a : Option Addr) (cap : Nat) (w : World) (ha : CellsIn w a (l.flatMap elRow)) (hnil : a = none → n = 0 ∧ cap = 0) (hcap : n ≤ cap) (hm : cap ≤ 9223372036854775807) (hl : n ≤ 1000000) :
    Calls Tryz.prog 13 #[.slice a n cap] w fun e w' => ∃ g c, e = .returned (.slice (some ⟨g, 0, none⟩) n c) ∧ w'.ownsRow w.heap.size 71 5 (.slice (some ⟨g, 0, none⟩) (n + 4) c) (n + 4) ((l ++ elMarks 4).flatMap elRow) ∧ Grew w w' := by
  subst hn; exact lend_els l a cap w ha hnil hcap hm hl
theorem authors_n (n : Nat) (l : List ElD) (hn : l.length = n) (a : Option Addr) (cap : Nat) (w : World) (ha : CellsIn w a (l.flatMap elRow)) (hl : n ≤ 1000000) : Calls Tryz.prog 14 #[.slice a n cap] w fun e w' => e = .returned (.agg (authors l).cells) ∧ Grew w w' := by
  subst hn; exact authors_any l a cap w ha (by omega)
theorem rauthors_n (n : Nat) (l : List ElD) (hn : l.length = n) (a : Option Addr) (cap : Nat) (w : World) (ha : CellsIn w a (l.flatMap elRow)) (hl : n ≤ 1000000) : Calls Tryz.prog 17 #[.slice a n cap] w fun e w' => e = .returned (.agg (authors l).cells) ∧ Grew w w' := by
  subst hn; exact rauthors_any l a cap w ha (by omega)
theorem runs_n (n : Nat) (l : List ElD) (hn : l.length = n) (a : Option Addr) (cap : Nat) (w : World) (ha : CellsIn w a (l.flatMap elRow)) (hl : n ≤ 1000000) : Calls Tryz.prog 15 #[.slice a n cap] w fun e w' => ∃ v, e = .returned v ∧ w'.ownsRow w.heap.size 36 3 v (runs l).length (linkCells (runs l)) ∧ Grew w w' := by
  subst hn; exact runs_any l a cap w ha hl
theorem rruns_n (n : Nat) (l : List ElD) (hn : l.length = n) (a : Option Addr) (cap : Nat) (w : World) (ha : CellsIn w a (l.flatMap elRow)) (hl : n ≤ 1000000) (hgd : ∀ e ∈ l, Scr.good e.ch) : Calls Tryz.prog 19 #[.slice a n cap] w fun e w' => ∃ v, e = .returned v ∧ w'.ownsRow w.heap.size 36 3 v (runs l).length (linkCells (runs l)) ∧ Grew w w' := by
  subst hn; exact rruns_any l a cap w ha hl hgd
theorem view_n (n : Nat) (l : List ElD) (hn : l.length = n) (a : Option Addr) (cap : Nat) (w : World) (ha : CellsIn w a (l.flatMap elRow)) (hl : n ≤ 1000000) (hgd : ∀ e ∈ l, Scr.good e.ch) :
    Calls Tryz.prog 20 #[.slice a n cap] w fun e w' => e = .returned (.string (runesBytes (chars l))) ∧ Grew w w' := by
  subst hn; exact view_any l a cap w ha hl hgd
theorem links_n (r : Nat) (xs : List Link) (hr : xs.length = r) (a b : Option Addr) (ca cb : Nat) (w : World) (ha : CellsIn w a (linkCells xs)) (hb : CellsIn w b (linkCells xs)) (hca : r ≤ ca) (hcb : r ≤ cb) (hma : ca ≤ 9223372036854775807) (hmb : cb ≤ 9223372036854775807) :
    Calls Tryz.prog 18 #[.slice a r ca, .slice b r cb] w fun e w' => e = .returned (.bool true) ∧ Grew w w' := by
  subst hr; exact links_eq a b ca cb xs w ha hb hca hcb hma hmb
theorem intact_els_n (n : Nat) (l : List ElD) (hn : l.length = n) (g c base : Nat) (b : Option Addr) (cb : Nat) (w w0 : World) (hown : w.ownsRow base 71 5 (.slice (some ⟨g, 0, none⟩) (n + 4) c) (n + 4) ((l ++ elMarks 4).flatMap elRow)) (hb : CellsIn w b (l.flatMap elRow)) (hcb : n ≤ cb) (hmb : cb ≤ 9223372036854775807) (hl : n ≤ 1000000) (hg0 : Grew w0 w) (h0 : w0.heap.size ≤ base) :
    Calls Tryz.prog 16 #[.slice (some ⟨g, 0, none⟩) n c, .slice b n cb] w fun e w' => e = .returned (.bool true) ∧ Grew w0 w' ∧ w.heap.size ≤ w'.heap.size ∧ ∀ k, k < w.heap.size → k ≠ g → w'.heap[k]? = w.heap[k]? := by
  subst hn; exact intact_els g c base b cb l w w0 hown hb hcb hmb hl hg0 h0
theorem own_take_els {w : World} {g c n base : Nat} {l : List ElD} (hn : l.length = n) (ho : w.ownsRow base 71 5 (.slice (some ⟨g, 0, none⟩) (n + 4) c) (n + 4) ((l ++ elMarks 4).flatMap elRow)) : CellsIn w (some ⟨g, 0, none⟩) (l.flatMap elRow) := by
  have := ho.cin.take (n * 5)
  rw [List.flatMap_append, ← hn, ← flat_length elRow 5 elRow_len l, List.take_left] at this
  exact this
end Go.Proofs.YtofijhejpgjopaaGreatDoor
