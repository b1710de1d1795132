/- Contracts for the law AuditOrdered, lengths as letters. -/
import Derived.Test.YtofijhejpgjopaaGreatDoorOrdQ
import Derived.Test.YtofijhejpgjopaaGreatDoorOrdS
import Derived.Test.YtofijhejpgjopaaGreatDoorAutW
namespace Go
theorem fp_mem : ∀ (l : List (IdD × Int)) (x y : IdD), fp l = some (x, y) → x ∈ l.map Prod.fst ∧ y ∈ l.map Prod.fst
  | [], x, y, h => by simp [fp] at h
  | u :: l, x, y, h => by
    unfold fp at h
    cases hf : l.find? (fun y => decide (y.2 < u.2)) with
    | some v =>
      rw [hf] at h
      simp only [Option.some.injEq, Prod.mk.injEq] at h
      obtain ⟨rfl, rfl⟩ := h
      exact ⟨by simp, by rw [List.map_cons]; exact List.mem_cons_of_mem _ (List.mem_map_of_mem (List.mem_of_find?_eq_some hf))⟩
    | none =>
      rw [hf] at h
      obtain ⟨h1, h2⟩ := fp_mem l x y h
      rw [List.map_cons]
      exact ⟨List.mem_cons_of_mem _ h1, List.mem_cons_of_mem _ h2⟩
theorem fpVal_fits {a b : List ElD} (ha : ∀ e ∈ a, e.Fits) : ∃ x0 x1 x2 y0 y1 y2 : Int, fpVal (fp (sh a b)) = .tuple #[.agg #[.int .i64 x0, .int .i64 x1, .int .i64 x2], .agg #[.int .i64 y0, .int .i64 y1, .int .i64 y2], .bool (fp (sh a b)).isSome] ∧ (IdD.mk x0 x1 x2).Fits ∧ (IdD.mk y0 y1 y2).Fits := by
  have hz : (IdD.mk 0 0 0).Fits := ⟨⟨by decide, by decide⟩, ⟨by decide, by decide⟩, ⟨by decide, by decide⟩⟩
  have hm : ∀ x, x ∈ (sh a b).map Prod.fst → x.Fits := fun x hx => by
    obtain ⟨e, he, rfl⟩ := (pf_isSome a x).1 ((mem_shIds a b x).1 hx).1
    exact (ha e he).id
  cases h : fp (sh a b) with
  | none => exact ⟨0, 0, 0, 0, 0, 0, rfl, hz, hz⟩
  | some xy =>
    obtain ⟨⟨x0, x1, x2⟩, ⟨y0, y1, y2⟩⟩ := xy
    obtain ⟨h1, h2⟩ := fp_mem _ _ _ h
    exact ⟨_, _, _, _, _, _, rfl, hm _ h1, hm _ h2⟩
end Go
namespace Go.Proofs.YtofijhejpgjopaaGreatDoor
open Go.RowKit Go.Maps
set_option linter.unusedSimpArgs false
set_option linter.unusedVariables false

theorem cut_fits (l : List ElD) (a : Option Addr) (cap : Nat) (w : World) (ha : CellsIn w a (l.flatMap elRow)) (hcap : l.length ≤ cap) (hm : cap ≤ 9223372036854775807) (hnil : a = none → l.length = 0 ∧ cap = 0) (hf : ∀ e ∈ l, e.Fits) :
    ∃ (n : Nat) (l' : List ElD), l'.length = n ∧ n ≤ 60 ∧ n ≤ cap ∧ (a = none → n = 0 ∧ cap = 0) ∧ CellsIn w a (l'.flatMap elRow) ∧ (∀ e ∈ l', e.Fits) ∧ ∀ W, Calls Tryz.prog 12 #[.slice a l.length cap] W fun e w' => e = .returned (.slice a n cap) ∧ Grew W w' := by
  by_cases h60 : l.length ≤ 60
  · refine ⟨l.length, l, rfl, h60, hcap, hnil, ha, hf, fun W => ?_⟩
    clear ha hnil hf
    generalize l.length = n at *
    have hq : ¬ (60 : Int) < n := by omega
    go_enter Tryz.func12, Tryz.ntmps12
    go_wp2
    go_ret
    exact ⟨rfl, by repeat (first | with_reducible exact HG.out | with_reducible exact Grew.refl _ | with_reducible assumption | with_reducible apply Grew.plus | with_reducible apply Grew.drewN | with_reducible apply Grew.drew | with_reducible apply Grew.alloc | with_reducible refine Grew.setCell ?_ (by simp [go_sem]; try omega) _)⟩
  · have hx : (l.take 60).length = 60 := List.length_take_of_le (by omega)
    have ha' : CellsIn w a ((l.take 60).flatMap elRow) := by
      have := ha.take (60 * 5)
      rwa [flat_take elRow 5 elRow_len l 60 (by omega)] at this
    refine ⟨60, l.take 60, hx, by omega, by omega, fun h => by have := hnil h; omega, ha', fun e he => hf e (List.mem_of_mem_take he), fun W => ?_⟩
    clear ha ha' hx hnil hf
    generalize l.length = n at *
    have hq : (60 : Int) < n := by omega
    go_enter Tryz.func12, Tryz.ntmps12
    go_wp2
    go_ret
    exact ⟨rfl, by repeat (first | with_reducible exact HG.out | with_reducible exact Grew.refl _ | with_reducible assumption | with_reducible apply Grew.plus | with_reducible apply Grew.drewN | with_reducible apply Grew.drew | with_reducible apply Grew.alloc | with_reducible refine Grew.setCell ?_ (by simp [go_sem]; try omega) _)⟩
theorem first_n (n m : Nat) (l r : List ElD) (hn : l.length = n) (hm : r.length = m) (a b : Option Addr) (ca cb : Nat) (w : World) (ha : CellsIn w a (l.flatMap elRow)) (hb : CellsIn w b (r.flatMap elRow)) (hf : ∀ e ∈ l, e.Fits) (hfm : ∀ e ∈ r, e.Fits) (h1 : n ≤ 60) (h2 : m ≤ 60) :
    Calls Tryz.prog 23 #[.slice a n ca, .slice b m cb] w fun e w' => e = .returned (fpVal (fp (sh l r))) ∧ Grew w w' := by
  subst hn hm; exact first_any l r a b ca cb w ha hb hf hfm (by omega) (by omega)
theorem rfirst_n (n m : Nat) (l r : List ElD) (hn : l.length = n) (hm : r.length = m) (a b : Option Addr) (ca cb : Nat) (w : World) (ha : CellsIn w a (l.flatMap elRow)) (hb : CellsIn w b (r.flatMap elRow)) (hf : ∀ e ∈ l, e.Fits) (hfm : ∀ e ∈ r, e.Fits) (h1 : n ≤ 60) (h2 : m ≤ 60) :
    Calls Tryz.prog 24 #[.slice a n ca, .slice b m cb] w fun e w' => e = .returned (fpVal (fp (sh l r))) ∧ Grew w w' := by
  subst hn hm; exact rfirst_any l r a b ca cb w ha hb hf hfm (by omega) (by omega)
theorem shared_n (n m : Nat) (l r : List ElD) (hn : l.length = n) (hm : r.length = m) (a b : Option Addr) (ca cb : Nat) (w : World) (ha : CellsIn w a (l.flatMap elRow)) (hb : CellsIn w b (r.flatMap elRow)) (hf : ∀ e ∈ l, e.Fits) (hfm : ∀ e ∈ r, e.Fits) (h1 : n ≤ 60) (h2 : m ≤ 60) :
    Calls Tryz.prog 25 #[.slice a n ca, .slice b m cb] w fun e w' => e = .returned (.int .i64 (sh l r).length) ∧ Grew w w' := by
  subst hn hm; exact shared_any l r a b ca cb w ha hb hf hfm (by omega) (by omega)
theorem rshared_n (n m : Nat) (l r : List ElD) (hn : l.length = n) (hm : r.length = m) (a b : Option Addr) (ca cb : Nat) (w : World) (ha : CellsIn w a (l.flatMap elRow)) (hb : CellsIn w b (r.flatMap elRow)) (hf : ∀ e ∈ l, e.Fits) (hfm : ∀ e ∈ r, e.Fits) (h1 : n ≤ 60) (h2 : m ≤ 60) :
    Calls Tryz.prog 26 #[.slice a n ca, .slice b m cb] w fun e w' => e = .returned (.int .i64 (sh l r).length) ∧ Grew w w' := by
  subst hn hm; exact rshared_any l r a b ca cb w ha hb hf hfm (by omega) (by omega)
theorem rtwice_n (n : Nat) (l : List ElD) (hn : l.length = n) (a : Option Addr) (ca : Nat) (w : World) (ha : CellsIn w a (l.flatMap elRow)) (hf : ∀ e ∈ l, e.Fits) (h1 : n ≤ 60) :
    Calls Tryz.prog 27 #[.slice a n ca] w fun e w' => e = .returned (.bool (!decide (nd l = l.length))) ∧ Grew w w' := by
  subst hn; exact rtwice_any l a ca w ha hf (by omega)
theorem cin_block {w : World} {B : Nat} {cs : Array Value} {t : TypeId} {fr : Nat × Nat} (h : w.heap[B]? = some (.cells cs t fr)) : CellsIn w (some ⟨B, 0, none⟩) cs.toList := fun _ => ⟨B, 0, rfl, by rw [World.cellsAt_block h cs.toList.length (by simp)]⟩
theorem ordered3 (n m p : Nat) (l r s : List ElD) (hn : l.length = n) (hm : r.length = m) (hp : s.length = p) (a b c : Option Addr) (ca cb cc K : Nat) (w : World) (ha : CellsIn w a (l.flatMap elRow)) (hb : CellsIn w b (r.flatMap elRow)) (hc : CellsIn w c (s.flatMap elRow)) (hf : ∀ e ∈ l, e.Fits) (hfm : ∀ e ∈ r, e.Fits) (hfs : ∀ e ∈ s, e.Fits) (h1 : n ≤ 60) (h2 : m ≤ 60) (h3 : p ≤ 60)
    (hk : w.heap[K]? = some (.cells #[.slice a n ca, .slice b m cb, .slice c p cc] 27 (0, 0))) :
    Calls Tryz.prog 21 #[.slice (some ⟨K, 0, none⟩) 3 3] w fun e w' => e = .returned (.bool (ordF [l, r, s])) ∧ Grew w w' := by
  subst hn hm hp
  exact ordered_any [⟨a, ca, l⟩, ⟨b, cb, r⟩, ⟨c, cc, s⟩] (some ⟨K, 0, none⟩) 3 w (cin_block hk) (fun t ht => by
    simp only [List.mem_cons, List.not_mem_nil, or_false] at ht
    rcases ht with rfl | rfl | rfl
    · exact ⟨ha, hf, by simp only; omega⟩
    · exact ⟨hb, hfm, by simp only; omega⟩
    · exact ⟨hc, hfs, by simp only; omega⟩) (by simp) (by simp) (by omega)
theorem rordered3 (n m p : Nat) (l r s : List ElD) (hn : l.length = n) (hm : r.length = m) (hp : s.length = p) (a b c : Option Addr) (ca cb cc K : Nat) (w : World) (ha : CellsIn w a (l.flatMap elRow)) (hb : CellsIn w b (r.flatMap elRow)) (hc : CellsIn w c (s.flatMap elRow)) (hf : ∀ e ∈ l, e.Fits) (hfm : ∀ e ∈ r, e.Fits) (hfs : ∀ e ∈ s, e.Fits) (h1 : n ≤ 60) (h2 : m ≤ 60) (h3 : p ≤ 60)
    (hk : w.heap[K]? = some (.cells #[.slice a n ca, .slice b m cb, .slice c p cc] 27 (0, 0))) :
    Calls Tryz.prog 22 #[.slice (some ⟨K, 0, none⟩) 3 3] w fun e w' => e = .returned (.bool (ordF [l, r, s])) ∧ Grew w w' := by
  subst hn hm hp
  exact rordered_any [⟨a, ca, l⟩, ⟨b, cb, r⟩, ⟨c, cc, s⟩] (some ⟨K, 0, none⟩) 3 w (cin_block hk) (fun t ht => by
    simp only [List.mem_cons, List.not_mem_nil, or_false] at ht
    rcases ht with rfl | rfl | rfl
    · exact ⟨ha, hf, by simp only; omega⟩
    · exact ⟨hb, hfm, by simp only; omega⟩
    · exact ⟨hc, hfs, by simp only; omega⟩) (by simp) (by simp) (by omega)
theorem ordered2 (n m : Nat) (l r : List ElD) (hn : l.length = n) (hm : r.length = m) (a b : Option Addr) (ca cb K : Nat) (w : World) (ha : CellsIn w a (l.flatMap elRow)) (hb : CellsIn w b (r.flatMap elRow)) (hf : ∀ e ∈ l, e.Fits) (hfm : ∀ e ∈ r, e.Fits) (h1 : n ≤ 60) (h2 : m ≤ 60)
    (hk : w.heap[K]? = some (.cells #[.slice a n ca, .slice b m cb] 27 (0, 0))) :
    Calls Tryz.prog 21 #[.slice (some ⟨K, 0, none⟩) 2 2] w fun e w' => e = .returned (.bool (ordF [l, r])) ∧ Grew w w' := by
  subst hn hm
  exact ordered_any [⟨a, ca, l⟩, ⟨b, cb, r⟩] (some ⟨K, 0, none⟩) 2 w (cin_block hk) (fun t ht => by
    simp only [List.mem_cons, List.not_mem_nil, or_false] at ht
    rcases ht with rfl | rfl
    · exact ⟨ha, hf, by simp only; omega⟩
    · exact ⟨hb, hfm, by simp only; omega⟩) (by simp) (by simp) (by omega)
theorem ordered0 (w : World) : Calls Tryz.prog 21 #[.slice none 0 0] w fun e w' => e = .returned (.bool true) ∧ Grew w w' :=
  ordered_any [] none 0 w (fun h => absurd rfl h) (fun t ht => by simp at ht) (by simp) (by simp) (by omega)
end Go.Proofs.YtofijhejpgjopaaGreatDoor
