/- Walks: Tick, the program's and the document's, refused or not. -/
import Derived.Test.YtaaibekhoondcaaDoorTick
import Derived.Test.YtaaibekhoondcaaDoorErrS
namespace Go.Proofs.YtaaibekhoondcaaDoor
open Go.RowKit
set_option linter.unusedSimpArgs false
set_option linter.unusedVariables false

/-- Is Tick refused? -/
def C8.noTick (a : C8) (r : Int) : Bool := !(C8.isIn r) || (a.get r.toNat == 9223372036854775807)
def tickErr (r : Int) : Err := .fault ⟨#[99, 108, 111, 99, 107]⟩ ⟨#[84, 105, 99, 107]⟩ (max r (-1)) (.reason 1)

set_option maxHeartbeats 1000000 in
theorem tick_no {S : Nat → Addr} (a : C8) (r : Int) (w : World) (hS : Sents S w) (hn : C8.noTick a r = true) :
    Calls Tryd.prog 19 #[.agg a.cells, .int .i64 r] w fun e w' => ∃ v, e = .returned (.tuple #[.agg (C8.mk 0 0 0 0 0 0 0 0).cells, v]) ∧ ErrAt S w' (tickErr r) v ∧ Grew w w' := by
  have hs1 : ∀ (o1 o2 : Obj) (gx : More), (((w.alloc o1).alloc o2).plus gx).cell? ⟨0, 0, none⟩ = some (errV (S 1)) := fun o1 o2 gx => (hS.grew ((((Grew.refl w).alloc o1).alloc o2).plus gx)).s1
  have key : ∀ (W : World), Grew w W → ErrAt S (W.alloc (.cells #[.string ⟨#[99, 108, 111, 99, 107]⟩, .string ⟨#[84, 105, 99, 107]⟩, .int .i64 (max r (-1)), errV (S 1)] 106)) (tickErr r) (faultV ⟨W.heap.size, 0, none⟩) := fun W _ => .fault (heap_alloc_new W _) (.reason 1 (by omega) (by omega))
  have KEY := Lib.hid key
  clear key
  by_cases hi : C8.isIn r = true
  · have hm : (a.get r.toNat == 9223372036854775807) = true := by simpa [C8.noTick, hi] using hn
    have hb : 0 ≤ r ∧ r < 8 := by simpa [C8.isIn] using hi
    have h0 := hb.1
    have h8 := hb.2
    have hc := a.cells_get r.toNat (by omega)
    rw [eq_of_beq hm] at hc
    go_enter Tryd.func19, Tryd.ntmps19
    go_wp2_with (first | (go_at_call 57; refine (in_any _ _).mono ?_; rintro e w' ⟨rfl, gx, rfl⟩) | (go_at_call 48; refine (new_any _ _ _ _ _ _).mono ?_; rintro e w' ⟨rfl, rfl⟩))
    refine bodyPost_ret (v := .tuple #[.agg (C8.mk 0 0 0 0 0 0 0 0).cells, faultV ⟨_, 0, none⟩]) (by simp [results, Tryd.results19, go_sem]; rfl) rfl ⟨_, rfl, KEY.out _ (by repeat (first | with_reducible exact HG.out | with_reducible exact Grew.refl _ | with_reducible assumption | with_reducible apply Grew.plus | with_reducible apply Grew.drewN | with_reducible apply Grew.drew | with_reducible apply Grew.alloc | with_reducible refine Grew.setCell ?_ (by simp [go_sem]; try omega) _)), by repeat (first | with_reducible exact HG.out | with_reducible exact Grew.refl _ | with_reducible assumption | with_reducible apply Grew.plus | with_reducible apply Grew.drewN | with_reducible apply Grew.drew | with_reducible apply Grew.alloc | with_reducible refine Grew.setCell ?_ (by simp [go_sem]; try omega) _)⟩
  · have hi' : C8.isIn r = false := by simpa using hi
    go_enter Tryd.func19, Tryd.ntmps19
    go_wp2_with (first | (go_at_call 57; refine (in_any _ _).mono ?_; rintro e w' ⟨rfl, gx, rfl⟩) | (go_at_call 48; refine (new_any _ _ _ _ _ _).mono ?_; rintro e w' ⟨rfl, rfl⟩))
    refine bodyPost_ret (v := .tuple #[.agg (C8.mk 0 0 0 0 0 0 0 0).cells, faultV ⟨_, 0, none⟩]) (by simp [results, Tryd.results19, go_sem]; rfl) rfl ⟨_, rfl, KEY.out _ (by repeat (first | with_reducible exact HG.out | with_reducible exact Grew.refl _ | with_reducible assumption | with_reducible apply Grew.plus | with_reducible apply Grew.drewN | with_reducible apply Grew.drew | with_reducible apply Grew.alloc | with_reducible refine Grew.setCell ?_ (by simp [go_sem]; try omega) _)), by repeat (first | with_reducible exact HG.out | with_reducible exact Grew.refl _ | with_reducible assumption | with_reducible apply Grew.plus | with_reducible apply Grew.drewN | with_reducible apply Grew.drew | with_reducible apply Grew.alloc | with_reducible refine Grew.setCell ?_ (by simp [go_sem]; try omega) _)⟩

set_option maxHeartbeats 1000000 in
theorem rtick_ok (a : C8) (r : Int) (w : World) (ha : a.Fits) (h0 : 0 ≤ r) (h8 : r < 8) (hm : (a.get r.toNat == 9223372036854775807) = false) :
    Calls Tryd.prog 36 #[.agg a.cells, .int .i64 r] w fun e w' => e = .returned (.tuple #[.agg (a.set r.toNat (a.get r.toNat + 1)).cells, noV 0 none 0 0 none 0 0]) ∧ Grew w w' := by
  have hc := a.cells_get r.toNat (by omega)
  have hst := fun v => a.cells_set r.toNat v (by omega)
  obtain ⟨hf1, hf2⟩ := ha r.toNat (by omega)
  have hlt : a.get r.toNat < 9223372036854775807 := by have := beq_eq_false_iff_ne.1 hm; omega
  go_enter Tryd.func36, Tryd.ntmps36
  go_wp2_with fail
  exact bodyPost_ret (v := .tuple #[.agg (a.set r.toNat (a.get r.toNat + 1)).cells, noV 0 none 0 0 none 0 0]) (by simp [results, Tryd.results36, go_sem]) rfl ⟨rfl, by repeat (first | with_reducible exact HG.out | with_reducible exact Grew.refl _ | with_reducible assumption | with_reducible apply Grew.plus | with_reducible apply Grew.drewN | with_reducible apply Grew.drew | with_reducible apply Grew.alloc | with_reducible refine Grew.setCell ?_ (by simp [go_sem]; try omega) _)⟩

theorem setCell_self {W : World} {R i : Nat} {c : Array Value} {t : TypeId} {u : Value} (h : W.heap[R]? = some (.cells c t (0, 0))) (hu : c[i]? = some u) : W.setCell ⟨R, i, none⟩ u = W := by
  have hlt := (Array.getElem?_eq_some_iff.1 h).1
  have hh : (W.setCell ⟨R, i, none⟩ u).heap = W.heap := by
    apply Array.ext_getElem?
    intro k
    by_cases hk : k = R
    · subst hk
      rw [World.own_setCell h, h]
      congr 2
      apply Array.ext_getElem?
      intro j
      rw [Array.getElem?_setIfInBounds]
      split
      · rename_i e; subst e; split
        · rw [hu]
        · rename_i hj; rw [Array.getElem?_eq_none (by omega)] at hu; cases hu
      · rfl
    · exact World.block_setCell _ _ _ _ hk
  calc W.setCell ⟨R, i, none⟩ u = { W with heap := (W.setCell ⟨R, i, none⟩ u).heap } := rfl
    _ = W := by rw [hh]
theorem zero_facts {W : World} {R : Nat} {t : TypeId} (h : W.heap[R]? = some (.cells (C8.mk 0 0 0 0 0 0 0 0).cells t (0, 0))) (i : Nat) (hi : i < 8) :
    W.cell? ⟨R, i, none⟩ = some (.int .i64 0) ∧ W.frozen? ⟨R, i, none⟩ = false ∧ W.setCell ⟨R, i, none⟩ (.int .i64 0) = W := by
  have hu : (C8.mk 0 0 0 0 0 0 0 0).cells[i]? = some (.int .i64 0) := by
    match i, hi with
    | 0, _ => rfl
    | 1, _ => rfl
    | 2, _ => rfl
    | 3, _ => rfl
    | 4, _ => rfl
    | 5, _ => rfl
    | 6, _ => rfl
    | 7, _ => rfl
  exact ⟨(World.own_cell h i _ hu).1, (World.own_cell h i _ hu).2, setCell_self h hu⟩

set_option maxRecDepth 100000 in
set_option maxHeartbeats 2000000 in
theorem rtick_no (a : C8) (r : Int) (w : World) (hn : C8.noTick a r = true) :
    Calls Tryd.prog 36 #[.agg a.cells, .int .i64 r] w fun e w' => ∃ ar cp b, e = .returned (.tuple #[.agg (C8.mk 0 0 0 0 0 0 0 0).cells, noV 1 ar 1 cp b 1 1]) ∧ CellsIn w' ar (linkCells (tickErr r).chain) ∧ 1 ≤ cp ∧ cp ≤ 9223372036854775807 ∧ CellsIn w' b (nats [1]) ∧ (∀ q, ar = some q → w.heap.size ≤ q.block) ∧ (∀ q, b = some q → w.heap.size ≤ q.block) ∧ Grew w w' := by
  have hch : (tickErr r).chain = [(⟨#[99, 108, 111, 99, 107]⟩, ⟨#[84, 105, 99, 107]⟩, max r (-1))] := by rw [tickErr, Err.chain, Err.chain]
  rw [hch]
  have SC := Lib.hid (fun W => say_any ⟨#[99, 108, 111, 99, 107]⟩ ⟨#[84, 105, 99, 107]⟩ r 1 (Nat.le_refl _) W)
  have h1 : ∀ (W : World) (o : Obj), (W.alloc o).heap.size = W.heap.size + 1 := fun W o => by simp [go_sem]
  have HR : Hid (∀ W, Grew (((w.alloc (.cells a.cells 24)).alloc (.cells (C8.mk 0 0 0 0 0 0 0 0).cells 24)).alloc (.cells #[.int .i64 0, .slice none 0 0, .slice none 0 0] 53)) W →
      W.heap[w.heap.size + 1]? = some (.cells (C8.mk 0 0 0 0 0 0 0 0).cells 24 (0, 0)) ∧ W.heap[w.heap.size + 1 + 1]? = some (.cells #[.int .i64 0, .slice none 0 0, .slice none 0 0] 53 (0, 0))) := fun W hW =>
    ⟨Grew.heap hW (by rw [heap_alloc_past _ _ _ (by rw [h1, h1]; omega), heap_alloc_at _ _ _ (by rw [h1])]), Grew.heap hW (heap_alloc_at _ _ _ (by rw [h1, h1]))⟩
  by_cases h0 : r < 0
  · go_enter Tryd.func36, Tryd.ntmps36
    go_wp2_with (go_at_call 59; refine (SC.out _).mono ?_; rintro e w4 ⟨ar, cp, b, rfl, hin, hn1, hm1, hinb, har, hbr, hg4⟩; obtain ⟨hbR, hbN⟩ := HR.out _ hg4; obtain ⟨z00, z01, z02⟩ := zero_facts hbR 0 (by decide); obtain ⟨z10, z11, z12⟩ := zero_facts hbR 1 (by decide); obtain ⟨z20, z21, z22⟩ := zero_facts hbR 2 (by decide); obtain ⟨z30, z31, z32⟩ := zero_facts hbR 3 (by decide); obtain ⟨z40, z41, z42⟩ := zero_facts hbR 4 (by decide); obtain ⟨z50, z51, z52⟩ := zero_facts hbR 5 (by decide); obtain ⟨z60, z61, z62⟩ := zero_facts hbR 6 (by decide); obtain ⟨z70, z71, z72⟩ := zero_facts hbR 7 (by decide); have q0 := World.own_cell hbN 0 _ rfl; have q1 := World.own_cell hbN 1 _ rfl; have q2 := World.own_cell hbN 2 _ rfl; obtain ⟨q00, q01⟩ := q0; obtain ⟨q10, q11⟩ := q1; obtain ⟨q20, q21⟩ := q2; have HBN := Lib.hid hbN; have HBR := Lib.hid hbR; have HG4 := Lib.hid hg4; have HIN := Lib.hid hin; have HIB := Lib.hid hinb; clear hbN hbR hg4 hin hinb)
    have k1 := World.own_setCell (i := 0) HBN.out (.int .i64 1)
    have k2 := World.own_setCell (i := 1) k1 (.slice ar 1 cp)
    have k3 := World.own_setCell (i := 2) k2 (.slice b 1 1)
    have f0 := (World.own_cell k3 0 (.int .i64 1) rfl).1
    have f1 := (World.own_cell k3 1 (.slice ar 1 cp) rfl).1
    have f2 := (World.own_cell k3 2 (.slice b 1 1) rfl).1
    have g5 : Grew w _ := (((((((Grew.refl w).alloc _).alloc _).alloc _).trans HG4.out).setCell (p := ⟨w.heap.size + 1 + 1, 0, none⟩) (by simp; omega) (.int .i64 1)).setCell (p := ⟨w.heap.size + 1 + 1, 1, none⟩) (by simp; omega) (.slice ar 1 cp)).setCell (p := ⟨w.heap.size + 1 + 1, 2, none⟩) (by simp; omega) (.slice b 1 1)
    have hbl : ∀ q, q ≠ w.heap.size + 1 + 1 → (((w4.setCell ⟨w.heap.size + 1 + 1, 0, none⟩ (.int .i64 1)).setCell ⟨w.heap.size + 1 + 1, 1, none⟩ (.slice ar 1 cp)).setCell ⟨w.heap.size + 1 + 1, 2, none⟩ (.slice b 1 1)).heap[q]? = w4.heap[q]? := fun q hq => by
      rw [World.block_setCell _ _ _ _ hq, World.block_setCell _ _ _ _ hq, World.block_setCell _ _ _ _ hq]
    have z5 := hbl (w.heap.size + 1) (by omega)
    have c5 := HIN.out.keepB (w' := ((w4.setCell ⟨w.heap.size + 1 + 1, 0, none⟩ (.int .i64 1)).setCell ⟨w.heap.size + 1 + 1, 1, none⟩ (.slice ar 1 cp)).setCell ⟨w.heap.size + 1 + 1, 2, none⟩ (.slice b 1 1)) (fun q hq _ => hbl _ (fun e => by have := har q hq; rw [h1, h1, h1] at this; omega))
    have d5 := HIB.out.keepB (w' := ((w4.setCell ⟨w.heap.size + 1 + 1, 0, none⟩ (.int .i64 1)).setCell ⟨w.heap.size + 1 + 1, 1, none⟩ (.slice ar 1 cp)).setCell ⟨w.heap.size + 1 + 1, 2, none⟩ (.slice b 1 1)) (fun q hq _ => hbl _ (fun e => by have := hbr q hq; rw [h1, h1, h1] at this; omega))
    rw [HBR.out] at z5
    clear k1 k2 k3 hbl z00 z01 z02 z10 z11 z12 z20 z21 z22 z30 z31 z32 z40 z41 z42 z50 z51 z52 z60 z61 z62 z70 z71 z72
    generalize ((w4.setCell ⟨w.heap.size + 1 + 1, 0, none⟩ (.int .i64 1)).setCell ⟨w.heap.size + 1 + 1, 1, none⟩ (.slice ar 1 cp)).setCell ⟨w.heap.size + 1 + 1, 2, none⟩ (.slice b 1 1) = w5 at *
    obtain ⟨y0, _, _⟩ := zero_facts z5 0 (by decide)
    obtain ⟨y1, _, _⟩ := zero_facts z5 1 (by decide)
    obtain ⟨y2, _, _⟩ := zero_facts z5 2 (by decide)
    obtain ⟨y3, _, _⟩ := zero_facts z5 3 (by decide)
    obtain ⟨y4, _, _⟩ := zero_facts z5 4 (by decide)
    obtain ⟨y5, _, _⟩ := zero_facts z5 5 (by decide)
    obtain ⟨y6, _, _⟩ := zero_facts z5 6 (by decide)
    obtain ⟨y7, _, _⟩ := zero_facts z5 7 (by decide)
    exact bodyPost_ret (v := .tuple #[.agg (C8.mk 0 0 0 0 0 0 0 0).cells, noV 1 ar 1 cp b 1 1]) (by simp [results, Tryd.results36, go_sem, f0, f1, f2, y0, y1, y2, y3, y4, y5, y6, y7]; try rfl) rfl ⟨ar, cp, b, rfl, c5, hn1, hm1, d5, fun q hq => by have := har q hq; rw [h1, h1, h1] at this; omega, fun q hq => by have := hbr q hq; rw [h1, h1, h1] at this; omega, g5⟩
  · by_cases h8 : r ≥ 8
    · go_enter Tryd.func36, Tryd.ntmps36
      go_wp2_with (go_at_call 59; refine (SC.out _).mono ?_; rintro e w4 ⟨ar, cp, b, rfl, hin, hn1, hm1, hinb, har, hbr, hg4⟩; obtain ⟨hbR, hbN⟩ := HR.out _ hg4; obtain ⟨z00, z01, z02⟩ := zero_facts hbR 0 (by decide); obtain ⟨z10, z11, z12⟩ := zero_facts hbR 1 (by decide); obtain ⟨z20, z21, z22⟩ := zero_facts hbR 2 (by decide); obtain ⟨z30, z31, z32⟩ := zero_facts hbR 3 (by decide); obtain ⟨z40, z41, z42⟩ := zero_facts hbR 4 (by decide); obtain ⟨z50, z51, z52⟩ := zero_facts hbR 5 (by decide); obtain ⟨z60, z61, z62⟩ := zero_facts hbR 6 (by decide); obtain ⟨z70, z71, z72⟩ := zero_facts hbR 7 (by decide); have q0 := World.own_cell hbN 0 _ rfl; have q1 := World.own_cell hbN 1 _ rfl; have q2 := World.own_cell hbN 2 _ rfl; obtain ⟨q00, q01⟩ := q0; obtain ⟨q10, q11⟩ := q1; obtain ⟨q20, q21⟩ := q2; have HBN := Lib.hid hbN; have HBR := Lib.hid hbR; have HG4 := Lib.hid hg4; have HIN := Lib.hid hin; have HIB := Lib.hid hinb; clear hbN hbR hg4 hin hinb)
      have k1 := World.own_setCell (i := 0) HBN.out (.int .i64 1)
      have k2 := World.own_setCell (i := 1) k1 (.slice ar 1 cp)
      have k3 := World.own_setCell (i := 2) k2 (.slice b 1 1)
      have f0 := (World.own_cell k3 0 (.int .i64 1) rfl).1
      have f1 := (World.own_cell k3 1 (.slice ar 1 cp) rfl).1
      have f2 := (World.own_cell k3 2 (.slice b 1 1) rfl).1
      have g5 : Grew w _ := (((((((Grew.refl w).alloc _).alloc _).alloc _).trans HG4.out).setCell (p := ⟨w.heap.size + 1 + 1, 0, none⟩) (by simp; omega) (.int .i64 1)).setCell (p := ⟨w.heap.size + 1 + 1, 1, none⟩) (by simp; omega) (.slice ar 1 cp)).setCell (p := ⟨w.heap.size + 1 + 1, 2, none⟩) (by simp; omega) (.slice b 1 1)
      have hbl : ∀ q, q ≠ w.heap.size + 1 + 1 → (((w4.setCell ⟨w.heap.size + 1 + 1, 0, none⟩ (.int .i64 1)).setCell ⟨w.heap.size + 1 + 1, 1, none⟩ (.slice ar 1 cp)).setCell ⟨w.heap.size + 1 + 1, 2, none⟩ (.slice b 1 1)).heap[q]? = w4.heap[q]? := fun q hq => by
        rw [World.block_setCell _ _ _ _ hq, World.block_setCell _ _ _ _ hq, World.block_setCell _ _ _ _ hq]
      have z5 := hbl (w.heap.size + 1) (by omega)
      have c5 := HIN.out.keepB (w' := ((w4.setCell ⟨w.heap.size + 1 + 1, 0, none⟩ (.int .i64 1)).setCell ⟨w.heap.size + 1 + 1, 1, none⟩ (.slice ar 1 cp)).setCell ⟨w.heap.size + 1 + 1, 2, none⟩ (.slice b 1 1)) (fun q hq _ => hbl _ (fun e => by have := har q hq; rw [h1, h1, h1] at this; omega))
      have d5 := HIB.out.keepB (w' := ((w4.setCell ⟨w.heap.size + 1 + 1, 0, none⟩ (.int .i64 1)).setCell ⟨w.heap.size + 1 + 1, 1, none⟩ (.slice ar 1 cp)).setCell ⟨w.heap.size + 1 + 1, 2, none⟩ (.slice b 1 1)) (fun q hq _ => hbl _ (fun e => by have := hbr q hq; rw [h1, h1, h1] at this; omega))
      rw [HBR.out] at z5
      clear k1 k2 k3 hbl z00 z01 z02 z10 z11 z12 z20 z21 z22 z30 z31 z32 z40 z41 z42 z50 z51 z52 z60 z61 z62 z70 z71 z72
      generalize ((w4.setCell ⟨w.heap.size + 1 + 1, 0, none⟩ (.int .i64 1)).setCell ⟨w.heap.size + 1 + 1, 1, none⟩ (.slice ar 1 cp)).setCell ⟨w.heap.size + 1 + 1, 2, none⟩ (.slice b 1 1) = w5 at *
      obtain ⟨y0, _, _⟩ := zero_facts z5 0 (by decide)
      obtain ⟨y1, _, _⟩ := zero_facts z5 1 (by decide)
      obtain ⟨y2, _, _⟩ := zero_facts z5 2 (by decide)
      obtain ⟨y3, _, _⟩ := zero_facts z5 3 (by decide)
      obtain ⟨y4, _, _⟩ := zero_facts z5 4 (by decide)
      obtain ⟨y5, _, _⟩ := zero_facts z5 5 (by decide)
      obtain ⟨y6, _, _⟩ := zero_facts z5 6 (by decide)
      obtain ⟨y7, _, _⟩ := zero_facts z5 7 (by decide)
      exact bodyPost_ret (v := .tuple #[.agg (C8.mk 0 0 0 0 0 0 0 0).cells, noV 1 ar 1 cp b 1 1]) (by simp [results, Tryd.results36, go_sem, f0, f1, f2, y0, y1, y2, y3, y4, y5, y6, y7]; try rfl) rfl ⟨ar, cp, b, rfl, c5, hn1, hm1, d5, fun q hq => by have := har q hq; rw [h1, h1, h1] at this; omega, fun q hq => by have := hbr q hq; rw [h1, h1, h1] at this; omega, g5⟩
    · have hm : a.get r.toNat = 9223372036854775807 := by
        simp [C8.noTick, C8.isIn] at hn
        omega
      have hc := a.cells_get r.toNat (by omega)
      rw [hm] at hc
      go_enter Tryd.func36, Tryd.ntmps36
      go_wp2_with (go_at_call 59; refine (SC.out _).mono ?_; rintro e w4 ⟨ar, cp, b, rfl, hin, hn1, hm1, hinb, har, hbr, hg4⟩; obtain ⟨hbR, hbN⟩ := HR.out _ hg4; obtain ⟨z00, z01, z02⟩ := zero_facts hbR 0 (by decide); obtain ⟨z10, z11, z12⟩ := zero_facts hbR 1 (by decide); obtain ⟨z20, z21, z22⟩ := zero_facts hbR 2 (by decide); obtain ⟨z30, z31, z32⟩ := zero_facts hbR 3 (by decide); obtain ⟨z40, z41, z42⟩ := zero_facts hbR 4 (by decide); obtain ⟨z50, z51, z52⟩ := zero_facts hbR 5 (by decide); obtain ⟨z60, z61, z62⟩ := zero_facts hbR 6 (by decide); obtain ⟨z70, z71, z72⟩ := zero_facts hbR 7 (by decide); have q0 := World.own_cell hbN 0 _ rfl; have q1 := World.own_cell hbN 1 _ rfl; have q2 := World.own_cell hbN 2 _ rfl; obtain ⟨q00, q01⟩ := q0; obtain ⟨q10, q11⟩ := q1; obtain ⟨q20, q21⟩ := q2; have HBN := Lib.hid hbN; have HBR := Lib.hid hbR; have HG4 := Lib.hid hg4; have HIN := Lib.hid hin; have HIB := Lib.hid hinb; clear hbN hbR hg4 hin hinb)
      have k1 := World.own_setCell (i := 0) HBN.out (.int .i64 1)
      have k2 := World.own_setCell (i := 1) k1 (.slice ar 1 cp)
      have k3 := World.own_setCell (i := 2) k2 (.slice b 1 1)
      have f0 := (World.own_cell k3 0 (.int .i64 1) rfl).1
      have f1 := (World.own_cell k3 1 (.slice ar 1 cp) rfl).1
      have f2 := (World.own_cell k3 2 (.slice b 1 1) rfl).1
      have g5 : Grew w _ := (((((((Grew.refl w).alloc _).alloc _).alloc _).trans HG4.out).setCell (p := ⟨w.heap.size + 1 + 1, 0, none⟩) (by simp; omega) (.int .i64 1)).setCell (p := ⟨w.heap.size + 1 + 1, 1, none⟩) (by simp; omega) (.slice ar 1 cp)).setCell (p := ⟨w.heap.size + 1 + 1, 2, none⟩) (by simp; omega) (.slice b 1 1)
      have hbl : ∀ q, q ≠ w.heap.size + 1 + 1 → (((w4.setCell ⟨w.heap.size + 1 + 1, 0, none⟩ (.int .i64 1)).setCell ⟨w.heap.size + 1 + 1, 1, none⟩ (.slice ar 1 cp)).setCell ⟨w.heap.size + 1 + 1, 2, none⟩ (.slice b 1 1)).heap[q]? = w4.heap[q]? := fun q hq => by
        rw [World.block_setCell _ _ _ _ hq, World.block_setCell _ _ _ _ hq, World.block_setCell _ _ _ _ hq]
      have z5 := hbl (w.heap.size + 1) (by omega)
      have c5 := HIN.out.keepB (w' := ((w4.setCell ⟨w.heap.size + 1 + 1, 0, none⟩ (.int .i64 1)).setCell ⟨w.heap.size + 1 + 1, 1, none⟩ (.slice ar 1 cp)).setCell ⟨w.heap.size + 1 + 1, 2, none⟩ (.slice b 1 1)) (fun q hq _ => hbl _ (fun e => by have := har q hq; rw [h1, h1, h1] at this; omega))
      have d5 := HIB.out.keepB (w' := ((w4.setCell ⟨w.heap.size + 1 + 1, 0, none⟩ (.int .i64 1)).setCell ⟨w.heap.size + 1 + 1, 1, none⟩ (.slice ar 1 cp)).setCell ⟨w.heap.size + 1 + 1, 2, none⟩ (.slice b 1 1)) (fun q hq _ => hbl _ (fun e => by have := hbr q hq; rw [h1, h1, h1] at this; omega))
      rw [HBR.out] at z5
      clear k1 k2 k3 hbl z00 z01 z02 z10 z11 z12 z20 z21 z22 z30 z31 z32 z40 z41 z42 z50 z51 z52 z60 z61 z62 z70 z71 z72
      generalize ((w4.setCell ⟨w.heap.size + 1 + 1, 0, none⟩ (.int .i64 1)).setCell ⟨w.heap.size + 1 + 1, 1, none⟩ (.slice ar 1 cp)).setCell ⟨w.heap.size + 1 + 1, 2, none⟩ (.slice b 1 1) = w5 at *
      obtain ⟨y0, _, _⟩ := zero_facts z5 0 (by decide)
      obtain ⟨y1, _, _⟩ := zero_facts z5 1 (by decide)
      obtain ⟨y2, _, _⟩ := zero_facts z5 2 (by decide)
      obtain ⟨y3, _, _⟩ := zero_facts z5 3 (by decide)
      obtain ⟨y4, _, _⟩ := zero_facts z5 4 (by decide)
      obtain ⟨y5, _, _⟩ := zero_facts z5 5 (by decide)
      obtain ⟨y6, _, _⟩ := zero_facts z5 6 (by decide)
      obtain ⟨y7, _, _⟩ := zero_facts z5 7 (by decide)
      exact bodyPost_ret (v := .tuple #[.agg (C8.mk 0 0 0 0 0 0 0 0).cells, noV 1 ar 1 cp b 1 1]) (by simp [results, Tryd.results36, go_sem, f0, f1, f2, y0, y1, y2, y3, y4, y5, y6, y7]; try rfl) rfl ⟨ar, cp, b, rfl, c5, hn1, hm1, d5, fun q hq => by have := har q hq; rw [h1, h1, h1] at this; omega, fun q hq => by have := hbr q hq; rw [h1, h1, h1] at this; omega, g5⟩
end Go.Proofs.YtaaibekhoondcaaDoor
