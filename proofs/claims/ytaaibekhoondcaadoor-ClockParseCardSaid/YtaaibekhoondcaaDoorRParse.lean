/- Walks: reading a clock, the document's. -/
import Derived.Test.YtaaibekhoondcaaDoorParse
namespace Go.Proofs.YtaaibekhoondcaaDoor
open Go.RowKit
set_option linter.unusedSimpArgs false
set_option linter.unusedVariables false

def RParsePost (w : World) (R : PS ⊕ Nat) (e : Ending) (w' : World) : Prop :=
  (∀ q, R = .inl q → e = .returned (.tuple #[.agg q.a.cells, .int .i64 ((q.n : Int) + 1), noV 0 none 0 0 none 0 0])) ∧
  (∀ i, R = .inr i → ∃ ar cp b, e = .returned (.tuple #[.agg (C8.mk 0 0 0 0 0 0 0 0).cells, .int .i64 0, noV 6 ar 1 cp b 1 1]) ∧ CellsIn w' ar (linkCells (parseErr i).chain) ∧ 1 ≤ cp ∧ cp ≤ 9223372036854775807 ∧ CellsIn w' b (nats [6]) ∧ (∀ q, ar = some q → w.heap.size ≤ q.block) ∧ (∀ q, b = some q → w.heap.size ≤ q.block))
theorem rpost_ok {w : World} {R : PS ⊕ Nat} {q : PS} {w' : World} (h : R = .inl q) : RParsePost w R (.returned (.tuple #[.agg q.a.cells, .int .i64 ((q.n : Int) + 1), noV 0 none 0 0 none 0 0])) w' :=
  ⟨fun q' h' => by rw [h] at h'; cases h'; rfl, fun i h' => by rw [h] at h'; cases h'⟩
theorem rpost_no {w : World} {R : PS ⊕ Nat} {i : Nat} {ar b : Option Addr} {cp : Nat} {w' : World} (h : R = .inr i) (h1 : CellsIn w' ar (linkCells [(⟨#[99, 108, 111, 99, 107]⟩, ⟨#[80, 97, 114, 115, 101]⟩, max (i : Int) (-1))])) (h2 : 1 ≤ cp) (h3 : cp ≤ 9223372036854775807) (h4 : CellsIn w' b (nats [6])) (h5 : ∀ q, ar = some q → w.heap.size ≤ q.block) (h6 : ∀ q, b = some q → w.heap.size ≤ q.block) :
    RParsePost w R (.returned (.tuple #[.agg (C8.mk 0 0 0 0 0 0 0 0).cells, .int .i64 0, noV 6 ar 1 cp b 1 1])) w' :=
  ⟨fun q' h' => (by rw [h] at h'; cases h'), fun j h' => by
    rw [h] at h'; cases h'
    have hch : (parseErr i).chain = [(⟨#[99, 108, 111, 99, 107]⟩, ⟨#[80, 97, 114, 115, 101]⟩, max (i : Int) (-1))] := by rw [parseErr, Err.chain, Err.chain]
    exact ⟨ar, cp, b, rfl, by rw [hch]; exact h1, h2, h3, h4, h5, h6⟩⟩
theorem World.size_drewN (w : World) (n : Nat) : (w.drewN n).heap.size = w.heap.size := rfl

set_option maxRecDepth 100000 in
set_option maxHeartbeats 8000000 in
theorem rparse_any (s : ByteArray) (w : World) (hs : s.size ≤ 9223372036854775807) :
    Calls Tryd.prog 47 #[.string s] w fun e w' => RParsePost w (PS.run PS.start s.data.toList 0) e w' ∧ Grew w w' := by
  have SC := Lib.hid (fun (i : Int) W => say_any ⟨#[99, 108, 111, 99, 107]⟩ ⟨#[80, 97, 114, 115, 101]⟩ i 6 (by omega) W)
  have h1 : ∀ (W : World) (o : Obj), (W.alloc o).heap.size = W.heap.size + 1 := fun W o => by simp [go_sem]
  generalize hR : PS.run PS.start s.data.toList 0 = R
  go_enter Tryd.func47, Tryd.ntmps47
  go_wp2_with fail
  go_loopw [6, 7, 8] (fun s6 s7 s8 wr => ∃ (a : C8) (pn pd i n : Nat), i ≤ s.size ∧ s6 = .int .i64 pn ∧ s7 = .int .i64 pd ∧ s8 = .int .i64 i ∧ PS.run ⟨a, pn, pd⟩ (s.data.toList.drop i) i = R ∧ pn < 8 ∧ pd ≤ i ∧ (∀ j, j < 8 → 0 ≤ a.get j ∧ a.get j ≤ 9223372036854775807) ∧ wr = (((w.alloc (.cells (C8.mk 0 0 0 0 0 0 0 0).cells 24)).alloc (.cells #[.int .i64 0, .slice none 0 0, .slice none 0 0] 53)).alloc (.cells a.cells 24)).drewN n) (fun _ _ i _ => s.size - (intOf i).toNat)
  case atStart => exact ⟨⟨0, 0, 0, 0, 0, 0, 0, 0⟩, 0, 0, 0, 0, by omega, rfl, rfl, rfl, hR, by omega, by omega, PS.good_start.lo, rfl⟩
  case round =>
    obtain ⟨a, pn, pd, i, n, hi, rfl, rfl, rfl, hrun, hn8, hpd, hlo, rfl⟩ := hrel
    have HR : Hid (∀ k W, Grew ((((w.alloc (.cells (C8.mk 0 0 0 0 0 0 0 0).cells 24)).alloc (.cells #[.int .i64 0, .slice none 0 0, .slice none 0 0] 53)).alloc (.cells a.cells 24)).drewN k) W →
        W.heap[w.heap.size]? = some (.cells (C8.mk 0 0 0 0 0 0 0 0).cells 24 (0, 0)) ∧ W.heap[w.heap.size + 1]? = some (.cells #[.int .i64 0, .slice none 0 0, .slice none 0 0] 53 (0, 0))) := fun k W hW =>
      ⟨Grew.heap hW (by show ((((w.alloc _).alloc _).alloc _)).heap[w.heap.size]? = _; rw [heap_alloc_past _ _ _ (by rw [h1, h1]; omega), heap_alloc_past _ _ _ (by rw [h1]; omega), heap_alloc_at _ _ _ rfl]), Grew.heap hW (by show ((((w.alloc _).alloc _).alloc _)).heap[w.heap.size + 1]? = _; rw [heap_alloc_past _ _ _ (by rw [h1, h1]; omega), heap_alloc_at _ _ _ (by rw [h1])])⟩
    have hca := a.cells_get pn hn8
    have hst := fun v => a.cells_set pn v hn8
    have HLO := Lib.hid hlo
    obtain ⟨hv0, hv1⟩ := hlo pn hn8
    clear hlo hR
    by_cases hlt : i < s.size
    · have hbs := bytes_get s i hlt
      rw [hbs] at hrun
      have hb256 : s[i].toNat < 256 := s[i].toNat_lt
      by_cases hdg : 48 ≤ s[i].toNat ∧ s[i].toNat ≤ 57
      · obtain ⟨e, hbe⟩ : ∃ e : Nat, s[i].toNat = 48 + e := ⟨s[i].toNat - 48, by omega⟩
        have he : e < 10 := by omega
        have HOV := Lib.hid (fun h => hrun.symm.trans (PS.run_over (a := a) (n := pn) (d := pd) (l := s.data.toList.drop (i + 1)) (i := i) hbe he h))
        have HDG := Lib.hid (fun h h' => (PS.run_digit (a := a) (n := pn) (d := pd) (l := s.data.toList.drop (i + 1)) (i := i) hbe he h h').symm.trans hrun)
        have hbi : (s[i].toNat : Int) = 48 + (e : Int) := by omega
        have h48 : (48 + (e : Int) - 48) = e := by omega
        clear hrun hbs hdg hbe
        go_wp2_with (go_at_call 59; refine (SC.out _ _).mono ?_; rintro e w4 ⟨ar, cp, b, rfl, hin, hn1, hm1, hinb, har, hbr, hg4⟩; obtain ⟨hbR, hbN⟩ := HR.out _ _ hg4; obtain ⟨z00, z01, z02⟩ := zero_facts hbR 0 (by decide); obtain ⟨z10, z11, z12⟩ := zero_facts hbR 1 (by decide); obtain ⟨z20, z21, z22⟩ := zero_facts hbR 2 (by decide); obtain ⟨z30, z31, z32⟩ := zero_facts hbR 3 (by decide); obtain ⟨z40, z41, z42⟩ := zero_facts hbR 4 (by decide); obtain ⟨z50, z51, z52⟩ := zero_facts hbR 5 (by decide); obtain ⟨z60, z61, z62⟩ := zero_facts hbR 6 (by decide); obtain ⟨z70, z71, z72⟩ := zero_facts hbR 7 (by decide); have q0 := World.own_cell hbN 0 _ rfl; have q1 := World.own_cell hbN 1 _ rfl; have q2 := World.own_cell hbN 2 _ rfl; obtain ⟨q00, q01⟩ := q0; obtain ⟨q10, q11⟩ := q1; obtain ⟨q20, q21⟩ := q2; have HBN := Lib.hid hbN; have HBR := Lib.hid hbR; have HG4 := Lib.hid hg4; have HIN := Lib.hid hin; have HIB := Lib.hid hinb; have HAR := Lib.hid har; have HBB := Lib.hid hbr; clear hbN hbR hg4 hin hinb har hbr)
        all_goals first
          | (go_roundw
             case rel => exact ⟨a.set pn (10 * a.get pn + e), pn, pd + 1, i + 1, n, by omega, rfl, by go_num, by go_num, HDG.out (by (try simp only [beq_iff_eq, beq_eq_false_iff_ne, ne_eq] at *); omega) (by omega), hn8, by omega, fun j hj => by rw [C8.get_set_eq _ _ _ _ hn8 hj]; (split; omega; exact HLO.out j hj), rfl⟩
             case measure => simp [intOf]; omega)
          | skip
        all_goals
          have k1 := World.own_setCell (i := 0) HBN.out (.int .i64 6)
          have k2 := World.own_setCell (i := 1) k1 (.slice ar 1 cp)
          have k3 := World.own_setCell (i := 2) k2 (.slice b 1 1)
          have f0 := (World.own_cell k3 0 (.int .i64 6) rfl).1
          have f1 := (World.own_cell k3 1 (.slice ar 1 cp) rfl).1
          have f2 := (World.own_cell k3 2 (.slice b 1 1) rfl).1
          have g4 : Grew w w4 := ((((Grew.refl w).alloc _).alloc _).alloc _).trans (((Grew.refl _).drewN _).trans HG4.out)
          have g5 : Grew w _ := ((g4.setCell (p := ⟨w.heap.size + 1, 0, none⟩) (by simp) (.int .i64 6)).setCell (p := ⟨w.heap.size + 1, 1, none⟩) (by simp) (.slice ar 1 cp)).setCell (p := ⟨w.heap.size + 1, 2, none⟩) (by simp) (.slice b 1 1)
          have hbl : ∀ q, q ≠ w.heap.size + 1 → (((w4.setCell ⟨w.heap.size + 1, 0, none⟩ (.int .i64 6)).setCell ⟨w.heap.size + 1, 1, none⟩ (.slice ar 1 cp)).setCell ⟨w.heap.size + 1, 2, none⟩ (.slice b 1 1)).heap[q]? = w4.heap[q]? := fun q hq => by
            rw [World.block_setCell _ _ _ _ hq, World.block_setCell _ _ _ _ hq, World.block_setCell _ _ _ _ hq]
          have z5 := hbl w.heap.size (by omega)
          have c5 := HIN.out.keepB (w' := ((w4.setCell ⟨w.heap.size + 1, 0, none⟩ (.int .i64 6)).setCell ⟨w.heap.size + 1, 1, none⟩ (.slice ar 1 cp)).setCell ⟨w.heap.size + 1, 2, none⟩ (.slice b 1 1)) (fun q hq _ => hbl _ (fun e => by have := HAR.out q hq; simp only [World.size_drewN, h1] at this; omega))
          have d5 := HIB.out.keepB (w' := ((w4.setCell ⟨w.heap.size + 1, 0, none⟩ (.int .i64 6)).setCell ⟨w.heap.size + 1, 1, none⟩ (.slice ar 1 cp)).setCell ⟨w.heap.size + 1, 2, none⟩ (.slice b 1 1)) (fun q hq _ => hbl _ (fun e => by have := HBB.out q hq; simp only [World.size_drewN, h1] at this; omega))
          rw [HBR.out] at z5
          clear k1 k2 k3 hbl z00 z01 z02 z10 z11 z12 z20 z21 z22 z30 z31 z32 z40 z41 z42 z50 z51 z52 z60 z61 z62 z70 z71 z72
          generalize ((w4.setCell ⟨w.heap.size + 1, 0, none⟩ (.int .i64 6)).setCell ⟨w.heap.size + 1, 1, none⟩ (.slice ar 1 cp)).setCell ⟨w.heap.size + 1, 2, none⟩ (.slice b 1 1) = w5 at *
          obtain ⟨y0, _, _⟩ := zero_facts z5 0 (by decide)
          obtain ⟨y1, _, _⟩ := zero_facts z5 1 (by decide)
          obtain ⟨y2, _, _⟩ := zero_facts z5 2 (by decide)
          obtain ⟨y3, _, _⟩ := zero_facts z5 3 (by decide)
          obtain ⟨y4, _, _⟩ := zero_facts z5 4 (by decide)
          obtain ⟨y5, _, _⟩ := zero_facts z5 5 (by decide)
          obtain ⟨y6, _, _⟩ := zero_facts z5 6 (by decide)
          obtain ⟨y7, _, _⟩ := zero_facts z5 7 (by decide)
          exact bodyPost_ret (v := .tuple #[.agg (C8.mk 0 0 0 0 0 0 0 0).cells, .int .i64 0, noV 6 ar 1 cp b 1 1]) (by simp [results, Tryd.results47, go_sem, f0, f1, f2, y0, y1, y2, y3, y4, y5, y6, y7]; try rfl) rfl ⟨rpost_no (i := i) (HOV.out (by (try simp only [beq_iff_eq, beq_eq_false_iff_ne, ne_eq] at *); omega)) c5 hn1 hm1 d5 (fun q hq => by have := HAR.out q hq; simp only [World.size_drewN, h1] at this; omega) (fun q hq => by have := HBB.out q hq; simp only [World.size_drewN, h1] at this; omega), g5⟩
      · have HOT := Lib.hid (fun h => hrun.symm.trans (PS.run_other (a := a) (n := pn) (d := pd) (l := s.data.toList.drop (i + 1)) (i := i) (by omega) h))
        have HDT := Lib.hid (fun h1 h2 h3 => (PS.run_dot (a := a) (n := pn) (d := pd) (l := s.data.toList.drop (i + 1)) (i := i) h1 h2 h3).symm.trans hrun)
        clear hrun hbs
        go_wp2_with (go_at_call 59; refine (SC.out _ _).mono ?_; rintro e w4 ⟨ar, cp, b, rfl, hin, hn1, hm1, hinb, har, hbr, hg4⟩; obtain ⟨hbR, hbN⟩ := HR.out _ _ hg4; obtain ⟨z00, z01, z02⟩ := zero_facts hbR 0 (by decide); obtain ⟨z10, z11, z12⟩ := zero_facts hbR 1 (by decide); obtain ⟨z20, z21, z22⟩ := zero_facts hbR 2 (by decide); obtain ⟨z30, z31, z32⟩ := zero_facts hbR 3 (by decide); obtain ⟨z40, z41, z42⟩ := zero_facts hbR 4 (by decide); obtain ⟨z50, z51, z52⟩ := zero_facts hbR 5 (by decide); obtain ⟨z60, z61, z62⟩ := zero_facts hbR 6 (by decide); obtain ⟨z70, z71, z72⟩ := zero_facts hbR 7 (by decide); have q0 := World.own_cell hbN 0 _ rfl; have q1 := World.own_cell hbN 1 _ rfl; have q2 := World.own_cell hbN 2 _ rfl; obtain ⟨q00, q01⟩ := q0; obtain ⟨q10, q11⟩ := q1; obtain ⟨q20, q21⟩ := q2; have HBN := Lib.hid hbN; have HBR := Lib.hid hbR; have HG4 := Lib.hid hg4; have HIN := Lib.hid hin; have HIB := Lib.hid hinb; have HAR := Lib.hid har; have HBB := Lib.hid hbr; clear hbN hbR hg4 hin hinb har hbr)
        all_goals first
          | (go_roundw
             case rel => exact ⟨a, pn + 1, 0, i + 1, n, by omega, by go_num, by go_num, by go_num, HDT.out (by omega) (by omega) (by omega), by omega, by omega, HLO.out, rfl⟩
             case measure => simp [intOf]; omega)
          | skip
        all_goals
          have k1 := World.own_setCell (i := 0) HBN.out (.int .i64 6)
          have k2 := World.own_setCell (i := 1) k1 (.slice ar 1 cp)
          have k3 := World.own_setCell (i := 2) k2 (.slice b 1 1)
          have f0 := (World.own_cell k3 0 (.int .i64 6) rfl).1
          have f1 := (World.own_cell k3 1 (.slice ar 1 cp) rfl).1
          have f2 := (World.own_cell k3 2 (.slice b 1 1) rfl).1
          have g4 : Grew w w4 := ((((Grew.refl w).alloc _).alloc _).alloc _).trans (((Grew.refl _).drewN _).trans HG4.out)
          have g5 : Grew w _ := ((g4.setCell (p := ⟨w.heap.size + 1, 0, none⟩) (by simp) (.int .i64 6)).setCell (p := ⟨w.heap.size + 1, 1, none⟩) (by simp) (.slice ar 1 cp)).setCell (p := ⟨w.heap.size + 1, 2, none⟩) (by simp) (.slice b 1 1)
          have hbl : ∀ q, q ≠ w.heap.size + 1 → (((w4.setCell ⟨w.heap.size + 1, 0, none⟩ (.int .i64 6)).setCell ⟨w.heap.size + 1, 1, none⟩ (.slice ar 1 cp)).setCell ⟨w.heap.size + 1, 2, none⟩ (.slice b 1 1)).heap[q]? = w4.heap[q]? := fun q hq => by
            rw [World.block_setCell _ _ _ _ hq, World.block_setCell _ _ _ _ hq, World.block_setCell _ _ _ _ hq]
          have z5 := hbl w.heap.size (by omega)
          have c5 := HIN.out.keepB (w' := ((w4.setCell ⟨w.heap.size + 1, 0, none⟩ (.int .i64 6)).setCell ⟨w.heap.size + 1, 1, none⟩ (.slice ar 1 cp)).setCell ⟨w.heap.size + 1, 2, none⟩ (.slice b 1 1)) (fun q hq _ => hbl _ (fun e => by have := HAR.out q hq; simp only [World.size_drewN, h1] at this; omega))
          have d5 := HIB.out.keepB (w' := ((w4.setCell ⟨w.heap.size + 1, 0, none⟩ (.int .i64 6)).setCell ⟨w.heap.size + 1, 1, none⟩ (.slice ar 1 cp)).setCell ⟨w.heap.size + 1, 2, none⟩ (.slice b 1 1)) (fun q hq _ => hbl _ (fun e => by have := HBB.out q hq; simp only [World.size_drewN, h1] at this; omega))
          rw [HBR.out] at z5
          clear k1 k2 k3 hbl z00 z01 z02 z10 z11 z12 z20 z21 z22 z30 z31 z32 z40 z41 z42 z50 z51 z52 z60 z61 z62 z70 z71 z72
          generalize ((w4.setCell ⟨w.heap.size + 1, 0, none⟩ (.int .i64 6)).setCell ⟨w.heap.size + 1, 1, none⟩ (.slice ar 1 cp)).setCell ⟨w.heap.size + 1, 2, none⟩ (.slice b 1 1) = w5 at *
          obtain ⟨y0, _, _⟩ := zero_facts z5 0 (by decide)
          obtain ⟨y1, _, _⟩ := zero_facts z5 1 (by decide)
          obtain ⟨y2, _, _⟩ := zero_facts z5 2 (by decide)
          obtain ⟨y3, _, _⟩ := zero_facts z5 3 (by decide)
          obtain ⟨y4, _, _⟩ := zero_facts z5 4 (by decide)
          obtain ⟨y5, _, _⟩ := zero_facts z5 5 (by decide)
          obtain ⟨y6, _, _⟩ := zero_facts z5 6 (by decide)
          obtain ⟨y7, _, _⟩ := zero_facts z5 7 (by decide)
          exact bodyPost_ret (v := .tuple #[.agg (C8.mk 0 0 0 0 0 0 0 0).cells, .int .i64 0, noV 6 ar 1 cp b 1 1]) (by simp [results, Tryd.results47, go_sem, f0, f1, f2, y0, y1, y2, y3, y4, y5, y6, y7]; try rfl) rfl ⟨rpost_no (i := i) (HOT.out (by omega)) c5 hn1 hm1 d5 (fun q hq => by have := HAR.out q hq; simp only [World.size_drewN, h1] at this; omega) (fun q hq => by have := HBB.out q hq; simp only [World.size_drewN, h1] at this; omega), g5⟩
    · obtain rfl : i = s.size := by omega
      have hdn : s.data.toList.drop s.size = [] := List.drop_of_length_le (by rw [Array.length_toList]; exact Nat.le_refl _)
      rw [hdn, PS.run_end] at hrun
      simp only at hrun
      have HRN := Lib.hid hrun
      clear hrun hdn
      go_wp2_with (go_at_call 59; refine (SC.out _ _).mono ?_; rintro e w4 ⟨ar, cp, b, rfl, hin, hn1, hm1, hinb, har, hbr, hg4⟩; obtain ⟨hbR, hbN⟩ := HR.out _ _ hg4; obtain ⟨z00, z01, z02⟩ := zero_facts hbR 0 (by decide); obtain ⟨z10, z11, z12⟩ := zero_facts hbR 1 (by decide); obtain ⟨z20, z21, z22⟩ := zero_facts hbR 2 (by decide); obtain ⟨z30, z31, z32⟩ := zero_facts hbR 3 (by decide); obtain ⟨z40, z41, z42⟩ := zero_facts hbR 4 (by decide); obtain ⟨z50, z51, z52⟩ := zero_facts hbR 5 (by decide); obtain ⟨z60, z61, z62⟩ := zero_facts hbR 6 (by decide); obtain ⟨z70, z71, z72⟩ := zero_facts hbR 7 (by decide); have q0 := World.own_cell hbN 0 _ rfl; have q1 := World.own_cell hbN 1 _ rfl; have q2 := World.own_cell hbN 2 _ rfl; obtain ⟨q00, q01⟩ := q0; obtain ⟨q10, q11⟩ := q1; obtain ⟨q20, q21⟩ := q2; have HBN := Lib.hid hbN; have HBR := Lib.hid hbR; have HG4 := Lib.hid hg4; have HIN := Lib.hid hin; have HIB := Lib.hid hinb; have HAR := Lib.hid har; have HBB := Lib.hid hbr; clear hbN hbR hg4 hin hinb har hbr)
      ·
        have k1 := World.own_setCell (i := 0) HBN.out (.int .i64 6)
        have k2 := World.own_setCell (i := 1) k1 (.slice ar 1 cp)
        have k3 := World.own_setCell (i := 2) k2 (.slice b 1 1)
        have f0 := (World.own_cell k3 0 (.int .i64 6) rfl).1
        have f1 := (World.own_cell k3 1 (.slice ar 1 cp) rfl).1
        have f2 := (World.own_cell k3 2 (.slice b 1 1) rfl).1
        have g4 : Grew w w4 := ((((Grew.refl w).alloc _).alloc _).alloc _).trans (((Grew.refl _).drewN _).trans HG4.out)
        have g5 : Grew w _ := ((g4.setCell (p := ⟨w.heap.size + 1, 0, none⟩) (by simp) (.int .i64 6)).setCell (p := ⟨w.heap.size + 1, 1, none⟩) (by simp) (.slice ar 1 cp)).setCell (p := ⟨w.heap.size + 1, 2, none⟩) (by simp) (.slice b 1 1)
        have hbl : ∀ q, q ≠ w.heap.size + 1 → (((w4.setCell ⟨w.heap.size + 1, 0, none⟩ (.int .i64 6)).setCell ⟨w.heap.size + 1, 1, none⟩ (.slice ar 1 cp)).setCell ⟨w.heap.size + 1, 2, none⟩ (.slice b 1 1)).heap[q]? = w4.heap[q]? := fun q hq => by
          rw [World.block_setCell _ _ _ _ hq, World.block_setCell _ _ _ _ hq, World.block_setCell _ _ _ _ hq]
        have z5 := hbl w.heap.size (by omega)
        have c5 := HIN.out.keepB (w' := ((w4.setCell ⟨w.heap.size + 1, 0, none⟩ (.int .i64 6)).setCell ⟨w.heap.size + 1, 1, none⟩ (.slice ar 1 cp)).setCell ⟨w.heap.size + 1, 2, none⟩ (.slice b 1 1)) (fun q hq _ => hbl _ (fun e => by have := HAR.out q hq; simp only [World.size_drewN, h1] at this; omega))
        have d5 := HIB.out.keepB (w' := ((w4.setCell ⟨w.heap.size + 1, 0, none⟩ (.int .i64 6)).setCell ⟨w.heap.size + 1, 1, none⟩ (.slice ar 1 cp)).setCell ⟨w.heap.size + 1, 2, none⟩ (.slice b 1 1)) (fun q hq _ => hbl _ (fun e => by have := HBB.out q hq; simp only [World.size_drewN, h1] at this; omega))
        rw [HBR.out] at z5
        clear k1 k2 k3 hbl z00 z01 z02 z10 z11 z12 z20 z21 z22 z30 z31 z32 z40 z41 z42 z50 z51 z52 z60 z61 z62 z70 z71 z72
        generalize ((w4.setCell ⟨w.heap.size + 1, 0, none⟩ (.int .i64 6)).setCell ⟨w.heap.size + 1, 1, none⟩ (.slice ar 1 cp)).setCell ⟨w.heap.size + 1, 2, none⟩ (.slice b 1 1) = w5 at *
        obtain ⟨y0, _, _⟩ := zero_facts z5 0 (by decide)
        obtain ⟨y1, _, _⟩ := zero_facts z5 1 (by decide)
        obtain ⟨y2, _, _⟩ := zero_facts z5 2 (by decide)
        obtain ⟨y3, _, _⟩ := zero_facts z5 3 (by decide)
        obtain ⟨y4, _, _⟩ := zero_facts z5 4 (by decide)
        obtain ⟨y5, _, _⟩ := zero_facts z5 5 (by decide)
        obtain ⟨y6, _, _⟩ := zero_facts z5 6 (by decide)
        obtain ⟨y7, _, _⟩ := zero_facts z5 7 (by decide)
        exact bodyPost_ret (v := .tuple #[.agg (C8.mk 0 0 0 0 0 0 0 0).cells, .int .i64 0, noV 6 ar 1 cp b 1 1]) (by simp [results, Tryd.results47, go_sem, f0, f1, f2, y0, y1, y2, y3, y4, y5, y6, y7]; try rfl) rfl ⟨rpost_no (i := s.size) (by rw [← HRN.out, if_pos (by simp only [beq_iff_eq] at *; omega)]) c5 hn1 hm1 d5 (fun q hq => by have := HAR.out q hq; simp only [World.size_drewN, h1] at this; omega) (fun q hq => by have := HBB.out q hq; simp only [World.size_drewN, h1] at this; omega), g5⟩
      · exact bodyPost_ret (v := .tuple #[.agg a.cells, .int .i64 ((pn : Int) + 1), noV 0 none 0 0 none 0 0]) (by simp [results, Tryd.results47, go_sem]; try rfl) rfl ⟨rpost_ok (q := ⟨a, pn, pd⟩) (by rw [← HRN.out, if_neg (by simp only [beq_eq_false_iff_ne, ne_eq] at *; omega)]), by repeat (first | with_reducible exact HG.out | with_reducible exact Grew.refl _ | with_reducible assumption | with_reducible apply Grew.plus | with_reducible apply Grew.drewN | with_reducible apply Grew.drew | with_reducible apply Grew.alloc | with_reducible refine Grew.setCell ?_ (by simp [go_sem]; try omega) _)⟩
end Go.Proofs.YtaaibekhoondcaaDoor
