/- Walks: audit.First. -/
import Derived.Test.YtofijhejpgjopaaGreatDoorOrdC
import Derived.Lib.MinMax
namespace Go
theorem pr_row (l : List (IdD × Int)) : l.flatMap (fun u => idRow u.1) = (l.map Prod.fst).flatMap idRow := by
  induction l with
  | nil => rfl
  | cons x l ih => simp [ih]
/-- The pair, by the places of IDs. -/
theorem find_ids (m : List ElD) (j : IdD × Int) (hj : pf m j.1 = some j.2) : ∀ (l : List (IdD × Int)), (∀ u ∈ l, pf m u.1 = some u.2) → ∀ y, l.find? (fun y => decide (y.2 < j.2)) = some y →
    ∃ (i : Nat) (h : i < l.length), (l.map Prod.fst).findIdx? (fun z => decide ((pf m z).getD 0 < (pf m j.1).getD 0)) = some i ∧ l[i] = y
  | [], _, y, hy => by simp at hy
  | u :: l, hl, y, hy => by
    have hu := hl u List.mem_cons_self
    have e : decide ((pf m u.1).getD 0 < (pf m j.1).getD 0) = decide (u.2 < j.2) := by rw [hu, hj]; rfl
    rw [List.find?_cons] at hy
    rw [List.map_cons, List.findIdx?_cons, e]
    cases hd : decide (u.2 < j.2) with
    | true =>
      rw [hd] at hy
      simp only [Option.some.injEq] at hy
      exact ⟨0, Nat.zero_lt_succ _, rfl, hy⟩
    | false =>
      rw [hd] at hy
      obtain ⟨i, h, h1, h2⟩ := find_ids m j hj l (fun v hv => hl v (List.mem_cons_of_mem _ hv)) y hy
      exact ⟨i + 1, Nat.succ_lt_succ h, by rw [h1]; rfl, h2⟩
theorem fpI_drop (l : List (IdD × Int)) (i : Nat) (h : i < l.length) : fpI (l.drop i) = if (l.drop (i + 1)).any (fun y => decide (y.2 < l[i].2)) then 0 else if fpI (l.drop (i + 1)) < 0 then -1 else fpI (l.drop (i + 1)) + 1 := by
  rw [List.drop_eq_getElem_cons h]; rfl
theorem leastF_drop (L : Int) (l : List (IdD × Int)) (i : Nat) (h : i < l.length) : leastF L (l.drop i) = min (leastF L (l.drop (i + 1))) l[i].2 := by
  rw [List.drop_eq_getElem_cons h]; rfl
theorem flat_drop {α : Type} (f : α → List Value) (n : Nat) (hf : ∀ x, (f x).length = n) : ∀ (l : List α) (k : Nat), (l.flatMap f).drop (k * n) = (l.drop k).flatMap f
  | l, 0 => by simp
  | [], k + 1 => by simp
  | x :: l, k + 1 => by
    rw [List.flatMap_cons, List.drop_succ_cons, ← flat_drop f n hf l k, Nat.add_mul, Nat.one_mul, Nat.add_comm, ← List.drop_drop, ← hf x, List.drop_left]
end Go
namespace Go.Proofs.YtofijhejpgjopaaGreatDoor
open Go.RowKit Go.Maps
set_option linter.unusedSimpArgs false
set_option linter.unusedVariables false

set_option maxRecDepth 100000 in
set_option maxHeartbeats 4000000 in
theorem first_any (l m : List ElD) (a b : Option Addr) (ca cb : Nat) (w : World) (ha : CellsIn w a (l.flatMap elRow)) (hb : CellsIn w b (m.flatMap elRow)) (hf : ∀ e ∈ l, e.Fits) (hfm : ∀ e ∈ m, e.Fits) (hl : l.length ≤ 1000000) (hm : m.length ≤ 1000000) :
    Calls Tryz.prog 23 #[.slice a l.length ca, .slice b m.length cb] w fun e w' => e = .returned (fpVal (fp (sh l m))) ∧ Grew w w' := by
  have HA := Lib.hid ha
  have HF := Lib.hid hf
  have HI := Lib.hid (fun W (hW : Grew w W) => places_any l a ca W (ha.grew hW) hf hl)
  have HJ := Lib.hid (fun W (hW : Grew w W) => places_any m b cb W (hb.grew hW) hfm hm)
  have hlen : (sh l m).length ≤ 1000000 := Nat.le_trans (shG_len m l []) hl
  have HS := Lib.hid (fun u (hu : u ∈ sh l m) => show u.1.Fits ∧ pf m u.1 = some u.2 by
    obtain ⟨x, p⟩ := u
    obtain ⟨h1, h2⟩ := (mem_sh l m x p).1 hu
    obtain ⟨e, he, rfl⟩ := (pf_isSome l x).1 h1
    exact ⟨(hf e he).id, h2⟩)
  clear ha hf hb hfm
  have h1a : ∀ (W : World) (o : Obj), (W.alloc o).heap.size = W.heap.size + 1 := fun W o => by simp [go_sem]
  go_enter Tryz.func23, Tryz.ntmps23
  go_wp2_with (first
    | (go_at_call 44; (first
        | ((with_reducible refine (HJ.out _ (by repeat (first | with_reducible exact HG.out | with_reducible exact Grew.refl _ | with_reducible assumption | with_reducible apply Grew.plus | with_reducible apply Grew.drewN | with_reducible apply Grew.drew | with_reducible apply Grew.alloc | with_reducible refine Grew.setCell ?_ (by simp [go_sem]; try omega) _))).mono ?_); rintro e w1 ⟨B1, rfl, hB1, hm1, hg1⟩; have HM1 := Lib.hid hm1; have HG0 := Lib.hid hg1; have HG1 := Lib.hid (Grew.trans (show Grew w _ from by repeat (first | with_reducible exact HG.out | with_reducible exact Grew.refl _ | with_reducible assumption | with_reducible apply Grew.plus | with_reducible apply Grew.drewN | with_reducible apply Grew.drew | with_reducible apply Grew.alloc | with_reducible refine Grew.setCell ?_ (by simp [go_sem]; try omega) _)) hg1); clear hg1 hm1)
        | ((with_reducible refine (HI.out _ (HG1.out.trans (by repeat (first | with_reducible exact HG.out | with_reducible exact Grew.refl _ | with_reducible assumption | with_reducible apply Grew.plus | with_reducible apply Grew.drewN | with_reducible apply Grew.drew | with_reducible apply Grew.alloc | with_reducible refine Grew.setCell ?_ (by simp [go_sem]; try omega) _)))).mono ?_); rintro e w2 ⟨B2, rfl, hB2, hm2, hg2⟩; have HM2 := Lib.hid hm2; have HG12 := Lib.hid hg2; clear hg2 hm2))))
  have HX2 := Lib.hid (Grew.heap HG12.out (show (w1.alloc (.cells #[.map (some B1)] 78)).heap[w.heap.size]? = some (.cells #[.int .i64 0, .int .i64 0, .int .i64 0] 43 (0, 0)) from by
    rw [heap_alloc_past _ _ _ (by have := HG0.out.size; simp only [h1a] at this; omega)]
    exact Grew.heap HG0.out (by rw [heap_alloc_past _ _ _ (by rw [h1a]; omega)]; exact heap_alloc_at _ _ _ rfl)))
  have HY2 := Lib.hid (Grew.heap HG12.out (show (w1.alloc (.cells #[.map (some B1)] 78)).heap[w.heap.size + 1]? = some (.cells #[.int .i64 0, .int .i64 0, .int .i64 0] 43 (0, 0)) from by
    rw [heap_alloc_past _ _ _ (by have := HG0.out.size; simp only [h1a] at this; omega)]
    exact Grew.heap HG0.out (heap_alloc_at _ _ _ (by rw [h1a]))))
  have HT2 := Lib.hid (Grew.heap HG12.out (show (w1.alloc (.cells #[.map (some B1)] 78)).heap[w1.heap.size]? = some (.cells #[.map (some B1)] 78 (0, 0)) from heap_alloc_at _ _ _ rfl))
  have HM12 := Lib.hid ((HM1.out.grew ((Grew.refl w1).alloc (.cells #[.map (some B1)] 78))).grew HG12.out)
  have HG2 := Lib.hid (HG1.out.trans (((Grew.refl w1).alloc (.cells #[.map (some B1)] 78)).trans HG12.out))
  have hTs : w1.heap.size < w2.heap.size := (Array.getElem?_eq_some_iff.1 HT2.out).1
  have hw1 : w.heap.size + 2 ≤ w1.heap.size := by have := HG0.out.size; simp only [h1a] at this; omega
  have hw2 := HG2.out.size
  clear hB1 hB2 HG0 HG12 HM1 HI HJ
  generalize hT : w1.heap.size = T at *
  clear hT
  go_loopw [11, 33] (fun s11 s33 wr => ∃ (k : Nat) (acc : List (IdD × Int)) (va : Option Addr) (vc : Nat), k ≤ l.length ∧ s33 = .int .i64 k ∧ s11 = .slice va acc.length vc ∧ acc ++ shG m (l.take k) (l.drop k) = sh l m ∧ wr.ownsRow w2.heap.size 43 3 s11 acc.length ((acc.map Prod.fst).flatMap idRow) ∧ Grew w2 wr) (fun _ s33 _ => l.length - (intOf s33).toNat)
  case atStart => exact ⟨0, [], none, 0, by omega, rfl, rfl, rfl, World.ownsRow_nil _ _ _ _, Grew.refl _⟩
  case round =>
    obtain ⟨k, acc, va, vc, hk, rfl, rfl, hacc, hown, hg⟩ := hrel
    have HO := Lib.hid hown
    have HG := Lib.hid hg
    have hnl : acc.length ≤ 1000000 := by have : (sh l m).length = acc.length + (shG m (l.take k) (l.drop k)).length := by rw [← hacc, List.length_append]
                                          omega
    clear hown
    by_cases hlt : k < l.length
    · obtain ⟨B, off, rfl, hbl, hrow⟩ := CellsIn.rowAt elRow 5 elRow_len (by omega) HA.out (by omega)
      have q := cellsAt_later (HG2.out.trans hg) (hrow k hlt) hbl
      have hfe := (HF.out l[k] (List.getElem_mem hlt)).id
      have c7 : wr.cell? ⟨T, 0, none⟩ = some (.map (some B1)) := (World.own_cell (Grew.heap hg HT2.out) 0 _ rfl).1
      have hTr : T < wr.heap.size := Nat.lt_of_lt_of_le hTs hg.size
      have hBr : B < wr.heap.size := Nat.lt_of_lt_of_le (Nat.lt_of_lt_of_le hbl hw2) hg.size
      cases hpm : pf m l[k].id with
      | none =>
        rw [shG_out m l k hlt hpm] at hacc
        have k1 := fun W (hW : Grew w2 W) => (HM12.out.grew hW).look_ok l[k].id hfe
        rw [hpm] at k1
        have HACC := Lib.hid hacc
        clear hacc hg hrow hpm hfe
        generalize l[k] = x at *
        obtain ⟨e0, e1, e2, ch, hd⟩ := x
        simp only [elRow] at q
        simp only [ElD.id, Option.getD_none, Option.isSome_none] at k1
        have k7 := k1 (wr.alloc (.cells #[.int .i64 e0, .int .i64 e1, .int .i64 e2, .int .i32 ch, .int .i64 hd] 71)) (HG.out.trans (by repeat (first | with_reducible exact HG.out | with_reducible exact Grew.refl _ | with_reducible assumption | with_reducible apply Grew.plus | with_reducible apply Grew.drewN | with_reducible apply Grew.drew | with_reducible apply Grew.alloc | with_reducible refine Grew.setCell ?_ (by simp [go_sem]; try omega) _)))
        clear k1
        go_wp2_with fail
        go_roundw
        case rel => exact ⟨k + 1, acc, va, vc, by omega, by go_num, rfl, HACC.out, HO.out.grew (by repeat (first | with_reducible exact HG.out | with_reducible exact Grew.refl _ | with_reducible assumption | with_reducible apply Grew.plus | with_reducible apply Grew.drewN | with_reducible apply Grew.drew | with_reducible apply Grew.alloc | with_reducible refine Grew.setCell ?_ (by simp [go_sem]; try omega) _)), HG.out.trans (by repeat (first | with_reducible exact HG.out | with_reducible exact Grew.refl _ | with_reducible assumption | with_reducible apply Grew.plus | with_reducible apply Grew.drewN | with_reducible apply Grew.drew | with_reducible apply Grew.alloc | with_reducible refine Grew.setCell ?_ (by simp [go_sem]; try omega) _))⟩
        case measure => simp [intOf]; omega
      | some p =>
        have k1 := fun W (hW : Grew w2 W) => (HM12.out.grew hW).look_ok l[k].id hfe
        have k2 := fun W (hW : Grew w2 W) => (HM2.out.grew hW).look l[k].id hfe
        rw [hpm] at k1
        cases hp : pf (l.take k) l[k].id with
        | some r =>
          have ho := pf_old k hlt hp
          rw [ho.1] at k2
          rw [shG_old m l k hlt hp] at hacc
          have HACC := Lib.hid hacc
          have g1 : (r == (k : Int)) = false := by rw [beq_eq_false_iff_ne]; omega
          clear hacc hg hrow hpm hfe ho hp
          generalize l[k] = x at *
          obtain ⟨e0, e1, e2, ch, hd⟩ := x
          simp only [elRow] at q
          simp only [ElD.id, Option.getD_some, Option.isSome_some] at k1 k2
          have k7 := k1 (wr.alloc (.cells #[.int .i64 e0, .int .i64 e1, .int .i64 e2, .int .i32 ch, .int .i64 hd] 71)) (HG.out.trans (by repeat (first | with_reducible exact HG.out | with_reducible exact Grew.refl _ | with_reducible assumption | with_reducible apply Grew.plus | with_reducible apply Grew.drewN | with_reducible apply Grew.drew | with_reducible apply Grew.alloc | with_reducible refine Grew.setCell ?_ (by simp [go_sem]; try omega) _)))
          have k8 := k2 (wr.alloc (.cells #[.int .i64 e0, .int .i64 e1, .int .i64 e2, .int .i32 ch, .int .i64 hd] 71)) (HG.out.trans (by repeat (first | with_reducible exact HG.out | with_reducible exact Grew.refl _ | with_reducible assumption | with_reducible apply Grew.plus | with_reducible apply Grew.drewN | with_reducible apply Grew.drew | with_reducible apply Grew.alloc | with_reducible refine Grew.setCell ?_ (by simp [go_sem]; try omega) _)))
          clear k1 k2
          go_wp2_with fail
          go_roundw
          case rel => exact ⟨k + 1, acc, va, vc, by omega, by go_num, rfl, HACC.out, HO.out.grew (by repeat (first | with_reducible exact HG.out | with_reducible exact Grew.refl _ | with_reducible assumption | with_reducible apply Grew.plus | with_reducible apply Grew.drewN | with_reducible apply Grew.drew | with_reducible apply Grew.alloc | with_reducible refine Grew.setCell ?_ (by simp [go_sem]; try omega) _)), HG.out.trans (by repeat (first | with_reducible exact HG.out | with_reducible exact Grew.refl _ | with_reducible assumption | with_reducible apply Grew.plus | with_reducible apply Grew.drewN | with_reducible apply Grew.drew | with_reducible apply Grew.alloc | with_reducible refine Grew.setCell ?_ (by simp [go_sem]; try omega) _))⟩
          case measure => simp [intOf]; omega
        | none =>
          rw [pf_new k hlt hp] at k2
          rw [shG_new m l k hlt hp hpm] at hacc
          have HACC := Lib.hid (show (acc ++ [(l[k].id, p)]) ++ shG m (l.take (k + 1)) (l.drop (k + 1)) = sh l m by rw [← hacc]; simp)
          clear hacc hg hrow hpm hfe hp
          generalize l[k] = x at *
          obtain ⟨e0, e1, e2, ch, hd⟩ := x
          simp only [elRow] at q
          simp only [ElD.id, Option.getD_some, Option.isSome_some] at k1 k2 HACC
          have k7 := k1 (wr.alloc (.cells #[.int .i64 e0, .int .i64 e1, .int .i64 e2, .int .i32 ch, .int .i64 hd] 71)) (HG.out.trans (by repeat (first | with_reducible exact HG.out | with_reducible exact Grew.refl _ | with_reducible assumption | with_reducible apply Grew.plus | with_reducible apply Grew.drewN | with_reducible apply Grew.drew | with_reducible apply Grew.alloc | with_reducible refine Grew.setCell ?_ (by simp [go_sem]; try omega) _)))
          have k8 := k2 (wr.alloc (.cells #[.int .i64 e0, .int .i64 e1, .int .i64 e2, .int .i32 ch, .int .i64 hd] 71)) (HG.out.trans (by repeat (first | with_reducible exact HG.out | with_reducible exact Grew.refl _ | with_reducible assumption | with_reducible apply Grew.plus | with_reducible apply Grew.drewN | with_reducible apply Grew.drew | with_reducible apply Grew.alloc | with_reducible refine Grew.setCell ?_ (by simp [go_sem]; try omega) _)))
          clear k1 k2
          have hxs := Lib.hid (show ((acc ++ [((⟨e0, e1, e2⟩ : IdD), p)]).map Prod.fst).flatMap idRow = (acc.map Prod.fst).flatMap idRow ++ [.int .i64 e0, .int .i64 e1, .int .i64 e2] by simp [idRow])
          have hln := Lib.hid (show (acc ++ [((⟨e0, e1, e2⟩ : IdD), p)]).length = acc.length + 1 by simp)
          generalize hn : acc.length = n at *
          have HN := Lib.hid hn
          clear hn
          go_wp2_with (at_builtin; go_loud (refine wpList_app (by rfl) _ _ 81 (by rfl) idEl w2.heap.size _ n ((acc.map Prod.fst).flatMap idRow) (by rfl) (HO.out.grew (by exact by repeat (first | with_reducible exact HG.out | with_reducible exact Grew.refl _ | with_reducible assumption | with_reducible apply Grew.plus | with_reducible apply Grew.drewN | with_reducible apply Grew.drew | with_reducible apply Grew.alloc | with_reducible refine Grew.setCell ?_ (by simp [go_sem]; try omega) _))) _ 1 1 #[.int .i64 e0, .int .i64 e1, .int .i64 e2] 43 (by rfl) (by exact heap_alloc_at _ _ _ (by first | rfl | (simp [go_sem]; done))) (by rfl) (by intro u hu; simp at hu; rcases hu with rfl | rfl | rfl <;> rfl) (by omega) (by omega) (by unfold maxLen; omega) w2 (HG.out.trans (by exact by repeat (first | with_reducible exact HG.out | with_reducible exact Grew.refl _ | with_reducible assumption | with_reducible apply Grew.plus | with_reducible apply Grew.drewN | with_reducible apply Grew.drew | with_reducible apply Grew.alloc | with_reducible refine Grew.setCell ?_ (by simp [go_sem]; try omega) _))) (Nat.le_refl _) (by have := HG.out.size; simp [go_sem]; omega) ?_); intro g c3 w3 hg3 hown3 hkeep3 hsz3 hat3; have HO3 := Lib.hid hown3; have HG3 := Lib.hid hg3; clear hown3 hg3 hkeep3 hat3)
          go_roundw
          case measure => simp [intOf]; omega
          case rel => exact ⟨k + 1, acc ++ [((⟨e0, e1, e2⟩ : IdD), p)], some ⟨g, 0, none⟩, c3, by omega, by go_num, by rw [hln.out], HACC.out, by rw [hxs.out, hln.out]; exact HO3.out, HG3.out⟩
    · obtain rfl : k = l.length := by omega
      rw [List.drop_length] at hacc
      simp only [shG, List.append_nil] at hacc
      subst hacc
      have hw3 := hg.size
      have HX3 := Lib.hid (Grew.heap hg HX2.out)
      have HY3 := Lib.hid (Grew.heap hg HY2.out)
      have HT3 := Lib.hid (Grew.heap hg HT2.out)
      have HM13 := Lib.hid (HM12.out.grew hg)
      have HG3 := Lib.hid (HG2.out.trans hg)
      have hrowS := fun h : 0 < ((sh l m).map Prod.fst).length => CellsIn.rowAt idRow 3 idRow_len (by omega) HO.out.cin h
      clear hg HM12 HX2 HY2 HT2 HM2 HG HG2 HG1
      generalize hSM : sh l m = S at *
      have HSM := Lib.hid hSM
      clear hSM
      have hnid : (S.map Prod.fst).length = S.length := List.length_map _
      generalize hn : S.length = n at *
      have HN := Lib.hid hn
      have HRS := Lib.hid hrowS
      obtain ⟨hcv, hcv2⟩ := HO.out.caps
      clear hrowS
      go_wp2_with fail
      obtain ⟨w3, he3⟩ : ∃ w3 : World, w3 = wr := ⟨_, rfl⟩
      subst he3
      go_loopw [16, 17, 18] (fun s16 s17 s18 wr => ∃ (z fd : Int) (j : Nat), z = (j : Int) - 1 ∧ j ≤ n ∧ s18 = .int .i64 z ∧ s16 = .int .i64 (leastF m.length (S.drop j)) ∧ s17 = .int .i64 fd ∧ fd = (if fpI (S.drop j) < 0 then -1 else fpI (S.drop j) + j) ∧ Grew w3 wr) (fun _ _ s18 _ => (intOf s18 + 1).toNat)
      case atStart =>
        refine ⟨_, -1, n, rfl, Nat.le_refl _, rfl, ?_, rfl, ?_, Grew.refl _⟩
        · rw [List.drop_of_length_le (by rw [HN.out]; exact Nat.le_refl _)]; rfl
        · rw [List.drop_of_length_le (by rw [HN.out]; exact Nat.le_refl _)]; rfl
      case round =>
        obtain ⟨z, fd, j, hz, hj, rfl, rfl, rfl, hfd0, hg⟩ := hrel
        have HFD0 := Lib.hid hfd0
        clear hfd0
        have HG4 := Lib.hid hg
        rcases Nat.eq_zero_or_pos j with rfl | hpos
        · obtain rfl : z = -1 := by omega
          clear hz
          have hX := Grew.heap hg HX3.out
          have hY := Grew.heap hg HY3.out
          obtain ⟨n0, f0⟩ := World.own_cell hX 0 _ rfl
          obtain ⟨n1, f1⟩ := World.own_cell hX 1 _ rfl
          obtain ⟨n2, f2⟩ := World.own_cell hX 2 _ rfl
          obtain ⟨m0, k0⟩ := World.own_cell hY 0 _ rfl
          obtain ⟨m1, k1⟩ := World.own_cell hY 1 _ rfl
          obtain ⟨m2, k2⟩ := World.own_cell hY 2 _ rfl
          have HX := Lib.hid hX
          have HY := Lib.hid hY
          have hff := fpI_fp S
          have hf0 := HFD0.out
          rw [List.drop_zero] at hf0
          clear hX hY HFD0
          by_cases hneg : fpI S < 0
          · rw [if_pos hneg] at hf0
            subst hf0
            have HN' := Lib.hid (hff.1 hneg)
            clear hff hneg hg
            go_wp2_with fail
            refine chain33 (Q := bodyPost _ _ _ _ _) (by omega) (Grew.heap (show Grew wr _ from by repeat (first | with_reducible exact HG.out | with_reducible exact Grew.refl _ | with_reducible assumption | with_reducible apply Grew.plus | with_reducible apply Grew.drewN | with_reducible apply Grew.drew | with_reducible apply Grew.alloc | with_reducible refine Grew.setCell ?_ (by simp [go_sem]; try omega) _)) HX.out) (Grew.heap (show Grew wr _ from by repeat (first | with_reducible exact HG.out | with_reducible exact Grew.refl _ | with_reducible assumption | with_reducible apply Grew.plus | with_reducible apply Grew.drewN | with_reducible apply Grew.drew | with_reducible apply Grew.alloc | with_reducible refine Grew.setCell ?_ (by simp [go_sem]; try omega) _)) HY.out) (fun w9 e4 e5 gw => ?_)
            obtain ⟨y0, _⟩ := World.own_cell e4 0 _ rfl
            obtain ⟨y1, _⟩ := World.own_cell e4 1 _ rfl
            obtain ⟨y2, _⟩ := World.own_cell e4 2 _ rfl
            obtain ⟨z0, _⟩ := World.own_cell e5 0 _ rfl
            obtain ⟨z1, _⟩ := World.own_cell e5 1 _ rfl
            obtain ⟨z2, _⟩ := World.own_cell e5 2 _ rfl
            exact bodyPost_ret (v := fpVal none) (by simp [fpVal, results, Tryz.results23, go_sem, y0, y1, y2, z0, z1, z2]) rfl ⟨by rw [HSM.out, HN'.out], gw w (Nat.le_refl _) (Nat.le_succ _) (HG3.out.trans (HG4.out.trans (by repeat (first | with_reducible exact HG.out | with_reducible exact Grew.refl _ | with_reducible assumption | with_reducible apply Grew.plus | with_reducible apply Grew.drewN | with_reducible apply Grew.drew | with_reducible apply Grew.alloc | with_reducible refine Grew.setCell ?_ (by simp [go_sem]; try omega) _))))⟩
          · rw [if_neg hneg] at hf0
            obtain ⟨j, hj'⟩ : ∃ j : Nat, fpI S = j := ⟨(fpI S).toNat, by omega⟩
            obtain ⟨hjS, y, hfind, hfpS⟩ := hff.2 j hj'
            obtain rfl : fd = (j : Int) := by omega
            have hjI : j < (S.map Prod.fst).length := by rw [List.length_map]; exact hjS
            obtain ⟨bS, oS, rfl, hbl, hrow⟩ := HRS.out (by omega)
            have q := cellsAt_later hg (hrow j hjI) hbl
            rw [List.getElem_map] at q
            have c7 : wr.cell? ⟨T, 0, none⟩ = some (.map (some B1)) := (World.own_cell (Grew.heap hg HT3.out) 0 _ rfl).1
            have hTr : T < wr.heap.size := (Array.getElem?_eq_some_iff.1 (Grew.heap hg HT3.out)).1
            have hbr : bS < wr.heap.size := Nat.lt_of_lt_of_le hbl hg.size
            have HFND := Lib.hid hfind
            have HFPS := Lib.hid hfpS
            have hjn : j < n := by omega
            clear hff hf0 hneg hj' hfind hfpS
            have hu := HS.out S[j] (List.getElem_mem hjS)
            have hOw := HO.out.grew hg
            have hMr := HM13.out.grew hg
            have hTb := Grew.heap hg HT3.out
            have hbase := (HO.out.lt bS rfl).1
            obtain ⟨x, hx⟩ : ∃ x, x = S[j] := ⟨_, rfl⟩
            rw [← hx] at q HFND HFPS hu
            have HXJ := Lib.hid hx
            clear hx hrow hg
            obtain ⟨⟨e0, e1, e2⟩, p⟩ := x
            simp only [idRow] at q
            obtain ⟨W1, hW1⟩ : ∃ W1, W1 = ((wr.setCell ⟨w.heap.size, 0, none⟩ (.int .i64 e0)).setCell ⟨w.heap.size, 1, none⟩ (.int .i64 e1)).setCell ⟨w.heap.size, 2, none⟩ (.int .i64 e2) := ⟨_, rfl⟩
            have hX1 : W1.heap[w.heap.size]? = some (.cells #[.int .i64 e0, .int .i64 e1, .int .i64 e2] 43 (0, 0)) := by
              rw [hW1]
              exact World.own_setCell (i := 2) (World.own_setCell (i := 1) (World.own_setCell (i := 0) HX.out (.int .i64 e0)) (.int .i64 e1)) (.int .i64 e2)
            have hoth : ∀ q, q ≠ w.heap.size → W1.heap[q]? = wr.heap[q]? := fun q hq => by
              rw [hW1, World.block_setCell _ _ _ _ hq, World.block_setCell _ _ _ _ hq, World.block_setCell _ _ _ _ hq]
            have hGW1 : Grew w W1 := by
              rw [hW1]
              exact ((((HG3.out.trans HG4.out).setCell (p := ⟨w.heap.size, 0, none⟩) (Nat.le_refl _) _).setCell (p := ⟨w.heap.size, 1, none⟩) (Nat.le_refl _) _).setCell (p := ⟨w.heap.size, 2, none⟩) (Nat.le_refl _) _)
            have hO1 := hOw.keep (w' := W1) (fun k hk => hoth k (by simp only [Value.ownBlock, Option.some.injEq] at hk; omega))
            have hM1 := hMr.keep (hoth B1 (fun e => by have := hMr.lt; have h9 := HX.out; rw [← e] at h9; obtain ⟨D, ⟨es, clock, hmm, _⟩, _⟩ := hMr; rw [hmm] at h9; cases h9))
            have hT1 := (hoth T (by omega)).trans hTb
            have hY1 := (hoth (w.heap.size + 1) (by omega)).trans HY.out
            obtain ⟨i, hi, hfi, hiy⟩ := find_ids m ((⟨e0, e1, e2⟩ : IdD), p) hu.2 (S.drop j) (fun u hu => (HS.out u (List.mem_of_mem_drop hu)).2) y HFND.out
            have hcd : CellsIn W1 (some ⟨bS, oS + j * 3, none⟩) (((S.drop j).map Prod.fst).flatMap idRow) := by
              have := hO1.cin.drop (j * 3)
              rwa [flat_drop idRow 3 idRow_len, ← List.map_drop] at this
            have hcF := indexF_any ((S.drop j).map Prod.fst) (some ⟨bS, oS + j * 3, none⟩) (vc - j) e0 e1 e2 hu.1 T w.heap.size B1 (nd m) (pf m) W1 hcd (fun z hz => by
              obtain ⟨v, hv, rfl⟩ := List.mem_map.1 hz
              exact (HS.out v (List.mem_of_mem_drop hv)).1) (by rw [List.length_map, List.length_drop]; omega) hT1 hX1 hM1
            rw [hfi, List.length_map, List.length_drop, HN.out] at hcF
            rw [List.length_drop, HN.out] at hi
            rw [List.getElem_drop] at hiy
            have hji : j + i < (S.map Prod.fst).length := by rw [List.length_map, HN.out]; omega
            have HCF := Lib.hid hcF
            have HO1 := Lib.hid hO1
            have HX1 := Lib.hid hX1
            have HY1 := Lib.hid hY1
            have HGW1 := Lib.hid hGW1
            have HIY := Lib.hid hiy
            have HW1 := Lib.hid hW1
            have hXlt : w.heap.size + 1 < W1.heap.size := (Array.getElem?_eq_some_iff.1 hY1).1
            clear hcF hO1 hX1 hY1 hT1 hM1 hcd hfi hiy hoth hMr hOw hTb hGW1 hW1 hu
            go_wp2_with (go_at_call 45; rw [← HW1.out]; refine HCF.out.mono ?_; rintro e w5 ⟨rfl, hg5⟩; have HG5 := Lib.hid hg5; clear hg5)
            obtain ⟨⟨g0, g1, g2⟩, r⟩ := y
            have hX5 := Grew.heap HG5.out HX1.out
            have hY5 := Grew.heap HG5.out HY1.out
            obtain ⟨a0, b0⟩ := World.own_cell hX5 0 _ rfl
            obtain ⟨a1, b1⟩ := World.own_cell hX5 1 _ rfl
            obtain ⟨a2, b2⟩ := World.own_cell hX5 2 _ rfl
            obtain ⟨c0, d0⟩ := World.own_cell hY5 0 _ rfl
            obtain ⟨c1, d1⟩ := World.own_cell hY5 1 _ rfl
            obtain ⟨c2, d2⟩ := World.own_cell hY5 2 _ rfl
            have cX := World.cellsAt_block hX5 3 rfl
            obtain ⟨bS', oS', heq, hbl5, hrow5⟩ := CellsIn.rowAt idRow 3 idRow_len (by omega) (HO1.out.grew HG5.out).cin (Nat.lt_of_le_of_lt (Nat.zero_le _) hji)
            simp only [Option.some.injEq, Addr.mk.injEq, and_true] at heq
            obtain ⟨rfl, rfl⟩ := heq
            have q5 := hrow5 (j + i) hji
            rw [List.getElem_map, HIY.out] at q5
            simp only [idRow] at q5
            have HX5 := Lib.hid hX5
            have HY5 := Lib.hid hY5
            have hs5 := (Array.getElem?_eq_some_iff.1 hY5).1
            clear hX5 hY5 hrow5 n0 n1 n2 f0 f1 f2 m0 m1 m2 k0 k1 k2 q
            have hneB : ¬ w.heap.size = bS := by omega
            have hneC : ¬ w.heap.size + 1 = bS := by omega
            go_region
            go_wp2_with fail
            refine chain33 (Q := fun W => bodyPost _ _ _ _ _ W.drew) (by omega) HX5.out HY5.out (fun w9 e4 e5 gw => ?_)
            obtain ⟨y0, _⟩ := World.own_cell e4 0 _ rfl
            obtain ⟨y1, _⟩ := World.own_cell e4 1 _ rfl
            obtain ⟨y2, _⟩ := World.own_cell e4 2 _ rfl
            obtain ⟨z0, _⟩ := World.own_cell e5 0 _ rfl
            obtain ⟨z1, _⟩ := World.own_cell e5 1 _ rfl
            obtain ⟨z2, _⟩ := World.own_cell e5 2 _ rfl
            exact bodyPost_ret (v := fpVal (some (⟨e0, e1, e2⟩, ⟨g0, g1, g2⟩))) (by simp [fpVal, results, Tryz.results23, go_sem, y0, y1, y2, z0, z1, z2]) rfl ⟨by rw [HSM.out, HFPS.out], (gw w (Nat.le_refl _) (Nat.le_succ _) (HGW1.out.trans HG5.out)).drew⟩
        · obtain ⟨i, rfl⟩ : ∃ i, j = i + 1 := ⟨j - 1, by omega⟩
          obtain rfl : z = (i : Int) := by omega
          clear hz
          have hiS : i < S.length := by rw [HN.out]; omega
          have hiI : i < (S.map Prod.fst).length := by rw [List.length_map]; exact hiS
          obtain ⟨bS, oS, rfl, hbl, hrow⟩ := HRS.out (by omega)
          have q := cellsAt_later hg (hrow i hiI) hbl
          rw [List.getElem_map] at q
          have hu := HS.out S[i] (List.getElem_mem hiS)
          have c7 : wr.cell? ⟨T, 0, none⟩ = some (.map (some B1)) := (World.own_cell (Grew.heap hg HT3.out) 0 _ rfl).1
          have hTr : T < wr.heap.size := (Array.getElem?_eq_some_iff.1 (Grew.heap hg HT3.out)).1
          have hbr : bS < wr.heap.size := Nat.lt_of_lt_of_le hbl hg.size
          have hpb := pf_bound hu.2
          have hld := leastF_drop m.length S i hiS
          have hfd := fpI_drop S i hiS
          have hll := leastF_lt m.length S[i].2 (by omega) (S.drop (i + 1))
          have k16 := fun y : More => ((HM13.out.grew hg).grew ((Grew.refl wr).plus y)).look S[i].1 hu.1
          rw [hu.2] at k16
          have hpb1 := hpb.1
          have hpb2 := hpb.2
          clear hrow hu hg hpb
          generalize S[i] = x at *
          obtain ⟨⟨e0, e1, e2⟩, p⟩ := x
          simp only [idRow] at q
          simp only [IdD.val, Option.getD_some] at k16
          simp only at hll hld hfd hpb1 hpb2
          rw [← hll] at hfd
          generalize leastF m.length (S.drop (i + 1)) = lv at *
          have hfb := fpI_bound (S.drop (i + 1))
          generalize fpI (S.drop (i + 1)) = fv at *
          have HLD := Lib.hid hld
          have HFD := Lib.hid hfd
          clear hll hld hfd
          have g0 : decide ((0 : Int) ≤ (i : Int)) = true := by simp
          have g00 : (0 : Int) ≤ (i : Int) := by omega
          by_cases hd : lv < p
          · have g1 : decide (lv < p) = true := by simp; omega
            have HF1 := Lib.hid (HFD.out.trans (if_pos g1))
            clear HFD
            go_wp2_with fail
            refine wp_region_plus (by kernel_rfl) (by kernel_rfl) ?_
            repeat (go_big_quiet_step ((first | fail)))
            refine wpQuiet_nil ?_
            intro _ hw'
            obtain ⟨nx, rfl⟩ := hw'
            go_wp2_with fail
            go_roundw
            case rel => exact ⟨(i : Int) - 1, i, i, rfl, by omega, by go_num, by rw [HLD.out], rfl, by rw [HF1.out]; simp, HG4.out.trans (by repeat (first | with_reducible exact HG.out | with_reducible exact Grew.refl _ | with_reducible assumption | with_reducible apply Grew.plus | with_reducible apply Grew.drewN | with_reducible apply Grew.drew | with_reducible apply Grew.alloc | with_reducible refine Grew.setCell ?_ (by simp [go_sem]; try omega) _))⟩
            case measure => simp [intOf] <;> omega
          · have g1 : decide (lv < p) = false := by simp; omega
            have HF1 := Lib.hid (HFD.out.trans (if_neg (by rw [g1]; exact Bool.false_ne_true)))
            clear HFD
            go_wp2_with fail
            refine wp_region_plus (by kernel_rfl) (by kernel_rfl) ?_
            repeat (go_big_quiet_step ((first | fail)))
            refine wpQuiet_nil ?_
            intro _ hw'
            obtain ⟨nx, rfl⟩ := hw'
            go_wp2_with fail
            go_roundw
            case rel => exact ⟨(i : Int) - 1, fd, i, rfl, by omega, by go_num, by rw [HLD.out], rfl, by rw [HF1.out, HFD0.out]; split <;> split <;> omega, HG4.out.trans (by repeat (first | with_reducible exact HG.out | with_reducible exact Grew.refl _ | with_reducible assumption | with_reducible apply Grew.plus | with_reducible apply Grew.drewN | with_reducible apply Grew.drew | with_reducible apply Grew.alloc | with_reducible refine Grew.setCell ?_ (by simp [go_sem]; try omega) _))⟩
            case measure => simp [intOf] <;> omega
end Go.Proofs.YtofijhejpgjopaaGreatDoor
