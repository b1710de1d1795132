/- Walks: runs of one hand, the program's and the document's; the document's authors. -/
import Derived.Test.YtofijhejpgjopaaGreatDoorRunW
import Derived.Laws.Runes
namespace Go.Proofs.YtofijhejpgjopaaGreatDoor
open Go.RowKit
set_option linter.unusedSimpArgs false
set_option linter.unusedVariables false

theorem last_size (l : List ElD) (i : List Link) (a b : ByteArray) (r : Int) (h : runs l = i ++ [(a, b, r)]) : a.size ≤ 4 * l.length := by
  have h1 := (runs_ok l).all
  rw [h, joined_snoc] at h1
  have h2 : (joined i ++ a).size = (runesBytes (chars l)).size := by rw [h1]
  have h3 := foldl_size_le (chars l) ByteArray.empty
  have h4 := chars_len l
  have h5 : (runesBytes (chars l)).size ≤ 0 + 4 * (chars l).length := h3
  rw [ByteArray.size_append] at h2
  omega
theorem nil_app (s : ByteArray) : (⟨#[]⟩ : ByteArray) ++ s = s := ByteArray.empty_append

set_option maxRecDepth 100000 in
set_option maxHeartbeats 2000000 in
theorem runs_any (l : List ElD) (a : Option Addr) (cap : Nat) (w : World) (ha : CellsIn w a (l.flatMap elRow)) (hl : l.length ≤ 1000000) :
    Calls Tryz.prog 15 #[.slice a l.length cap] w fun e w' => ∃ v, e = .returned v ∧ w'.ownsRow w.heap.size 36 3 v (runs l).length (linkCells (runs l)) ∧ Grew w w' := by
  have HA := Lib.hid ha
  clear ha
  go_enter Tryz.func15, Tryz.ntmps15
  go_wp2_with fail
  go_loopw [3, 8] (fun s3 s8 wr => ∃ (k : Nat) (va : Option Addr) (vc : Nat), k ≤ l.length ∧ s8 = .int .i64 k ∧ s3 = .slice va (runs (l.take k)).length vc ∧ wr.ownsRow w.heap.size 36 3 s3 (runs (l.take k)).length (linkCells (runs (l.take k))) ∧ Grew w wr) (fun _ i _ => l.length - (intOf i).toNat)
  case atStart => exact ⟨0, none, 0, by omega, rfl, rfl, World.ownsRow_nil _ _ _ _, Grew.refl _⟩
  case round =>
    obtain ⟨k, va, vc, hk, rfl, rfl, hown, hg⟩ := hrel
    have HO := Lib.hid hown
    have HG := Lib.hid hg
    have hnl := runs_len (l.take k)
    rw [List.length_take, Nat.min_eq_left hk] at hnl
    clear hown
    by_cases hlt : k < l.length
    · obtain ⟨b, off, rfl, hbl, hrow⟩ := CellsIn.rowAt elRow 5 elRow_len (by omega) HA.out (by omega)
      have q := cellsAt_later hg (hrow k hlt) hbl
      have hts := take_snoc' l k hlt
      have hbw : b < wr.heap.size := Nat.lt_of_lt_of_le hbl hg.size
      clear hrow hg
      generalize l[k] = e at *
      obtain ⟨ep, rp, nb, ch, hd⟩ := e
      have HS := Lib.hid (show runs (l.take (k + 1)) = if hd ≤ 0 then addRun (runs (l.take k)) rp (Utf8.encode ch) else runs (l.take k) by rw [hts, runs_snoc]; rfl)
      clear hts
      simp only [elRow] at q
      have HLS := Lib.hid (fun i a b r (h : runs (l.take k) = i ++ [(a, b, r)]) => show a.size ≤ 4 * k by have := last_size _ i a b r h; rw [List.length_take, Nat.min_eq_left hk] at this; exact this)
      generalize hacc : runs (l.take k) = acc at *
      clear hacc
      have hez := encode_size_le ch
      by_cases hr : hd ≤ 0
      · have HT := Lib.hid (HS.out.trans (if_pos hr))
        have RC := Lib.hid (fun W => by have := live_any ep rp nb ch hd W; rw [decide_eq_true hr] at this; exact this)
        clear HS
        rcases List.eq_nil_or_concat acc with rfl | ⟨i, x, rfl⟩
        · simp only [List.length_nil] at HO ⊢
          have HO1 := Lib.hid (show wr.ownsRow w.heap.size 36 3 (.slice va 0 vc) 0 [] from HO.out)
          have HT1 := Lib.hid (HT.out.trans (addRun_nil _ _))
          clear HT HO
          go_wp2_with (go_at_call 39; refine (RC.out _).mono ?_; rintro e w' ⟨rfl, gx, rfl⟩)
          refine wp_region_plus (by kernel_rfl) (by kernel_rfl) ?_
          repeat (go_big_quiet_step ((first | fail)))
          refine wpQuiet_nil ?_
          intro _ hw'
          obtain ⟨nx, rfl⟩ := hw'
          go_wp2_with (at_builtin; go_loud (refine wpList_app (by rfl) _ _ 31 (by rfl) elLink w.heap.size _ 0 [] (by rfl) (HO1.out.grew (by exact by repeat (first | with_reducible exact HG.out | with_reducible exact Grew.refl _ | with_reducible assumption | with_reducible apply Grew.plus | with_reducible apply Grew.drewN | with_reducible apply Grew.drew | with_reducible apply Grew.alloc | with_reducible refine Grew.setCell ?_ (by simp [go_sem]; try omega) _))) _ 1 1 #[.string ⟨#[]⟩, .string ⟨#[]⟩, .int .i64 rp] 36 (by rfl) (by exact heap_alloc_at _ _ _ (by first | rfl | (simp [go_sem]; done))) (by rfl) (by intro u hu; simp at hu; rcases hu with rfl | rfl | rfl <;> rfl) (by omega) (by omega) (by unfold maxLen; omega) w (HG.out.trans (by exact by repeat (first | with_reducible exact HG.out | with_reducible exact Grew.refl _ | with_reducible assumption | with_reducible apply Grew.plus | with_reducible apply Grew.drewN | with_reducible apply Grew.drew | with_reducible apply Grew.alloc | with_reducible refine Grew.setCell ?_ (by simp [go_sem]; try omega) _))) (Nat.le_refl _) (by have := HG.out.size; simp [go_sem] <;> omega) ?_; intro g c2 w2 hg2 hown2 hkeep2 hsz2 hat2; have HO2 := Lib.hid hown2; have HG2 := Lib.hid hg2; have HE := Lib.hid ((hkeep2 wr.heap.size (by simp [go_sem] <;> omega) (fun e => absurd (HO1.out.lt _ e.symm).2 (Nat.lt_irrefl _))).trans (Grew.heap (show Grew (wr.alloc (.cells #[.int .i64 ep, .int .i64 rp, .int .i64 nb, .int .i32 ch, .int .i64 hd] 71)) _ from by repeat (first | with_reducible exact HG.out | with_reducible exact Grew.refl _ | with_reducible assumption | with_reducible apply Grew.plus | with_reducible apply Grew.drewN | with_reducible apply Grew.drew | with_reducible apply Grew.alloc | with_reducible refine Grew.setCell ?_ (by simp [go_sem]; try omega) _)) (heap_alloc_at _ _ _ rfl))); clear hown2 hg2 hkeep2 hat2))
          have HO3 := Lib.hid (show w2.ownsRow w.heap.size 36 3 (.slice (some ⟨g, 0, none⟩) 1 c2) 1 (linkCells [(⟨#[]⟩, ⟨#[]⟩, rp)]) from HO2.out)
          have c0 : w2.cell? ⟨g, 0, none⟩ = some (.string ⟨#[]⟩) := HO3.out.cellAt 0 (by omega)
          have f0 : w2.frozen? ⟨g, 0, none⟩ = false := HO3.out.frozenAt 0
          have hgs : g < w2.heap.size := (HO3.out.lt g rfl).2
          have c3 : w2.cell? ⟨wr.heap.size, 3, none⟩ = some (.int .i32 ch) := (World.own_cell HE.out 3 _ rfl).1
          have hes : wr.heap.size < w2.heap.size := (Array.getElem?_eq_some_iff.1 HE.out).1
          refine wp_region_plus_tail 11 (by kernel_rfl) (by kernel_rfl) ?_
          simp only [List.take_succ_cons, List.take_zero, List.drop_succ_cons, List.drop_zero]
          repeat (go_big_quiet_step ((first | fail)))
          refine wpQuiet_nil ?_
          intro _ hw'
          obtain ⟨nx, rfl⟩ := hw'
          go_wp2_with fail
          have o5 := Lib.hid (HO3.out.stored 0 (.string (Utf8.encode ch))).1
          go_roundw
          case measure => simp [intOf]; omega
          case rel => simp only [nil_app]; exact ⟨k + 1, some ⟨g, 0, none⟩, c2, by omega, by go_num, by rw [HT1.out]; rfl, by rw [HT1.out]; exact o5.out.grew (by repeat (first | with_reducible exact HG.out | with_reducible exact Grew.refl _ | with_reducible assumption | with_reducible apply Grew.plus | with_reducible apply Grew.drewN | with_reducible apply Grew.drew | with_reducible apply Grew.alloc | with_reducible refine Grew.setCell ?_ (by simp [go_sem]; try omega) _)), (HG2.out.setCell (HO3.out.lt g rfl).1 _).trans (by repeat (first | with_reducible exact HG.out | with_reducible exact Grew.refl _ | with_reducible assumption | with_reducible apply Grew.plus | with_reducible apply Grew.drewN | with_reducible apply Grew.drew | with_reducible apply Grew.alloc | with_reducible refine Grew.setCell ?_ (by simp [go_sem]; try omega) _))⟩
        · rw [List.concat_eq_append] at *
          obtain ⟨xa, xb, xr⟩ := x
          have hls := HLS.out i xa xb xr rfl
          have hll : (i ++ [(xa, xb, xr)]).length = i.length + 1 := by simp
          rw [hll] at HO hnl ⊢
          have HI := Lib.hid hll
          generalize hin : i.length = n at *
          have HIN := Lib.hid hin
          clear hin hll
          have HO1 := HO
          clear HO
          obtain ⟨g0, c1, hv⟩ := HO1.out.some (by omega)
          cases hv
          obtain ⟨l1, l2⟩ := link_last i xa xb xr
          rw [HIN.out] at l1 l2
          have hl3 := linkCells_len (i ++ [(xa, xb, xr)])
          have d0 : wr.cell? ⟨g0, n * 3, none⟩ = some (.string xa) := (HO1.out.cellAt (n * 3) (by omega)).trans l1
          have d2 : wr.cell? ⟨g0, n * 3 + 2, none⟩ = some (.int .i64 xr) := (HO1.out.cellAt (n * 3 + 2) (by omega)).trans l2
          have e0 : wr.frozen? ⟨g0, n * 3, none⟩ = false := HO1.out.frozenAt _
          have hg0s : g0 < wr.heap.size := (HO1.out.lt g0 rfl).2
          have hcp := HO1.out.caps
          have hn1 : ((n : Int) + 1 == 0) = false := by simp <;> omega
          clear l1 l2 hl3
          by_cases hrr : xr = rp
          · subst hrr
            have HT1 := Lib.hid (HT.out.trans (addRun_same i xa xb xr _))
            go_wp2_with (go_at_call 39; refine (RC.out _).mono ?_; rintro e w' ⟨rfl, gx, rfl⟩)
            refine wp_region_plus (by kernel_rfl) (by kernel_rfl) ?_
            repeat (go_big_quiet_step ((first | fail)))
            refine wpQuiet_nil ?_
            intro _ hw'
            obtain ⟨nx, rfl⟩ := hw'
            go_wp2_with fail
            refine wp_region_plus_tail 11 (by kernel_rfl) (by kernel_rfl) ?_
            simp only [List.take_succ_cons, List.take_zero, List.drop_succ_cons, List.drop_zero]
            repeat (go_big_quiet_step ((first | fail)))
            refine wpQuiet_nil ?_
            intro _ hw'
            obtain ⟨nx, rfl⟩ := hw'
            go_wp2_with fail
            have o5 := Lib.hid (HO1.out.stored (n * 3) (.string (xa ++ Utf8.encode ch))).1
            have ll := link_longer i xa xb (xa ++ Utf8.encode ch) xr
            rw [HIN.out] at ll
            rw [ll] at o5
            have hlen : (i ++ [(xa ++ Utf8.encode ch, xb, xr)]).length = n + 1 := by rw [List.length_append, HIN.out]; rfl
            go_roundw
            case measure => simp [intOf]; omega
            case rel => exact ⟨k + 1, some ⟨g0, 0, none⟩, vc, by omega, by go_num, by rw [HT1.out, hlen], by rw [HT1.out, hlen]; exact o5.out.grew (by repeat (first | with_reducible exact HG.out | with_reducible exact Grew.refl _ | with_reducible assumption | with_reducible apply Grew.plus | with_reducible apply Grew.drewN | with_reducible apply Grew.drew | with_reducible apply Grew.alloc | with_reducible refine Grew.setCell ?_ (by simp [go_sem]; try omega) _)), (HG.out.setCell (HO1.out.lt g0 rfl).1 _).trans (by repeat (first | with_reducible exact HG.out | with_reducible exact Grew.refl _ | with_reducible assumption | with_reducible apply Grew.plus | with_reducible apply Grew.drewN | with_reducible apply Grew.drew | with_reducible apply Grew.alloc | with_reducible refine Grew.setCell ?_ (by simp [go_sem]; try omega) _))⟩
          · have hxr : (xr == rp) = false := by simpa using hrr
            have HT1 := Lib.hid (HT.out.trans (addRun_other i xa xb xr rp _ hrr))
            go_wp2_with (go_at_call 39; refine (RC.out _).mono ?_; rintro e w' ⟨rfl, gx, rfl⟩)
            refine wp_region_plus (by kernel_rfl) (by kernel_rfl) ?_
            repeat (go_big_quiet_step ((first | fail)))
            refine wpQuiet_nil ?_
            intro _ hw'
            obtain ⟨nx, rfl⟩ := hw'
            go_wp2_with (at_builtin; go_loud (refine wpList_app (by rfl) _ _ 31 (by rfl) elLink w.heap.size _ (n + 1) (linkCells (i ++ [(xa, xb, xr)])) (by rfl) (HO1.out.grew (by exact by repeat (first | with_reducible exact HG.out | with_reducible exact Grew.refl _ | with_reducible assumption | with_reducible apply Grew.plus | with_reducible apply Grew.drewN | with_reducible apply Grew.drew | with_reducible apply Grew.alloc | with_reducible refine Grew.setCell ?_ (by simp [go_sem]; try omega) _))) _ 1 1 #[.string ⟨#[]⟩, .string ⟨#[]⟩, .int .i64 rp] 36 (by rfl) (by exact heap_alloc_at _ _ _ (by first | rfl | (simp [go_sem]; done))) (by rfl) (by intro u hu; simp at hu; rcases hu with rfl | rfl | rfl <;> rfl) (by omega) (by omega) (by unfold maxLen; omega) w (HG.out.trans (by exact by repeat (first | with_reducible exact HG.out | with_reducible exact Grew.refl _ | with_reducible assumption | with_reducible apply Grew.plus | with_reducible apply Grew.drewN | with_reducible apply Grew.drew | with_reducible apply Grew.alloc | with_reducible refine Grew.setCell ?_ (by simp [go_sem]; try omega) _))) (Nat.le_refl _) (by have := HG.out.size; simp [go_sem] <;> omega) ?_; intro g c2 w2 hg2 hown2 hkeep2 hsz2 hat2; have HO2 := Lib.hid hown2; have HG2 := Lib.hid hg2; have HE := Lib.hid ((hkeep2 wr.heap.size (by simp [go_sem] <;> omega) (fun e => absurd (HO1.out.lt _ e.symm).2 (Nat.lt_irrefl _))).trans (Grew.heap (show Grew (wr.alloc (.cells #[.int .i64 ep, .int .i64 rp, .int .i64 nb, .int .i32 ch, .int .i64 hd] 71)) _ from by repeat (first | with_reducible exact HG.out | with_reducible exact Grew.refl _ | with_reducible assumption | with_reducible apply Grew.plus | with_reducible apply Grew.drewN | with_reducible apply Grew.drew | with_reducible apply Grew.alloc | with_reducible refine Grew.setCell ?_ (by simp [go_sem]; try omega) _)) (heap_alloc_at _ _ _ rfl))); clear hown2 hg2 hkeep2 hat2))
            have HO3 := Lib.hid (show w2.ownsRow w.heap.size 36 3 (.slice (some ⟨g, 0, none⟩) (n + 1 + 1) c2) (n + 1 + 1) (linkCells ((i ++ [(xa, xb, xr)]) ++ [(⟨#[]⟩, ⟨#[]⟩, rp)])) from by rw [linkCells_snoc]; exact HO2.out)
            obtain ⟨l1, l2⟩ := link_last (i ++ [(xa, xb, xr)]) ⟨#[]⟩ ⟨#[]⟩ rp
            have hi1 : (i ++ [(xa, xb, xr)]).length = n + 1 := by rw [List.length_append, HIN.out]; rfl
            rw [hi1] at l1 l2
            have hl3 := linkCells_len ((i ++ [(xa, xb, xr)]) ++ [(⟨#[]⟩, ⟨#[]⟩, rp)])
            rw [List.length_append, hi1, List.length_singleton] at hl3
            have c0 : w2.cell? ⟨g, (n + 1) * 3, none⟩ = some (.string ⟨#[]⟩) := (HO3.out.cellAt ((n + 1) * 3) (by omega)).trans l1
            have f0 : w2.frozen? ⟨g, (n + 1) * 3, none⟩ = false := HO3.out.frozenAt _
            have hgs : g < w2.heap.size := (HO3.out.lt g rfl).2
            have c3 : w2.cell? ⟨wr.heap.size, 3, none⟩ = some (.int .i32 ch) := (World.own_cell HE.out 3 _ rfl).1
            have hes : wr.heap.size < w2.heap.size := (Array.getElem?_eq_some_iff.1 HE.out).1
            have hcp2 := HO3.out.caps
            have ll := Lib.hid (link_longer (i ++ [(xa, xb, xr)]) ⟨#[]⟩ ⟨#[]⟩ (Utf8.encode ch) rp)
            rw [hi1] at ll
            clear l1 l2 hl3 hi1
            refine wp_region_plus_tail 11 (by kernel_rfl) (by kernel_rfl) ?_
            simp only [List.take_succ_cons, List.take_zero, List.drop_succ_cons, List.drop_zero]
            repeat (go_big_quiet_step ((first | fail)))
            refine wpQuiet_nil ?_
            intro _ hw'
            obtain ⟨nx, rfl⟩ := hw'
            go_wp2_with fail
            have o5 := Lib.hid (HO3.out.stored ((n + 1) * 3) (.string (Utf8.encode ch))).1
            rw [ll.out] at o5
            have hlen : ((i ++ [(xa, xb, xr)]) ++ [(Utf8.encode ch, ByteArray.empty, rp)]).length = n + 1 + 1 := by rw [List.length_append, List.length_append, HIN.out]; rfl
            go_roundw
            case measure => simp [intOf]; omega
            case rel => simp only [nil_app]; exact ⟨k + 1, some ⟨g, 0, none⟩, c2, by omega, by go_num, by rw [HT1.out, hlen], by rw [HT1.out, hlen]; exact o5.out.grew (by repeat (first | with_reducible exact HG.out | with_reducible exact Grew.refl _ | with_reducible assumption | with_reducible apply Grew.plus | with_reducible apply Grew.drewN | with_reducible apply Grew.drew | with_reducible apply Grew.alloc | with_reducible refine Grew.setCell ?_ (by simp [go_sem]; try omega) _)), (HG2.out.setCell (HO3.out.lt g rfl).1 _).trans (by repeat (first | with_reducible exact HG.out | with_reducible exact Grew.refl _ | with_reducible assumption | with_reducible apply Grew.plus | with_reducible apply Grew.drewN | with_reducible apply Grew.drew | with_reducible apply Grew.alloc | with_reducible refine Grew.setCell ?_ (by simp [go_sem]; try omega) _))⟩
      · have HT := Lib.hid (HS.out.trans (if_neg hr))
        have RC := Lib.hid (fun W => by have := live_any ep rp nb ch hd W; rw [decide_eq_false hr] at this; exact this)
        clear HS
        generalize hn : acc.length = n at *
        have HN := Lib.hid hn
        clear hn
        go_wp2_with (go_at_call 39; refine (RC.out _).mono ?_; rintro e w' ⟨rfl, gx, rfl⟩)
        go_roundw
        case measure => simp [intOf]; omega
        case rel => exact ⟨k + 1, va, vc, by omega, by go_num, by rw [HT.out, HN.out], by rw [HT.out, HN.out]; exact HO.out.grew (by repeat (first | with_reducible exact HG.out | with_reducible exact Grew.refl _ | with_reducible assumption | with_reducible apply Grew.plus | with_reducible apply Grew.drewN | with_reducible apply Grew.drew | with_reducible apply Grew.alloc | with_reducible refine Grew.setCell ?_ (by simp [go_sem]; try omega) _)), HG.out.trans (by repeat (first | with_reducible exact HG.out | with_reducible exact Grew.refl _ | with_reducible assumption | with_reducible apply Grew.plus | with_reducible apply Grew.drewN | with_reducible apply Grew.drew | with_reducible apply Grew.alloc | with_reducible refine Grew.setCell ?_ (by simp [go_sem]; try omega) _))⟩
    · obtain rfl : k = l.length := by omega
      rw [List.take_of_length_le (Nat.le_refl _)] at *
      clear hg
      generalize hn : (runs l).length = n at *
      have HN := Lib.hid hn
      clear hn
      go_wp2_with fail
      go_ret
      exact ⟨.slice va n vc, rfl, by rw [HN.out]; exact HO.out, HG.out⟩

set_option maxRecDepth 100000 in
set_option maxHeartbeats 2000000 in
theorem rauthors_any (l : List ElD) (a : Option Addr) (cap : Nat) (w : World) (ha : CellsIn w a (l.flatMap elRow)) (hl : l.length ≤ 1000000000000) : Calls Tryz.prog 17 #[.slice a l.length cap] w fun e w' => e = .returned (.agg (authors l).cells) ∧ Grew w w' := by
  have HA := Lib.hid ha
  clear ha
  have h1a : ∀ (W : World) (o : Obj), (W.alloc o).heap.size = W.heap.size + 1 := fun W o => by simp [go_sem]
  go_enter Tryz.func17, Tryz.ntmps17
  go_wp2_with fail
  go_loopw [4] (fun s8 wr => ∃ k : Nat, k ≤ l.length ∧ s8 = .int .i64 k ∧ wr.heap[w.heap.size + 1]? = some (.cells (authors (l.take k)).cells 29 (0, 0)) ∧ wr.heap[w.heap.size]? = some (.cells (authors []).cells 29 (0, 0)) ∧ Grew w wr) (fun s8 _ => l.length - (intOf s8).toNat)
  case atStart => exact ⟨0, by omega, rfl, heap_alloc_at _ _ _ (by rw [h1a]), by rw [heap_alloc_past _ _ _ (by rw [h1a]; omega)]; exact heap_alloc_at _ _ _ rfl, by repeat (first | with_reducible exact HG.out | with_reducible exact Grew.refl _ | with_reducible assumption | with_reducible apply Grew.plus | with_reducible apply Grew.drewN | with_reducible apply Grew.drew | with_reducible apply Grew.alloc | with_reducible refine Grew.setCell ?_ (by simp [go_sem]; try omega) _)⟩
  case round =>
    obtain ⟨k, hk, rfl, hn, ho, hg⟩ := hrel
    by_cases hlt : k < l.length
    · obtain ⟨b, off, rfl, hbl, hrow⟩ := CellsIn.rowAt elRow 5 elRow_len (by omega) HA.out (by omega)
      have hr := hrow k hlt
      have hts := Lib.hid (take_snoc' l k hlt)
      have hbd := authors_bound (l.take k)
      have hll : (l.take k).length = k := List.length_take_of_le hk
      rw [hll] at hbd
      generalize l[k] = e at *
      obtain ⟨ep, rp, nb, ch, hd⟩ := e
      generalize hc : authors (l.take k) = c at *
      have HC := Lib.hid hc
      clear hc hll hrow
      have q := cellsAt_later hg hr hbl
      simp only [elRow] at q
      have q1 : wr.cell? ⟨b, off + k * 5 + 1, none⟩ = some (.int .i64 rp) := by rw [World.cellsAt_cell q 1 (by omega)]; rfl
      have hbw : b < wr.heap.size := Nat.lt_of_lt_of_le hbl hg.size
      have hsz := hg.size
      have hBs : w.heap.size + 1 < wr.heap.size := (Array.getElem?_eq_some_iff.1 hn).1
      have HN := Lib.hid hn
      have HO := Lib.hid ho
      have HG := Lib.hid hg
      clear hn ho hg hr
      by_cases hA : hd ≤ 0 ∧ 0 ≤ rp ∧ rp < 8
      · obtain ⟨hA1, hA2, hA3⟩ := hA
        have hst := Lib.hid (show authStep c ⟨ep, rp, nb, ch, hd⟩ = c.set rp.toNat (c.get rp.toNat + 1) from if_pos ⟨hA1, hA2, hA3⟩)
        have hr8 : rp.toNat < 8 := by omega
        obtain ⟨n0, f0⟩ : wr.cell? ⟨w.heap.size + 1, rp.toNat, none⟩ = some (.int .i64 (c.get rp.toNat)) ∧ wr.frozen? ⟨w.heap.size + 1, rp.toNat, none⟩ = false := World.own_cell HN.out rp.toNat _ (c.cells_get rp.toNat hr8)
        have hb2 := hbd rp.toNat hr8
        have hw : IntKind.i64.wrap (c.get rp.toNat + 1) = c.get rp.toNat + 1 := IntWalk.i64_in _ (by omega)
        have d1 : decide (hd ≤ 0) = true := by simpa using hA1
        have d2 : decide (0 ≤ rp) = true := by simpa using hA2
        have d3 : decide (rp < 8) = true := by simpa using hA3
        go_wp2_with (go_at_call 41; refine (rlive_any _ _ _ _ _ _).mono ?_; rintro e w' ⟨rfl, gx, rfl⟩)
        have s1 := World.own_set2 HN.out rp.toNat (.int .i64 (c.get rp.toNat + 1)) (c.set rp.toNat (c.get rp.toNat + 1)).cells (C8.cells_set _ _ _ hr8)
        have s2 : (wr.setCell ⟨w.heap.size + 1, rp.toNat, none⟩ (.int .i64 (c.get rp.toNat + 1))).heap[w.heap.size]? = some (.cells (authors []).cells 29 (0, 0)) := by
          rw [World.block_setCell _ _ _ _ (by simp)]; exact HO.out
        have s3 : Grew w (wr.setCell ⟨w.heap.size + 1, rp.toNat, none⟩ (.int .i64 (c.get rp.toNat + 1))) := HG.out.setCell (by simp) _
        generalize wr.setCell ⟨w.heap.size + 1, rp.toNat, none⟩ (.int .i64 (c.get rp.toNat + 1)) = wq at *
        go_roundw
        case rel => exact ⟨k + 1, by omega, by go_num, Grew.heap (show Grew wq _ from by repeat (first | with_reducible exact HG.out | with_reducible exact Grew.refl _ | with_reducible assumption | with_reducible apply Grew.plus | with_reducible apply Grew.drewN | with_reducible apply Grew.drew | with_reducible apply Grew.alloc | with_reducible refine Grew.setCell ?_ (by simp [go_sem]; try omega) _)) (by rw [hts.out, authors_snoc, HC.out, hst.out]; exact s1), Grew.heap (show Grew wq _ from by repeat (first | with_reducible exact HG.out | with_reducible exact Grew.refl _ | with_reducible assumption | with_reducible apply Grew.plus | with_reducible apply Grew.drewN | with_reducible apply Grew.drew | with_reducible apply Grew.alloc | with_reducible refine Grew.setCell ?_ (by simp [go_sem]; try omega) _)) s2, s3.trans (show Grew wq _ from by repeat (first | with_reducible exact HG.out | with_reducible exact Grew.refl _ | with_reducible assumption | with_reducible apply Grew.plus | with_reducible apply Grew.drewN | with_reducible apply Grew.drew | with_reducible apply Grew.alloc | with_reducible refine Grew.setCell ?_ (by simp [go_sem]; try omega) _))⟩
        case measure => simp [intOf]; omega
      · have hst := Lib.hid (show authStep c ⟨ep, rp, nb, ch, hd⟩ = c from if_neg hA)
        have hA' : decide (hd ≤ 0) = true → decide (0 ≤ rp) = true → decide (rp < 8) = false := fun a1 a2 => by simp only [decide_eq_true_eq, decide_eq_false_iff_not] at *; exact fun a3 => hA ⟨a1, a2, a3⟩
        by_cases d1 : hd ≤ 0
        · have d1' : decide (hd ≤ 0) = true := by simpa using d1
          by_cases d2 : 0 ≤ rp
          · have d2' : decide (0 ≤ rp) = true := by simpa using d2
            have d3' : decide (rp < 8) = false := hA' d1' d2'
            clear hA hA'
            go_wp2_with (go_at_call 41; refine (rlive_any _ _ _ _ _ _).mono ?_; rintro e w' ⟨rfl, gx, rfl⟩)
            go_roundw
            case rel => exact ⟨k + 1, by omega, by go_num, Grew.heap (show Grew wr _ from by repeat (first | with_reducible exact HG.out | with_reducible exact Grew.refl _ | with_reducible assumption | with_reducible apply Grew.plus | with_reducible apply Grew.drewN | with_reducible apply Grew.drew | with_reducible apply Grew.alloc | with_reducible refine Grew.setCell ?_ (by simp [go_sem]; try omega) _)) (by rw [hts.out, authors_snoc, HC.out, hst.out]; exact HN.out), Grew.heap (show Grew wr _ from by repeat (first | with_reducible exact HG.out | with_reducible exact Grew.refl _ | with_reducible assumption | with_reducible apply Grew.plus | with_reducible apply Grew.drewN | with_reducible apply Grew.drew | with_reducible apply Grew.alloc | with_reducible refine Grew.setCell ?_ (by simp [go_sem]; try omega) _)) HO.out, HG.out.trans (show Grew wr _ from by repeat (first | with_reducible exact HG.out | with_reducible exact Grew.refl _ | with_reducible assumption | with_reducible apply Grew.plus | with_reducible apply Grew.drewN | with_reducible apply Grew.drew | with_reducible apply Grew.alloc | with_reducible refine Grew.setCell ?_ (by simp [go_sem]; try omega) _))⟩
            case measure => simp [intOf]; omega
          · have d2' : decide (0 ≤ rp) = false := by simpa using d2
            clear hA hA'
            go_wp2_with (go_at_call 41; refine (rlive_any _ _ _ _ _ _).mono ?_; rintro e w' ⟨rfl, gx, rfl⟩)
            go_roundw
            case rel => exact ⟨k + 1, by omega, by go_num, Grew.heap (show Grew wr _ from by repeat (first | with_reducible exact HG.out | with_reducible exact Grew.refl _ | with_reducible assumption | with_reducible apply Grew.plus | with_reducible apply Grew.drewN | with_reducible apply Grew.drew | with_reducible apply Grew.alloc | with_reducible refine Grew.setCell ?_ (by simp [go_sem]; try omega) _)) (by rw [hts.out, authors_snoc, HC.out, hst.out]; exact HN.out), Grew.heap (show Grew wr _ from by repeat (first | with_reducible exact HG.out | with_reducible exact Grew.refl _ | with_reducible assumption | with_reducible apply Grew.plus | with_reducible apply Grew.drewN | with_reducible apply Grew.drew | with_reducible apply Grew.alloc | with_reducible refine Grew.setCell ?_ (by simp [go_sem]; try omega) _)) HO.out, HG.out.trans (show Grew wr _ from by repeat (first | with_reducible exact HG.out | with_reducible exact Grew.refl _ | with_reducible assumption | with_reducible apply Grew.plus | with_reducible apply Grew.drewN | with_reducible apply Grew.drew | with_reducible apply Grew.alloc | with_reducible refine Grew.setCell ?_ (by simp [go_sem]; try omega) _))⟩
            case measure => simp [intOf]; omega
        · have d1' : decide (hd ≤ 0) = false := by simpa using d1
          clear hA hA'
          go_wp2_with (go_at_call 41; refine (rlive_any _ _ _ _ _ _).mono ?_; rintro e w' ⟨rfl, gx, rfl⟩)
          go_roundw
          case rel => exact ⟨k + 1, by omega, by go_num, Grew.heap (show Grew wr _ from by repeat (first | with_reducible exact HG.out | with_reducible exact Grew.refl _ | with_reducible assumption | with_reducible apply Grew.plus | with_reducible apply Grew.drewN | with_reducible apply Grew.drew | with_reducible apply Grew.alloc | with_reducible refine Grew.setCell ?_ (by simp [go_sem]; try omega) _)) (by rw [hts.out, authors_snoc, HC.out, hst.out]; exact HN.out), Grew.heap (show Grew wr _ from by repeat (first | with_reducible exact HG.out | with_reducible exact Grew.refl _ | with_reducible assumption | with_reducible apply Grew.plus | with_reducible apply Grew.drewN | with_reducible apply Grew.drew | with_reducible apply Grew.alloc | with_reducible refine Grew.setCell ?_ (by simp [go_sem]; try omega) _)) HO.out, HG.out.trans (show Grew wr _ from by repeat (first | with_reducible exact HG.out | with_reducible exact Grew.refl _ | with_reducible assumption | with_reducible apply Grew.plus | with_reducible apply Grew.drewN | with_reducible apply Grew.drew | with_reducible apply Grew.alloc | with_reducible refine Grew.setCell ?_ (by simp [go_sem]; try omega) _))⟩
          case measure => simp [intOf]; omega
    · obtain rfl : k = l.length := by omega
      rw [List.take_of_length_le (Nat.le_refl _)] at hn
      have hc8 := World.cellsAt_block hn 8 (by rw [C8.size_cells'])
      have ho' : ∀ i : Nat, i < 8 → wr.cell? ⟨w.heap.size, i, none⟩ = some (.int .i64 0) ∧ wr.frozen? ⟨w.heap.size, i, none⟩ = false := fun i hi => World.own_cell ho i _ (by match i, hi with | 0, _ | 1, _ | 2, _ | 3, _ | 4, _ | 5, _ | 6, _ | 7, _ => rfl)
      obtain ⟨p0, q0⟩ := ho' 0 (by omega)
      obtain ⟨p1, q1⟩ := ho' 1 (by omega)
      obtain ⟨p2, q2⟩ := ho' 2 (by omega)
      obtain ⟨p3, q3⟩ := ho' 3 (by omega)
      obtain ⟨p4, q4⟩ := ho' 4 (by omega)
      obtain ⟨p5, q5⟩ := ho' 5 (by omega)
      obtain ⟨p6, q6⟩ := ho' 6 (by omega)
      obtain ⟨p7, q7⟩ := ho' 7 (by omega)
      have HG := Lib.hid hg
      have HO := Lib.hid ho
      generalize hcl : authors l = c at *
      have HCL := Lib.hid hcl
      clear hn ho hg ho' hcl
      go_wp2
      generalize hw2 : ((((((((wr.setCell ⟨w.heap.size, 0, none⟩ (.int .i64 c.x0)).setCell ⟨w.heap.size, 1, none⟩ (.int .i64 c.x1)).setCell ⟨w.heap.size, 2, none⟩ (.int .i64 c.x2)).setCell ⟨w.heap.size, 3, none⟩ (.int .i64 c.x3)).setCell ⟨w.heap.size, 4, none⟩ (.int .i64 c.x4)).setCell ⟨w.heap.size, 5, none⟩ (.int .i64 c.x5)).setCell ⟨w.heap.size, 6, none⟩ (.int .i64 c.x6)).setCell ⟨w.heap.size, 7, none⟩ (.int .i64 c.x7)) = w2
      obtain ⟨t1, t2⟩ := set8 HO.out c hw2
      have t3 : ∀ i (v : Value), c.cells[i]? = some v → w2.cell? ⟨w.heap.size, i, none⟩ = some v := fun i v hv => (World.own_cell t1 i v hv).1
      have f0 := t3 0 _ c.cell0
      have f1 := t3 1 _ c.cell1
      have f2 := t3 2 _ c.cell2
      have f3 := t3 3 _ c.cell3
      have f4 := t3 4 _ c.cell4
      have f5 := t3 5 _ c.cell5
      have f6 := t3 6 _ c.cell6
      have f7 := t3 7 _ c.cell7
      exact bodyPost_ret (v := .agg c.cells) (by simp [results, Tryz.results17, go_sem, f0, f1, f2, f3, f4, f5, f6, f7]) rfl ⟨by rw [HCL.out], HG.out.grown t2 (fun k e => by cases e; exact Nat.le_refl _)⟩
end Go.Proofs.YtofijhejpgjopaaGreatDoor
