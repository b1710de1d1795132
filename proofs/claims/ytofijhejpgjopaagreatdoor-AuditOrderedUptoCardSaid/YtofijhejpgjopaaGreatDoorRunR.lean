/- Walk: the document's runs of one hand. -/
import Derived.Test.YtofijhejpgjopaaGreatDoorRunP
namespace Go.Proofs.YtofijhejpgjopaaGreatDoor
open Go.RowKit
set_option linter.unusedSimpArgs false
set_option linter.unusedVariables false

theorem utf8_one (B : Nat) (ch : Int) (t : TypeId) (w : World) (hb : w.heap[B]? = some (.cells #[.int .i32 ch] t (0, 0))) (hg : Scr.good ch) : Calls Tryz.prog 42 #[.slice (some ⟨B, 0, none⟩) 1 1] w fun e w' => e = .returned (.string (Utf8.encode ch)) ∧ Grew w w' := by
  have := utf8_any (some ⟨B, 0, none⟩) 1 [ch] w (CellsIn.of_cells (fun i hi => by
    have : i = 0 := by simpa using hi
    subst this; exact (World.own_cell hb 0 _ rfl).1)) (Nat.le_refl _) (by omega) (by simp) (fun c hc => by simp only [List.mem_singleton] at hc; subst hc; exact hg)
  rw [runesBytes_one] at this
  exact this

set_option maxRecDepth 100000 in
set_option maxHeartbeats 2000000 in
theorem rruns_any (l : List ElD) (a : Option Addr) (cap : Nat) (w : World) (ha : CellsIn w a (l.flatMap elRow)) (hl : l.length ≤ 1000000) (hgd : ∀ e ∈ l, Scr.good e.ch) :
    Calls Tryz.prog 19 #[.slice a l.length cap] w fun e w' => ∃ v, e = .returned v ∧ w'.ownsRow w.heap.size 36 3 v (runs l).length (linkCells (runs l)) ∧ Grew w w' := by
  have HA := Lib.hid ha
  have HGD := Lib.hid hgd
  clear ha hgd
  go_enter Tryz.func19, Tryz.ntmps19
  go_wp2_with fail
  go_loopw [3, 4] (fun s3 s8 wr => ∃ (k : Nat) (va : Option Addr) (vc : Nat), k ≤ l.length ∧ s8 = .int .i64 k ∧ s3 = .slice va (runs (l.take k)).length vc ∧ wr.ownsRow w.heap.size 36 3 s3 (runs (l.take k)).length (linkCells (runs (l.take k))) ∧ Grew w wr) (fun _ i _ => l.length - (intOf i).toNat)
  case atStart => exact ⟨0, none, 0, by omega, rfl, rfl, World.ownsRow_nil _ _ _ _, Grew.refl _⟩
  case round =>
    obtain ⟨k, va, vc, hk, rfl, rfl, hown, hg⟩ := hrel
    have HO := Lib.hid hown
    have HG := Lib.hid hg
    have hnl := runs_len (l.take k)
    rw [List.length_take, Nat.min_eq_left hk] at hnl
    clear hown
    by_cases hlt : k < l.length
    · obtain ⟨b, off, rfl, hbl, hrow⟩ := CellsIn.rowAt elRow 5 elRow_len (by omega) HA.out (by omega)
      have q := cellsAt_later hg (hrow k hlt) hbl
      have hts := take_snoc' l k hlt
      have hgch := HGD.out l[k] (List.getElem_mem hlt)
      have hbw : b < wr.heap.size := Nat.lt_of_lt_of_le hbl hg.size
      clear hrow hg
      generalize l[k] = e at *
      obtain ⟨ep, rp, nb, ch, hd⟩ := e
      have HC := Lib.hid hgch
      clear hgch
      have HS := Lib.hid (show runs (l.take (k + 1)) = if hd ≤ 0 then addRun (runs (l.take k)) rp (Utf8.encode ch) else runs (l.take k) by rw [hts, runs_snoc]; rfl)
      clear hts
      simp only [elRow] at q
      have q1 : wr.cell? ⟨b, off + k * 5 + 1, none⟩ = some (.int .i64 rp) := by rw [World.cellsAt_cell q 1 (by omega)]; rfl
      have q3 : wr.cell? ⟨b, off + k * 5 + 3, none⟩ = some (.int .i32 ch) := by rw [World.cellsAt_cell q 3 (by omega)]; rfl
      have HLS := Lib.hid (fun i a b r (h : runs (l.take k) = i ++ [(a, b, r)]) => show a.size ≤ 4 * k by have := last_size _ i a b r h; rw [List.length_take, Nat.min_eq_left hk] at this; exact this)
      generalize hacc : runs (l.take k) = acc at *
      clear hacc
      have hez := encode_size_le ch
      by_cases hr : hd ≤ 0
      · have HT := Lib.hid (HS.out.trans (if_pos hr))
        have RC := Lib.hid (fun W => by have := rlive_any ep rp nb ch hd W; rw [decide_eq_true hr] at this; exact this)
        clear HS
        rcases List.eq_nil_or_concat acc with rfl | ⟨i, x, rfl⟩
        · simp only [List.length_nil] at HO ⊢
          have HO1 := Lib.hid (show wr.ownsRow w.heap.size 36 3 (.slice va 0 vc) 0 [] from HO.out)
          have HT1 := Lib.hid (HT.out.trans (addRun_nil _ _))
          clear HT HO
          go_wp2_with (first
            | (go_at_call 41; refine (RC.out _).mono ?_; rintro e w' ⟨rfl, gx, rfl⟩)
            | (go_at_call 42; go_loud (refine (utf8_one _ ch 21 _ (by exact heap_alloc_at _ _ _ (by first | rfl | (simp [go_sem]; done))) HC.out).mono ?_; rintro e w' ⟨rfl, gy, rfl⟩)))
          refine wp_region_plus (by kernel_rfl) (by kernel_rfl) ?_
          repeat (go_big_quiet_step ((first | fail)))
          refine wpQuiet_nil ?_
          intro _ hw'
          obtain ⟨nx, rfl⟩ := hw'
          go_wp2_with (at_builtin; go_loud (refine wpList_app (by rfl) _ _ 31 (by rfl) elLink w.heap.size _ 0 [] (by rfl) (HO1.out.grew (by exact by repeat (first | with_reducible exact HG.out | with_reducible exact Grew.refl _ | with_reducible assumption | with_reducible apply Grew.plus | with_reducible apply Grew.drewN | with_reducible apply Grew.drew | with_reducible apply Grew.alloc | with_reducible refine Grew.setCell ?_ (by simp [go_sem]; try omega) _))) _ 1 1 #[.string (Utf8.encode ch), .string ⟨#[]⟩, .int .i64 rp] 36 (by rfl) (by exact heap_alloc_at _ _ _ (by first | rfl | (simp [go_sem]; done))) (by rfl) (by intro u hu; simp at hu; rcases hu with rfl | rfl | rfl <;> rfl) (by omega) (by omega) (by unfold maxLen; omega) w (HG.out.trans (by exact by repeat (first | with_reducible exact HG.out | with_reducible exact Grew.refl _ | with_reducible assumption | with_reducible apply Grew.plus | with_reducible apply Grew.drewN | with_reducible apply Grew.drew | with_reducible apply Grew.alloc | with_reducible refine Grew.setCell ?_ (by simp [go_sem]; try omega) _))) (Nat.le_refl _) (by have := HG.out.size; simp [go_sem] <;> omega) ?_; intro g c2 w2 hg2 hown2 hkeep2 hsz2 hat2; have HO2 := Lib.hid hown2; have HG2 := Lib.hid hg2; clear hown2 hg2 hkeep2 hat2))
          go_roundw
          case measure => simp [intOf]; omega
          case rel => exact ⟨k + 1, some ⟨g, 0, none⟩, c2, by omega, by go_num, by rw [HT1.out]; rfl, by rw [HT1.out]; exact HO2.out, HG2.out⟩
        · rw [List.concat_eq_append] at *
          obtain ⟨xa, xb, xr⟩ := x
          have hls := HLS.out i xa xb xr rfl
          have hll : (i ++ [(xa, xb, xr)]).length = i.length + 1 := by simp
          rw [hll] at HO hnl ⊢
          have HI := Lib.hid hll
          generalize hin : i.length = n at *
          have HIN := Lib.hid hin
          clear hin hll
          have HO1 := HO
          clear HO
          obtain ⟨g0, c1, hv⟩ := HO1.out.some (by omega)
          cases hv
          obtain ⟨l1, l2⟩ := link_last i xa xb xr
          rw [HIN.out] at l1 l2
          have hl3 := linkCells_len (i ++ [(xa, xb, xr)])
          have d0 : wr.cell? ⟨g0, n * 3, none⟩ = some (.string xa) := (HO1.out.cellAt (n * 3) (by omega)).trans l1
          have d2 : wr.cell? ⟨g0, n * 3 + 2, none⟩ = some (.int .i64 xr) := (HO1.out.cellAt (n * 3 + 2) (by omega)).trans l2
          have e0 : wr.frozen? ⟨g0, n * 3, none⟩ = false := HO1.out.frozenAt _
          have hg0s : g0 < wr.heap.size := (HO1.out.lt g0 rfl).2
          have hcp := HO1.out.caps
          have hn1 : decide ((0 : Int) < (n : Int) + 1) = true := by simp <;> omega
          clear l1 l2 hl3
          by_cases hrr : xr = rp
          · subst hrr
            have HT1 := Lib.hid (HT.out.trans (addRun_same i xa xb xr _))
            go_wp2_with (first
              | (go_at_call 41; refine (RC.out _).mono ?_; rintro e w' ⟨rfl, gx, rfl⟩)
              | (go_at_call 42; go_loud (refine (utf8_one _ ch 21 _ (by exact heap_alloc_at _ _ _ (by first | rfl | (simp [go_sem]; done))) HC.out).mono ?_; rintro e w' ⟨rfl, gy, rfl⟩)))
            refine wp_region_plus (by kernel_rfl) (by kernel_rfl) ?_
            repeat (go_big_quiet_step ((first | fail)))
            refine wpQuiet_nil ?_
            intro _ hw'
            obtain ⟨nx, rfl⟩ := hw'
            go_wp2_with fail
            have o5 := Lib.hid (HO1.out.stored (n * 3) (.string (xa ++ Utf8.encode ch))).1
            have ll := link_longer i xa xb (xa ++ Utf8.encode ch) xr
            rw [HIN.out] at ll
            rw [ll] at o5
            have hlen : (i ++ [(xa ++ Utf8.encode ch, xb, xr)]).length = n + 1 := by rw [List.length_append, HIN.out]; rfl
            go_roundw
            case measure => simp [intOf]; omega
            case rel => exact ⟨k + 1, some ⟨g0, 0, none⟩, vc, by omega, by go_num, by rw [HT1.out, hlen], by rw [HT1.out, hlen]; exact o5.out.grew (by repeat (first | with_reducible exact HG.out | with_reducible exact Grew.refl _ | with_reducible assumption | with_reducible apply Grew.plus | with_reducible apply Grew.drewN | with_reducible apply Grew.drew | with_reducible apply Grew.alloc | with_reducible refine Grew.setCell ?_ (by simp [go_sem]; try omega) _)), (HG.out.setCell (HO1.out.lt g0 rfl).1 _).trans (by repeat (first | with_reducible exact HG.out | with_reducible exact Grew.refl _ | with_reducible assumption | with_reducible apply Grew.plus | with_reducible apply Grew.drewN | with_reducible apply Grew.drew | with_reducible apply Grew.alloc | with_reducible refine Grew.setCell ?_ (by simp [go_sem]; try omega) _))⟩
          · have hxr : (xr == rp) = false := by simpa using hrr
            have HT1 := Lib.hid (HT.out.trans (addRun_other i xa xb xr rp _ hrr))
            go_wp2_with (first
              | (go_at_call 41; refine (RC.out _).mono ?_; rintro e w' ⟨rfl, gx, rfl⟩)
              | (go_at_call 42; go_loud (refine (utf8_one _ ch 21 _ (by exact heap_alloc_at _ _ _ (by first | rfl | (simp [go_sem]; done))) HC.out).mono ?_; rintro e w' ⟨rfl, gy, rfl⟩)))
            refine wp_region_plus (by kernel_rfl) (by kernel_rfl) ?_
            repeat (go_big_quiet_step ((first | fail)))
            refine wpQuiet_nil ?_
            intro _ hw'
            obtain ⟨nx, rfl⟩ := hw'
            go_wp2_with (at_builtin; go_loud (refine wpList_app (by rfl) _ _ 31 (by rfl) elLink w.heap.size _ (n + 1) (linkCells (i ++ [(xa, xb, xr)])) (by rfl) (HO1.out.grew (by exact by repeat (first | with_reducible exact HG.out | with_reducible exact Grew.refl _ | with_reducible assumption | with_reducible apply Grew.plus | with_reducible apply Grew.drewN | with_reducible apply Grew.drew | with_reducible apply Grew.alloc | with_reducible refine Grew.setCell ?_ (by simp [go_sem]; try omega) _))) _ 1 1 #[.string (Utf8.encode ch), .string ⟨#[]⟩, .int .i64 rp] 36 (by rfl) (by exact heap_alloc_at _ _ _ (by first | rfl | (simp [go_sem]; done))) (by rfl) (by intro u hu; simp at hu; rcases hu with rfl | rfl | rfl <;> rfl) (by omega) (by omega) (by unfold maxLen; omega) w (HG.out.trans (by exact by repeat (first | with_reducible exact HG.out | with_reducible exact Grew.refl _ | with_reducible assumption | with_reducible apply Grew.plus | with_reducible apply Grew.drewN | with_reducible apply Grew.drew | with_reducible apply Grew.alloc | with_reducible refine Grew.setCell ?_ (by simp [go_sem]; try omega) _))) (Nat.le_refl _) (by have := HG.out.size; simp [go_sem] <;> omega) ?_; intro g c2 w2 hg2 hown2 hkeep2 hsz2 hat2; have HO2 := Lib.hid hown2; have HG2 := Lib.hid hg2; clear hown2 hg2 hkeep2 hat2))
            have hlen : ((i ++ [(xa, xb, xr)]) ++ [(Utf8.encode ch, ByteArray.empty, rp)]).length = n + 1 + 1 := by rw [List.length_append, List.length_append, HIN.out]; rfl
            go_roundw
            case measure => simp [intOf]; omega
            case rel => exact ⟨k + 1, some ⟨g, 0, none⟩, c2, by omega, by go_num, by rw [HT1.out, hlen], by rw [HT1.out, hlen, linkCells_snoc]; exact HO2.out, HG2.out⟩
      · have HT := Lib.hid (HS.out.trans (if_neg hr))
        have RC := Lib.hid (fun W => by have := rlive_any ep rp nb ch hd W; rw [decide_eq_false hr] at this; exact this)
        clear HS
        generalize hn : acc.length = n at *
        have HN := Lib.hid hn
        clear hn
        go_wp2_with (go_at_call 41; refine (RC.out _).mono ?_; rintro e w' ⟨rfl, gx, rfl⟩)
        go_roundw
        case measure => simp [intOf]; omega
        case rel => exact ⟨k + 1, va, vc, by omega, by go_num, by rw [HT.out, HN.out], by rw [HT.out, HN.out]; exact HO.out.grew (by repeat (first | with_reducible exact HG.out | with_reducible exact Grew.refl _ | with_reducible assumption | with_reducible apply Grew.plus | with_reducible apply Grew.drewN | with_reducible apply Grew.drew | with_reducible apply Grew.alloc | with_reducible refine Grew.setCell ?_ (by simp [go_sem]; try omega) _)), HG.out.trans (by repeat (first | with_reducible exact HG.out | with_reducible exact Grew.refl _ | with_reducible assumption | with_reducible apply Grew.plus | with_reducible apply Grew.drewN | with_reducible apply Grew.drew | with_reducible apply Grew.alloc | with_reducible refine Grew.setCell ?_ (by simp [go_sem]; try omega) _))⟩
    · obtain rfl : k = l.length := by omega
      rw [List.take_of_length_le (Nat.le_refl _)] at *
      clear hg
      generalize hn : (runs l).length = n at *
      have HN := Lib.hid hn
      clear hn
      go_wp2_with fail
      go_ret
      exact ⟨.slice va n vc, rfl, by rw [HN.out]; exact HO.out, HG.out⟩
end Go.Proofs.YtofijhejpgjopaaGreatDoor
