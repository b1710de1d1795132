/- The walk of the law AuditAuthors: the law itself. -/
import Derived.Test.YtofijhejpgjopaaGreatDoorAutW
namespace Go.Proofs.YtofijhejpgjopaaGreatDoor
open Go.RowKit
set_option linter.unusedSimpArgs false
set_option linter.unusedVariables false

theorem bytes_full {b : ByteArray} (h : b ≠ ByteArray.empty) : b.toList.isEmpty = false := by
  rw [ByteArray.toList_eq]
  rcases b with ⟨⟨l⟩⟩
  cases l with
  | nil => exact absurd rfl h
  | cons x l => rfl

set_option maxRecDepth 100000 in
set_option maxHeartbeats 2000000 in
theorem auditAuthors_walk {S0 : Nat → Addr} (l : List ElD) (a : Option Addr) (cap : Nat) (w : World) (ha : CellsIn w a (l.flatMap elRow)) (hnil : a = none → l.length = 0 ∧ cap = 0) (hcap : l.length ≤ cap) (hm : cap ≤ 9223372036854775807) (hS : Sents S0 w) :
    Calls Tryz.prog 4 #[.slice a l.length cap] w fun e w' => e = .returned (.bool true) ∧ Grew w w' := by
  have HS := Lib.hid hS
  obtain ⟨l', h60, hcap', hnil', ha', hcut⟩ := cut_any l a cap w ha hcap hm hnil
  have HCUT := Lib.hid hcut
  have hgd := rights_good l'
  have hrl := rights_len l'
  have HRT := Lib.hid (fun W (hW : Grew w W) => right_any l' a cap W (ha'.grew hW) (by omega))
  clear hS ha hnil hcap hcut ha' hnil'
  generalize rights l' = m at *
  generalize l.length = n0 at *
  generalize l'.length = n1 at *
  generalize hn : m.length = n at *
  have HN := Lib.hid hn
  have HGD := Lib.hid hgd
  have hrun := runs_len m
  have HJS := Lib.hid (joined_size m)
  have HOK := Lib.hid (runs_ok m)
  rw [hn] at hrun
  clear hn hgd
  have HRUN := Lib.hid (fun (a : Option Addr) (cap : Nat) (W : World) (ha : CellsIn W a (m.flatMap elRow)) => runs_n n m HN.out a cap W ha (by omega))
  have HRRUN := Lib.hid (fun (a : Option Addr) (cap : Nat) (W : World) (ha : CellsIn W a (m.flatMap elRow)) => rruns_n n m HN.out a cap W ha (by omega) HGD.out)
  have HAU := Lib.hid (fun (a : Option Addr) (cap : Nat) (W : World) (ha : CellsIn W a (m.flatMap elRow)) => authors_n n m HN.out a cap W ha (by omega))
  have HRAU := Lib.hid (fun (a : Option Addr) (cap : Nat) (W : World) (ha : CellsIn W a (m.flatMap elRow)) => rauthors_n n m HN.out a cap W ha (by omega))
  generalize hau : authors m = c8 at *
  obtain ⟨x0, x1, x2, x3, x4, x5, x6, x7⟩ := c8
  clear hau
  simp only [C8.cells] at HAU HRAU
  generalize hrs : runs m = rs at *
  generalize hrn : rs.length = r at *
  have HRN := Lib.hid hrn
  clear hrs hrn
  go_enter Tryz.func4, Tryz.ntmps4
  go_wp2_with (first
    | (go_at_call 12; refine (HCUT.out _).mono ?_; rintro e w' ⟨rfl, gx, rfl⟩)
    | (go_at_call 11; go_loud (refine (HRT.out _ (by repeat (first | with_reducible exact HG.out | with_reducible exact Grew.refl _ | with_reducible assumption | with_reducible apply Grew.plus | with_reducible apply Grew.drewN | with_reducible apply Grew.drew | with_reducible apply Grew.alloc | with_reducible refine Grew.setCell ?_ (by simp [go_sem]; try omega) _))).mono ?_; rintro e w1 ⟨v, rfl, ho, hg⟩; obtain ⟨ar, cr, rfl, hr1, hr2, hin, hr3, hr4⟩ := ho.rd; have HI := Lib.hid hin; have HR4 := Lib.hid hr4; have HG1 := Lib.hid (Grew.trans (show Grew w _ from by repeat (first | with_reducible exact HG.out | with_reducible exact Grew.refl _ | with_reducible assumption | with_reducible apply Grew.plus | with_reducible apply Grew.drewN | with_reducible apply Grew.drew | with_reducible apply Grew.alloc | with_reducible refine Grew.setCell ?_ (by simp [go_sem]; try omega) _)) hg); clear ho hg hin hr3 hr4))
    | (go_at_call 13; go_loud (refine (lend_els_n n m HN.out ar cr w1 HI.out HR4.out hr1 hr2 (by omega)).mono ?_; rintro e w2 ⟨g, c, rfl, ho2, hg2⟩; have HO2 := Lib.hid ho2; have HGA := Lib.hid hg2; clear ho2 hg2))
    | (go_at_call 14; go_loud (refine (HAU.out _ c w2 (own_take_els HN.out HO2.out)).mono ?_; rintro e w3 ⟨rfl, hg3⟩; have HG3 := Lib.hid hg3; clear hg3))
    | (go_at_call 15; go_loud (refine (HRUN.out _ c _ (own_take_els HN.out (HO2.out.grew (HG3.out.trans (by repeat (first | with_reducible exact HG.out | with_reducible exact Grew.refl _ | with_reducible assumption | with_reducible apply Grew.plus | with_reducible apply Grew.drewN | with_reducible apply Grew.drew | with_reducible apply Grew.alloc | with_reducible refine Grew.setCell ?_ (by simp [go_sem]; try omega) _)))))).mono ?_; rintro e w4 ⟨v, rfl, ho, hg⟩; obtain ⟨a4, c4, rfl, h41, h42, hin4, h43, h44⟩ := ho.rd; have HO4 := Lib.hid ho; have HI4 := Lib.hid hin4; have H43 := Lib.hid h43; have HG4 := Lib.hid hg; clear ho hg hin4 h43 h44)))
  have hgs : g < w2.heap.size := (HO2.out.lt g rfl).2
  have hs3 := HG3.out.size
  have G3a : Grew w3 (w3.alloc (.cells #[.int .i64 x0, .int .i64 x1, .int .i64 x2, .int .i64 x3, .int .i64 x4, .int .i64 x5, .int .i64 x6, .int .i64 x7] 29)) := (Grew.refl w3).alloc _
  have HB0 : w4.heap[w3.heap.size]? = some (.cells #[.int .i64 x0, .int .i64 x1, .int .i64 x2, .int .i64 x3, .int .i64 x4, .int .i64 x5, .int .i64 x6, .int .i64 x7] 29 (0, 0)) := Grew.heap HG4.out (heap_alloc_at _ _ _ rfl)
  have hBs : w3.heap.size < w4.heap.size := (Array.getElem?_eq_some_iff.1 HB0).1
  have HB4 := Lib.hid (fun W (hW : Grew w4 W) => World.cellsAt_block (Grew.heap hW HB0) 8 rfl)
  have G14 := Lib.hid (HGA.out.trans (HG3.out.trans (G3a.trans HG4.out)))
  have OWN4 := Lib.hid (HO2.out.grew (HG3.out.trans (G3a.trans HG4.out)))
  have HLT : Hid (∀ k, (Value.slice a4 r c4).ownBlock = some k → w3.heap.size < k ∧ k < w4.heap.size) := fun k hk => by
    have := HO4.out.lt k hk
    rw [show (w3.alloc (.cells #[.int .i64 x0, .int .i64 x1, .int .i64 x2, .int .i64 x3, .int .i64 x4, .int .i64 x5, .int .i64 x6, .int .i64 x7] 29)).heap.size = w3.heap.size + 1 by simp [go_sem]] at this
    omega
  have HB00 := Lib.hid HB0
  clear HG4 H43 G3a HB0
  have hq := fun W => clk29_same x0 x1 x2 x3 x4 x5 x6 x7 W
  have k1 := HB4.out w4 (Grew.refl _)
  generalize hBB : w3.heap.size = B at *
  go_region_held3 (fun w' => w'.cellsAt ⟨B, 0, none⟩ 8 = some [.int .i64 x0, .int .i64 x1, .int .i64 x2, .int .i64 x3, .int .i64 x4, .int .i64 x5, .int .i64 x6, .int .i64 x7]) (first | exact HB5.out _ HG8.out | exact HB5.out _ HG7.out | exact HB5.out _ HG6.out | (exact HB5.out _ (by with_reducible exact Grew.refl _)) | exact HB4.out _ (by repeat (first | with_reducible exact HG.out | with_reducible exact Grew.refl _ | with_reducible assumption | with_reducible apply Grew.plus | with_reducible apply Grew.drewN | with_reducible apply Grew.drew | with_reducible apply Grew.alloc | with_reducible refine Grew.setCell ?_ (by simp [go_sem]; try omega) _))) (first
    | (go_at_call 16; go_loud (refine (intact_els_n n m HN.out g c w1.heap.size ar cr _ w1 (OWN4.out.grew (show Grew w4 _ from by repeat (first | with_reducible exact HG.out | with_reducible exact Grew.refl _ | with_reducible assumption | with_reducible apply Grew.plus | with_reducible apply Grew.drewN | with_reducible apply Grew.drew | with_reducible apply Grew.alloc | with_reducible refine Grew.setCell ?_ (by simp [go_sem]; try omega) _))) (HI.out.grew (G14.out.trans (show Grew w4 _ from by repeat (first | with_reducible exact HG.out | with_reducible exact Grew.refl _ | with_reducible assumption | with_reducible apply Grew.plus | with_reducible apply Grew.drewN | with_reducible apply Grew.drew | with_reducible apply Grew.alloc | with_reducible refine Grew.setCell ?_ (by simp [go_sem]; try omega) _)))) hr1 hr2 (by omega) (G14.out.trans (show Grew w4 _ from by repeat (first | with_reducible exact HG.out | with_reducible exact Grew.refl _ | with_reducible assumption | with_reducible apply Grew.plus | with_reducible apply Grew.drewN | with_reducible apply Grew.drew | with_reducible apply Grew.alloc | with_reducible refine Grew.setCell ?_ (by simp [go_sem]; try omega) _))) (Nat.le_refl _)).mono ?_; rintro e w5 ⟨rfl, hg5, hsz5, hk5⟩; have KEEP := Lib.hid (fun k (hk : k < w4.heap.size) (hne : k ≠ g) => (hk5 k (Nat.lt_of_lt_of_le hk (Grew.size (show Grew w4 _ from by repeat (first | with_reducible exact HG.out | with_reducible exact Grew.refl _ | with_reducible assumption | with_reducible apply Grew.plus | with_reducible apply Grew.drewN | with_reducible apply Grew.drew | with_reducible apply Grew.alloc | with_reducible refine Grew.setCell ?_ (by simp [go_sem]; try omega) _)))) hne).trans (Grew.block (show Grew w4 _ from by repeat (first | with_reducible exact HG.out | with_reducible exact Grew.refl _ | with_reducible assumption | with_reducible apply Grew.plus | with_reducible apply Grew.drewN | with_reducible apply Grew.drew | with_reducible apply Grew.alloc | with_reducible refine Grew.setCell ?_ (by simp [go_sem]; try omega) _)) k hk)); have HO5 := Lib.hid (HO4.out.keep (fun k hk => KEEP.out k (HLT.out k hk).2 (fun e => by have := (HLT.out k hk).1; omega))); have HB5 := Lib.hid (fun W (hW : Grew w5 W) => World.cellsAt_block (Grew.heap hW ((KEEP.out B hBs (by omega)).trans HB00.out)) 8 rfl); have HG5 := Lib.hid hg5; clear hg5 hsz5 hk5))
    | (go_at_call 17; go_loud (refine (HRAU.out ar cr _ (HI.out.grew (HG5.out.trans (show Grew w5 _ from by repeat (first | with_reducible exact HG.out | with_reducible exact Grew.refl _ | with_reducible assumption | with_reducible apply Grew.plus | with_reducible apply Grew.drewN | with_reducible apply Grew.drew | with_reducible apply Grew.alloc | with_reducible refine Grew.setCell ?_ (by simp [go_sem]; try omega) _))))).mono ?_; rintro e w6 ⟨rfl, hg6⟩; have HG6 := Lib.hid (Grew.trans (show Grew w5 _ from by repeat (first | with_reducible exact HG.out | with_reducible exact Grew.refl _ | with_reducible assumption | with_reducible apply Grew.plus | with_reducible apply Grew.drewN | with_reducible apply Grew.drew | with_reducible apply Grew.alloc | with_reducible refine Grew.setCell ?_ (by simp [go_sem]; try omega) _)) hg6); clear hg6))
    | (go_at_call 19; go_loud (refine (HRRUN.out ar cr _ (HI.out.grew (HG5.out.trans (show Grew w5 _ from by first | exact HG6.out | exact by repeat (first | with_reducible exact HG.out | with_reducible exact Grew.refl _ | with_reducible assumption | with_reducible apply Grew.plus | with_reducible apply Grew.drewN | with_reducible apply Grew.drew | with_reducible apply Grew.alloc | with_reducible refine Grew.setCell ?_ (by simp [go_sem]; try omega) _))))).mono ?_; rintro e w7 ⟨v, rfl, ho, hg⟩; obtain ⟨a7, c7, rfl, h71, h72, hin7, h73, h74⟩ := ho.rd; have HI7 := Lib.hid hin7; have HG7 := Lib.hid (HG6.out.trans hg); clear ho hg hin7 h73 h74))
    | (go_at_call 18; go_loud (refine (links_n r rs HRN.out a4 a7 c4 c7 _ ((HO5.out.grew HG7.out).cin) HI7.out h41 h71 h42 h72).mono ?_; rintro e w8 ⟨rfl, hg8⟩; have HG8 := Lib.hid (HG7.out.trans hg8); clear hg8)))
  have HALL := Lib.hid HOK.out.all
  have HJ := Lib.hid (fun k => Nat.le_trans (joined_take rs k) HJS.out)
  go_wp2_with fail
  go_loopw [6, 7] (fun s6 s7 wr => ∃ (k : Nat), k ≤ r ∧ s6 = .string (joined (rs.take k)) ∧ s7 = .int .i64 k ∧ Grew w8 wr) (fun _ s7 _ => r - (intOf s7).toNat)
  case atStart => exact ⟨0, by omega, rfl, rfl, Grew.refl _⟩
  case round =>
    obtain ⟨k, hk, rfl, rfl, hg⟩ := hrel
    have HG := Lib.hid hg
    clear hg
    by_cases hlt : k < r
    · have hkr : k < rs.length := by rw [HRN.out]; exact hlt
      obtain ⟨b, off, rfl, hbl, hrow⟩ := CellsIn.rowAt linkRow 3 len_link (by omega) ((HO5.out.grew HG8.out).cin) (by omega)
      have q := cellsAt_later HG.out (hrow k hkr) hbl
      have q0 : wr.cell? ⟨b, off + k * 3, none⟩ = some (.string rs[k].1) := (World.cellsAt_cell q 0 (by omega)).trans rfl
      have q2 : wr.cell? ⟨b, off + k * 3 + 2, none⟩ = some (.int .i64 rs[k].2.2) := by rw [World.cellsAt_cell q 2 (by omega)]; rfl
      have hfull : rs[k].1.toList.isEmpty = false := bytes_full (HOK.out.full _ (List.getElem_mem hkr))
      have htk : joined (rs.take (k + 1)) = joined (rs.take k) ++ rs[k].1 := by
        rw [List.take_succ_eq_append_getElem hkr, joined_snoc]
      have z1 := HJ.out k
      have z2 := HJ.out (k + 1)
      rw [htk, ByteArray.size_append] at z2
      rw [HN.out] at z1 z2
      generalize joined (rs.take k) = jk at *
      have HTK := Lib.hid htk
      have hfu := HOK.out.full
      rcases Nat.eq_zero_or_pos k with rfl | hpos
      · clear hrow hbl
        generalize rs[0] = x at *
        obtain ⟨x1, x2, x3⟩ := x
        simp only [Nat.zero_mul, Nat.add_zero] at q0 q2 hfull z2 HTK
        go_wp2_with fail
        refine wp_region_plus (by kernel_rfl) (by kernel_rfl) ?_
        repeat (go_big_quiet_step ((first | fail)))
        refine wpQuiet_nil ?_
        intro _ hw'
        obtain ⟨nx, rfl⟩ := hw'
        go_wp2_with fail
        go_roundw
        case rel => exact ⟨1, by omega, by rw [HTK.out], by go_num, HG.out.trans (by repeat (first | with_reducible exact HG.out | with_reducible exact Grew.refl _ | with_reducible assumption | with_reducible apply Grew.plus | with_reducible apply Grew.drewN | with_reducible apply Grew.drew | with_reducible apply Grew.alloc | with_reducible refine Grew.setCell ?_ (by simp [go_sem]; try omega) _))⟩
        case measure => simp [intOf]; omega
      · obtain ⟨j, rfl⟩ : ∃ j, k = j + 1 := ⟨k - 1, by omega⟩
        have p := cellsAt_later HG.out (hrow j (by omega)) hbl
        have p2 : wr.cell? ⟨b, off + j * 3 + 2, none⟩ = some (.int .i64 rs[j].2.2) := by rw [World.cellsAt_cell p 2 (by omega)]; rfl
        have hdiff : (rs[j + 1].2.2 == rs[j].2.2) = false := by
          rw [beq_eq_false_iff_ne]; exact HOK.out.diff j hkr
        clear hrow hbl
        generalize rs[j + 1] = x at *
        generalize rs[j] = y at *
        obtain ⟨x1, x2, x3⟩ := x
        obtain ⟨y1, y2, y3⟩ := y
        simp only at q0 q2 p2 hdiff hfull z2 HTK
        have d1 : decide ((0 : Int) < j + 1) = true := by simp <;> omega
        go_wp2_with fail
        refine wp_region_plus (by kernel_rfl) (by kernel_rfl) ?_
        repeat (go_big_quiet_step ((first | fail)))
        refine wpQuiet_nil ?_
        intro _ hw'
        obtain ⟨nx, rfl⟩ := hw'
        go_wp2_with fail
        go_roundw
        case rel => exact ⟨j + 2, by omega, by rw [HTK.out], by go_num, HG.out.trans (by repeat (first | with_reducible exact HG.out | with_reducible exact Grew.refl _ | with_reducible assumption | with_reducible apply Grew.plus | with_reducible apply Grew.drewN | with_reducible apply Grew.drew | with_reducible apply Grew.alloc | with_reducible refine Grew.setCell ?_ (by simp [go_sem]; try omega) _))⟩
        case measure => simp [intOf]; omega
    · obtain rfl : k = r := by omega
      have GI := Lib.hid (HG5.out.trans (HG8.out.trans HG.out))
      have GW := Lib.hid (HG1.out.trans GI.out)
      have htk : joined (rs.take k) = runesBytes (chars m) := by rw [← HALL.out, List.take_of_length_le (by rw [HRN.out]; omega)]
      generalize joined (rs.take k) = jj at *
      go_wp2_with (first
        | (go_at_call 20; refine (view_n n m HN.out ar cr wr (HI.out.grew GI.out) (by omega) HGD.out).mono ?_; rintro e w9 ⟨rfl, hg9⟩; have GW9 := Lib.hid (GW.out.trans hg9); clear hg9; rw [htk])
        | (go_at_call 10; refine (wakes20 (HS.out.grew GW9.out)).mono ?_; rintro e w10 ⟨rfl, hg10⟩; have GW10 := Lib.hid (GW9.out.trans hg10); clear hg10))
      go_ret
      exact ⟨rfl, GW10.out⟩
end Go.Proofs.YtofijhejpgjopaaGreatDoor
