/- Walks: places (where IDs stand first), the document's Index. -/
import Derived.Test.YtofijhejpgjopaaGreatDoorOrd
namespace Go.Proofs.YtofijhejpgjopaaGreatDoor
open Go.RowKit Go.Maps
set_option linter.unusedSimpArgs false
set_option linter.unusedVariables false

theorem id_make (n : Int) (w : World) : (Instr.makeMap 78 (some (.int .i64 n))).run Tryz.prog w = .ok (.map (some w.heap.size)) (w.alloc (.map #[] 0)) := by kernel_rfl

set_option maxRecDepth 100000 in
set_option maxHeartbeats 2000000 in
theorem places_any (l : List ElD) (a : Option Addr) (cap : Nat) (w : World) (ha : CellsIn w a (l.flatMap elRow)) (hf : ∀ e ∈ l, e.Fits) (hl : l.length ≤ 1000000) :
    Calls Tryz.prog 44 #[.slice a l.length cap] w fun e w' => ∃ b, e = .returned (.tuple #[.map (some b), .bool ((nd l : Int) == l.length)]) ∧ w.heap.size ≤ b ∧ IdMap w' b (pf l) (nd l) ∧ Grew w w' := by
  have HA := Lib.hid ha
  have HF := Lib.hid hf
  clear ha hf
  have hmm := id_make
  go_enter Tryz.func44, Tryz.ntmps44
  go_wp2_with fail
  go_loopw [13] (fun s13 wr => ∃ (k n : Nat), k ≤ l.length ∧ s13 = .int .i64 k ∧ IdMap wr w.heap.size (pf (l.take k)) n ∧ n + ndG (l.take k) (l.drop k) = nd l ∧ Grew w wr) (fun s13 _ => l.length - (intOf s13).toNat)
  case atStart => exact ⟨0, 0, by omega, rfl, IdMap.made w, by simp [nd], by repeat (first | with_reducible exact HG.out | with_reducible exact Grew.refl _ | with_reducible assumption | with_reducible apply Grew.plus | with_reducible apply Grew.drewN | with_reducible apply Grew.drew | with_reducible apply Grew.alloc | with_reducible refine Grew.setCell ?_ (by simp [go_sem]; try omega) _)⟩
  case round =>
    obtain ⟨k, n, hk, rfl, hm, hn, hg⟩ := hrel
    have HG := Lib.hid hg
    have HM := Lib.hid hm
    have HN := Lib.hid hn
    have hBw := hm.lt
    have hnl : n ≤ 1000000 := by have := ndG_le l []; unfold nd at hn; omega
    by_cases hlt : k < l.length
    · obtain ⟨b, off, rfl, hbl, hrow⟩ := CellsIn.rowAt elRow 5 elRow_len (by omega) HA.out (by omega)
      have q := cellsAt_later hg (hrow k hlt) hbl
      have hts := Lib.hid (take_succ_get l k hlt)
      have hnd := Lib.hid (ndG_drop l k hlt)
      have hfe := Lib.hid (HF.out l[k] (List.getElem_mem hlt)).id
      have hll : (l.take k).length = k := List.length_take_of_le hk
      have hold := fun (p : Int) (h : pf (l.take k) l[k].id = some p) => pf_snoc_old h
      have hnew := fun (h : pf (l.take k) l[k].id = none) => pf_snoc_new h hll
      rw [← hts.out] at hold hnew
      have hold := Lib.hid hold
      have hnew := Lib.hid hnew
      clear hrow hg hm hn hll
      generalize l[k] = x at *
      obtain ⟨e0, e1, e2, ch, hd⟩ := x
      simp only [elRow] at q
      simp only [ElD.id] at hnd hfe hold hnew
      cases hp : pf (l.take k) ⟨e0, e1, e2⟩ with
      | some p =>
        have HP := Lib.hid hp
        clear hp
        go_wp2_with (first
          | (at_lookup; refine wpList_id_look_ok _ rfl _ _ rfl w.heap.size n (pf (l.take k)) rfl (HM.out.grew (by repeat (first | with_reducible exact HG.out | with_reducible exact Grew.refl _ | with_reducible assumption | with_reducible apply Grew.plus | with_reducible apply Grew.drewN | with_reducible apply Grew.drew | with_reducible apply Grew.alloc | with_reducible refine Grew.setCell ?_ (by simp [go_sem]; try omega) _))) ⟨e0, e1, e2⟩ rfl hfe.out ?_; rw [HP.out]))
        go_roundw
        case rel => exact ⟨k + 1, n, by omega, by go_num, by rw [hold.out p HP.out]; exact HM.out.grew (by repeat (first | with_reducible exact HG.out | with_reducible exact Grew.refl _ | with_reducible assumption | with_reducible apply Grew.plus | with_reducible apply Grew.drewN | with_reducible apply Grew.drew | with_reducible apply Grew.alloc | with_reducible refine Grew.setCell ?_ (by simp [go_sem]; try omega) _)), by have := hnd.out; simp [HP.out] at this; have h2 := HN.out; omega, HG.out.trans (by repeat (first | with_reducible exact HG.out | with_reducible exact Grew.refl _ | with_reducible assumption | with_reducible apply Grew.plus | with_reducible apply Grew.drewN | with_reducible apply Grew.drew | with_reducible apply Grew.alloc | with_reducible refine Grew.setCell ?_ (by simp [go_sem]; try omega) _))⟩
        case measure => simp [intOf]; omega
      | none =>
        have HP := Lib.hid hp
        clear hp
        go_wp2_with (first
          | (at_lookup; refine wpList_id_look_ok _ rfl _ _ rfl w.heap.size n (pf (l.take k)) rfl (HM.out.grew (by repeat (first | with_reducible exact HG.out | with_reducible exact Grew.refl _ | with_reducible assumption | with_reducible apply Grew.plus | with_reducible apply Grew.drewN | with_reducible apply Grew.drew | with_reducible apply Grew.alloc | with_reducible refine Grew.setCell ?_ (by simp [go_sem]; try omega) _))) ⟨e0, e1, e2⟩ rfl hfe.out ?_; rw [HP.out])
          | (at_mapUpdate; refine wpList_id_put _ rfl _ _ _ rfl w.heap.size n (pf (l.take k)) rfl (HM.out.grew (by repeat (first | with_reducible exact HG.out | with_reducible exact Grew.refl _ | with_reducible assumption | with_reducible apply Grew.plus | with_reducible apply Grew.drewN | with_reducible apply Grew.drew | with_reducible apply Grew.alloc | with_reducible refine Grew.setCell ?_ (by simp [go_sem]; try omega) _))) ⟨e0, e1, e2⟩ rfl hfe.out k rfl (by omega) (by omega) HP.out ?_; intro w1 hm1 hg1; have HM1 := Lib.hid hm1; have HG1 := Lib.hid hg1; clear hm1 hg1))
        go_roundw
        case rel => exact ⟨k + 1, n + 1, by omega, by go_num, by rw [hnew.out HP.out]; exact HM1.out.grew (by repeat (first | with_reducible exact HG.out | with_reducible exact Grew.refl _ | with_reducible assumption | with_reducible apply Grew.plus | with_reducible apply Grew.drewN | with_reducible apply Grew.drew | with_reducible apply Grew.alloc | with_reducible refine Grew.setCell ?_ (by simp [go_sem]; try omega) _)), by have := hnd.out; simp [HP.out] at this; have h2 := HN.out; omega, (Grew.grown (show Grew w _ from HG.out.trans (by repeat (first | with_reducible exact HG.out | with_reducible exact Grew.refl _ | with_reducible assumption | with_reducible apply Grew.plus | with_reducible apply Grew.drewN | with_reducible apply Grew.drew | with_reducible apply Grew.alloc | with_reducible refine Grew.setCell ?_ (by simp [go_sem]; try omega) _))) HG1.out (fun j e => by simp only [Option.some.injEq] at e; omega)).trans (by repeat (first | with_reducible exact HG.out | with_reducible exact Grew.refl _ | with_reducible assumption | with_reducible apply Grew.plus | with_reducible apply Grew.drewN | with_reducible apply Grew.drew | with_reducible apply Grew.alloc | with_reducible refine Grew.setCell ?_ (by simp [go_sem]; try omega) _))⟩
        case measure => simp [intOf]; omega
    · obtain rfl : k = l.length := by omega
      have hfin : pf (l.take l.length) = pf l := by rw [List.take_length]
      have hn2 : n = nd l := by rw [← hn, List.drop_length]; simp [ndG]
      subst hn2
      rw [hfin] at HM
      clear hm hn hg
      go_wp2_with (first
        | (at_len; refine wpList_id_len _ rfl _ rfl w.heap.size (nd l) (pf l) rfl (HM.out.grew (by repeat (first | with_reducible exact HG.out | with_reducible exact Grew.refl _ | with_reducible assumption | with_reducible apply Grew.plus | with_reducible apply Grew.drewN | with_reducible apply Grew.drew | with_reducible apply Grew.alloc | with_reducible refine Grew.setCell ?_ (by simp [go_sem]; try omega) _))) ?_))
      go_ret2
      exact ⟨_, rfl, Nat.le_refl _, HM.out.grew (by repeat (first | with_reducible exact HG.out | with_reducible exact Grew.refl _ | with_reducible assumption | with_reducible apply Grew.plus | with_reducible apply Grew.drewN | with_reducible apply Grew.drew | with_reducible apply Grew.alloc | with_reducible refine Grew.setCell ?_ (by simp [go_sem]; try omega) _)), HG.out.trans (by repeat (first | with_reducible exact HG.out | with_reducible exact Grew.refl _ | with_reducible assumption | with_reducible apply Grew.plus | with_reducible apply Grew.drewN | with_reducible apply Grew.drew | with_reducible apply Grew.alloc | with_reducible refine Grew.setCell ?_ (by simp [go_sem]; try omega) _))⟩

set_option maxRecDepth 100000 in
set_option maxHeartbeats 2000000 in
theorem rindex_any (l : List ElD) (a : Option Addr) (cap : Nat) (w : World) (ha : CellsIn w a (l.flatMap elRow)) (hf : ∀ e ∈ l, e.Fits) (hl : l.length ≤ 1000000) (i0 i1 i2 : Int) (hi : (IdD.mk i0 i1 i2).Fits) :
    Calls Tryz.prog 47 #[.slice a l.length cap, .agg #[.int .i64 i0, .int .i64 i1, .int .i64 i2]] w fun e w' => e = .returned (.int .i64 ((pf l ⟨i0, i1, i2⟩).getD (-1))) ∧ Grew w w' := by
  have HA := Lib.hid ha
  have HF := Lib.hid hf
  clear ha hf
  go_enter Tryz.func47, Tryz.ntmps47
  go_wp2_with fail
  go_loopw [5] (fun s5 wr => ∃ (k : Nat), k ≤ l.length ∧ s5 = .int .i64 k ∧ pf (l.take k) ⟨i0, i1, i2⟩ = none ∧ wr.heap[w.heap.size]? = some (.cells #[.int .i64 i0, .int .i64 i1, .int .i64 i2] 43 (0, 0)) ∧ Grew w wr) (fun s5 _ => l.length - (intOf s5).toNat)
  case atStart => exact ⟨0, by omega, rfl, rfl, heap_alloc_at _ _ _ rfl, by repeat (first | with_reducible exact HG.out | with_reducible exact Grew.refl _ | with_reducible assumption | with_reducible apply Grew.plus | with_reducible apply Grew.drewN | with_reducible apply Grew.drew | with_reducible apply Grew.alloc | with_reducible refine Grew.setCell ?_ (by simp [go_sem]; try omega) _)⟩
  case round =>
    obtain ⟨k, hk, rfl, hp, hb, hg⟩ := hrel
    have HG := Lib.hid hg
    have HB := Lib.hid hb
    by_cases hlt : k < l.length
    · obtain ⟨b, off, rfl, hbl, hrow⟩ := CellsIn.rowAt elRow 5 elRow_len (by omega) HA.out (by omega)
      have q := cellsAt_later hg (hrow k hlt) hbl
      have c8 := World.cellsAt_block hb 3 rfl
      have hfe := Lib.hid (HF.out l[k] (List.getElem_mem hlt)).id
      have hll : (l.take k).length = k := List.length_take_of_le hk
      have hsn : l[k].id ≠ ⟨i0, i1, i2⟩ → pf (l.take (k + 1)) ⟨i0, i1, i2⟩ = none := fun h => by
        rw [take_succ_get l k hlt, pf_snoc, hp, if_neg h]; rfl
      have hpt : l[k].id = ⟨i0, i1, i2⟩ → pf l ⟨i0, i1, i2⟩ = some (k : Int) := fun e => by
        rw [← e] at hp ⊢
        exact pf_new k hlt hp
      have hsn := Lib.hid hsn
      have hpt := Lib.hid hpt
      clear hrow hg hb hll hp
      generalize l[k] = x at *
      obtain ⟨e0, e1, e2, ch, hd⟩ := x
      simp only [elRow] at q
      simp only [ElD.id] at hfe hsn hpt
      have q3 : wr.cellsAt ⟨b, off + k * 5, none⟩ 3 = some [.int .i64 e0, .int .i64 e1, .int .i64 e2] := World.cellsAt_sub q 0 3 (by omega)
      have heq := fun W => id_eq ⟨e0, e1, e2⟩ ⟨i0, i1, i2⟩ hfe.out hi W
      simp only [IdD.val] at heq
      generalize hd : decide (IdD.mk e0 e1 e2 = ⟨i0, i1, i2⟩) = d at heq
      have HD := Lib.hid hd
      clear hd
      go_wp2_with fail
      refine wp_region_plus (by kernel_rfl) (by kernel_rfl) ?_
      repeat (go_big_quiet_step ((first | fail)))
      refine wpQuiet_nil ?_
      intro _ hw'
      obtain ⟨nx, rfl⟩ := hw'
      cases d
      case true =>
        go_wp2_with fail
        go_ret
        exact ⟨by rw [hpt.out (of_decide_eq_true HD.out)]; rfl, HG.out.trans (by repeat (first | with_reducible exact HG.out | with_reducible exact Grew.refl _ | with_reducible assumption | with_reducible apply Grew.plus | with_reducible apply Grew.drewN | with_reducible apply Grew.drew | with_reducible apply Grew.alloc | with_reducible refine Grew.setCell ?_ (by simp [go_sem]; try omega) _))⟩
      case false =>
        go_wp2_with fail
        go_roundw
        case rel => exact ⟨k + 1, by omega, by go_num, hsn.out (of_decide_eq_false HD.out), Grew.heap (show Grew wr _ from by repeat (first | with_reducible exact HG.out | with_reducible exact Grew.refl _ | with_reducible assumption | with_reducible apply Grew.plus | with_reducible apply Grew.drewN | with_reducible apply Grew.drew | with_reducible apply Grew.alloc | with_reducible refine Grew.setCell ?_ (by simp [go_sem]; try omega) _)) HB.out, HG.out.trans (by repeat (first | with_reducible exact HG.out | with_reducible exact Grew.refl _ | with_reducible assumption | with_reducible apply Grew.plus | with_reducible apply Grew.drewN | with_reducible apply Grew.drew | with_reducible apply Grew.alloc | with_reducible refine Grew.setCell ?_ (by simp [go_sem]; try omega) _))⟩
        case measure => simp [intOf]; omega
    · obtain rfl : k = l.length := by omega
      rw [List.take_length] at hp
      have HP := Lib.hid hp
      clear hb hg hp
      go_wp2_with fail
      go_ret
      exact ⟨by rw [HP.out]; rfl, HG.out.trans (by repeat (first | with_reducible exact HG.out | with_reducible exact Grew.refl _ | with_reducible assumption | with_reducible apply Grew.plus | with_reducible apply Grew.drewN | with_reducible apply Grew.drew | with_reducible apply Grew.alloc | with_reducible refine Grew.setCell ?_ (by simp [go_sem]; try omega) _))⟩
end Go.Proofs.YtofijhejpgjopaaGreatDoor
