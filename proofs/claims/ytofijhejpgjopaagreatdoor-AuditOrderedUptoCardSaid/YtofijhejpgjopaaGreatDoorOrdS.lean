/- Walks: audit.Shared (it ranges over a map). -/
import Derived.Test.YtofijhejpgjopaaGreatDoorOrdR
import Derived.Test.YtofijhejpgjopaaGreatDoorIdr
namespace Go.Proofs.YtofijhejpgjopaaGreatDoor
open Go.RowKit Go.Maps
set_option linter.unusedSimpArgs false
set_option linter.unusedVariables false

set_option maxRecDepth 100000 in
set_option maxHeartbeats 4000000 in
theorem shared_any (l m : List ElD) (a b : Option Addr) (ca cb : Nat) (w : World) (ha : CellsIn w a (l.flatMap elRow)) (hb : CellsIn w b (m.flatMap elRow)) (hf : ∀ e ∈ l, e.Fits) (hfm : ∀ e ∈ m, e.Fits) (hl : l.length ≤ 1000000) (hm : m.length ≤ 1000000) :
    Calls Tryz.prog 25 #[.slice a l.length ca, .slice b m.length cb] w fun e w' => e = .returned (.int .i64 (sh l m).length) ∧ Grew w w' := by
  have HI := Lib.hid (fun W (hW : Grew w W) => places_any l a ca W (ha.grew hW) hf hl)
  have HJ := Lib.hid (fun W (hW : Grew w W) => places_any m b cb W (hb.grew hW) hfm hm)
  have hlen : (sh l m).length ≤ 1000000 := Nat.le_trans (shG_len m l []) hl
  have HS := Lib.hid (fun x (hx : x ∈ (sh l m).map Prod.fst) => show x.Fits by
    obtain ⟨e, he, rfl⟩ := (pf_isSome l x).1 ((mem_shIds l m x).1 hx).1
    exact (hf e he).id)
  clear ha hf hb hfm
  generalize l.length = ll at *
  generalize m.length = ml at *
  go_enter Tryz.func25, Tryz.ntmps25
  go_wp2_with (first
    | (go_at_call 44; (first
        | ((with_reducible refine (HI.out _ (by repeat (first | with_reducible exact HG.out | with_reducible exact Grew.refl _ | with_reducible assumption | with_reducible apply Grew.plus | with_reducible apply Grew.drewN | with_reducible apply Grew.drew | with_reducible apply Grew.alloc | with_reducible refine Grew.setCell ?_ (by simp [go_sem]; try omega) _))).mono ?_); rintro e w1 ⟨B1, rfl, hB1, hm1, hg1⟩; have HM1 := Lib.hid hm1; have HG1 := Lib.hid (Grew.trans (show Grew w _ from by repeat (first | with_reducible exact HG.out | with_reducible exact Grew.refl _ | with_reducible assumption | with_reducible apply Grew.plus | with_reducible apply Grew.drewN | with_reducible apply Grew.drew | with_reducible apply Grew.alloc | with_reducible refine Grew.setCell ?_ (by simp [go_sem]; try omega) _)) hg1); clear hg1 hm1)
        | ((with_reducible refine (HJ.out _ (HG1.out.trans (by repeat (first | with_reducible exact HG.out | with_reducible exact Grew.refl _ | with_reducible assumption | with_reducible apply Grew.plus | with_reducible apply Grew.drewN | with_reducible apply Grew.drew | with_reducible apply Grew.alloc | with_reducible refine Grew.setCell ?_ (by simp [go_sem]; try omega) _)))).mono ?_); rintro e w2 ⟨B2, rfl, hB2, hm2, hg2⟩; have HM2 := Lib.hid hm2; have HG12 := Lib.hid hg2; have HG2 := Lib.hid (HG1.out.trans (Grew.trans (show Grew w1 _ from by repeat (first | with_reducible exact HG.out | with_reducible exact Grew.refl _ | with_reducible assumption | with_reducible apply Grew.plus | with_reducible apply Grew.drewN | with_reducible apply Grew.drew | with_reducible apply Grew.alloc | with_reducible refine Grew.setCell ?_ (by simp [go_sem]; try omega) _)) hg2)); clear hg2 hm2)))
    | (at_range; refine wpList_id_range _ rfl _ rfl B1 (nd l) (pf l) rfl (HM1.out.grew (HG12.out.trans (by repeat (first | with_reducible exact HG.out | with_reducible exact Grew.refl _ | with_reducible assumption | with_reducible apply Grew.plus | with_reducible apply Grew.drewN | with_reducible apply Grew.drew | with_reducible apply Grew.alloc | with_reducible refine Grew.setCell ?_ (by simp [go_sem]; try omega) _)))) ?_; intro w3 hr3 hg3))
  go_frame
  have hB2l := HM2.out.lt
  have hw2 := HG2.out.size
  have hlenI : ((sh l m).map Prod.fst).length ≤ 1000000 := by rw [List.length_map]; exact hlen
  have hst : ((sh l m).map Prod.fst).countP (fun x => !(pf l x).isSome) = 0 := countP_none _ _ (fun x hx => by rw [((mem_shIds l m x).1 hx).1]; rfl)
  have hnod := Lib.hid (sh_nodup l m)
  have hmem := Lib.hid (fun x => mem_shIds l m x)
  have hfin : ((sh l m).map Prod.fst).length = (sh l m).length := List.length_map _
  have HFIN := Lib.hid hfin
  clear hfin
  generalize (sh l m).map Prod.fst = SS at *
  go_loopw [9] (fun s9 wr => ∃ (left : IdD → Bool) (cnt : Nat), IdRange wr B1 w2.heap.size (pf l) left (nd l) cnt ∧ (∀ x, left x = true → (pf l x).isSome = true) ∧ s9 = .int .i64 (SS.countP (fun x => !left x)) ∧ IdMap wr B2 (pf m) (nd m) ∧ Grew w wr) (fun _ wr => wr.rangeLeft B1 w2.heap.size)
  case atStart => exact ⟨_, _, hr3, fun x h => h, by rw [hst]; rfl, HM2.out.grew hg3, HG2.out.trans hg3⟩
  case round =>
    obtain ⟨left, cnt, hr, hlf, rfl, hm, hg⟩ := hrel
    have hcl : SS.countP (fun x => !left x) ≤ SS.length := List.countP_le_length
    have HR := Lib.hid hr
    have HL := Lib.hid hlf
    have HM := Lib.hid hm
    have HG := Lib.hid hg
    clear hr hlf hm hg
    go_wp2_with (first
      | (at_next; refine wpList_id_next _ rfl _ rfl B1 w2.heap.size (nd l) cnt (pf l) left rfl HR.out ?_ ?_))
    · intro h0
      have hall : SS.countP (fun x => !left x) = (sh l m).length := by
        rw [← HFIN.out, List.countP_eq_length]
        intro x hx
        rw [h0 x (HS.out x hx)]; rfl
      have HALL := Lib.hid hall
      clear h0 hall
      go_wp2_with fail
      go_ret
      exact ⟨by rw [HALL.out]; rfl, HG.out.trans (by repeat (first | with_reducible exact HG.out | with_reducible exact Grew.refl _ | with_reducible assumption | with_reducible apply Grew.plus | with_reducible apply Grew.drewN | with_reducible apply Grew.drew | with_reducible apply Grew.alloc | with_reducible refine Grew.setCell ?_ (by simp [go_sem]; try omega) _))⟩
    · intro x c w4 cnt4 hx hlx hr4 hlt hg4 hs4 hen
      have HR4 := Lib.hid hr4
      have hstep := met_step left x hlx SS hnod.out
      have HL4 := Lib.hid (fun y (h : (left y && !decide (y = x)) = true) => HL.out y (by simp only [Bool.and_eq_true] at h; exact h.1))
      have HM4 := Lib.hid (HM.out.keep (hg4.block B2 HM.out.lt (by simp only [ne_eq, Option.some.injEq]; omega)))
      have HG4 := Lib.hid (Grew.grown HG.out hg4 (fun j e => by simp only [Option.some.injEq] at e; omega))
      have hxl := HL.out x hlx
      have hmm := hmem.out x
      obtain ⟨x0, x1, x2⟩ := x
      simp only [IdD.val] at hen
      cases hp : pf m ⟨x0, x1, x2⟩ with
      | some p =>
        rw [if_pos (hmm.2 ⟨hxl, by rw [hp]; rfl⟩)] at hstep
        have HST := Lib.hid hstep
        have HP := Lib.hid hp
        clear hr4 hg4 hstep hp hmm hxl hlx
        go_wp2_with (first
          | (at_lookup; refine wpList_id_look_ok _ rfl _ _ rfl B2 (nd m) (pf m) rfl (HM4.out.grew (by repeat (first | with_reducible exact HG.out | with_reducible exact Grew.refl _ | with_reducible assumption | with_reducible apply Grew.plus | with_reducible apply Grew.drewN | with_reducible apply Grew.drew | with_reducible apply Grew.alloc | with_reducible refine Grew.setCell ?_ (by simp [go_sem]; try omega) _))) ⟨x0, x1, x2⟩ rfl hx ?_; rw [HP.out]))
        go_roundw
        case rel => exact ⟨_, cnt4, HR4.out.grew (by repeat (first | with_reducible exact HG.out | with_reducible exact Grew.refl _ | with_reducible assumption | with_reducible apply Grew.plus | with_reducible apply Grew.drewN | with_reducible apply Grew.drew | with_reducible apply Grew.alloc | with_reducible refine Grew.setCell ?_ (by simp [go_sem]; try omega) _)), HL4.out, by rw [HST.out]; go_num, HM4.out.grew (by repeat (first | with_reducible exact HG.out | with_reducible exact Grew.refl _ | with_reducible assumption | with_reducible apply Grew.plus | with_reducible apply Grew.drewN | with_reducible apply Grew.drew | with_reducible apply Grew.alloc | with_reducible refine Grew.setCell ?_ (by simp [go_sem]; try omega) _)), HG4.out.trans (by repeat (first | with_reducible exact HG.out | with_reducible exact Grew.refl _ | with_reducible assumption | with_reducible apply Grew.plus | with_reducible apply Grew.drewN | with_reducible apply Grew.drew | with_reducible apply Grew.alloc | with_reducible refine Grew.setCell ?_ (by simp [go_sem]; try omega) _))⟩
        case measure => rw [(HR4.out.grew (by repeat (first | with_reducible exact HG.out | with_reducible exact Grew.refl _ | with_reducible assumption | with_reducible apply Grew.plus | with_reducible apply Grew.drewN | with_reducible apply Grew.drew | with_reducible apply Grew.alloc | with_reducible refine Grew.setCell ?_ (by simp [go_sem]; try omega) _))).left_eq, HR.out.left_eq]; exact hlt
      | none =>
        rw [if_neg (fun h => by have := (hmm.1 h).2; rw [hp] at this; cases this)] at hstep
        have HST := Lib.hid hstep
        have HP := Lib.hid hp
        clear hr4 hg4 hstep hp hmm hxl hlx
        go_wp2_with (first
          | (at_lookup; refine wpList_id_look_ok _ rfl _ _ rfl B2 (nd m) (pf m) rfl (HM4.out.grew (by repeat (first | with_reducible exact HG.out | with_reducible exact Grew.refl _ | with_reducible assumption | with_reducible apply Grew.plus | with_reducible apply Grew.drewN | with_reducible apply Grew.drew | with_reducible apply Grew.alloc | with_reducible refine Grew.setCell ?_ (by simp [go_sem]; try omega) _))) ⟨x0, x1, x2⟩ rfl hx ?_; rw [HP.out]))
        go_roundw
        case rel => exact ⟨_, cnt4, HR4.out.grew (by repeat (first | with_reducible exact HG.out | with_reducible exact Grew.refl _ | with_reducible assumption | with_reducible apply Grew.plus | with_reducible apply Grew.drewN | with_reducible apply Grew.drew | with_reducible apply Grew.alloc | with_reducible refine Grew.setCell ?_ (by simp [go_sem]; try omega) _)), HL4.out, by rw [HST.out]; rfl, HM4.out.grew (by repeat (first | with_reducible exact HG.out | with_reducible exact Grew.refl _ | with_reducible assumption | with_reducible apply Grew.plus | with_reducible apply Grew.drewN | with_reducible apply Grew.drew | with_reducible apply Grew.alloc | with_reducible refine Grew.setCell ?_ (by simp [go_sem]; try omega) _)), HG4.out.trans (by repeat (first | with_reducible exact HG.out | with_reducible exact Grew.refl _ | with_reducible assumption | with_reducible apply Grew.plus | with_reducible apply Grew.drewN | with_reducible apply Grew.drew | with_reducible apply Grew.alloc | with_reducible refine Grew.setCell ?_ (by simp [go_sem]; try omega) _))⟩
        case measure => rw [(HR4.out.grew (by repeat (first | with_reducible exact HG.out | with_reducible exact Grew.refl _ | with_reducible assumption | with_reducible apply Grew.plus | with_reducible apply Grew.drewN | with_reducible apply Grew.drew | with_reducible apply Grew.alloc | with_reducible refine Grew.setCell ?_ (by simp [go_sem]; try omega) _))).left_eq, HR.out.left_eq]; exact hlt
end Go.Proofs.YtofijhejpgjopaaGreatDoor
