/- Walks: Ordered, the program's and the document's. -/
import Derived.Test.YtofijhejpgjopaaGreatDoorOrdG
namespace Go
/-- A list of elements as it lies in memory. -/
structure ElsAt where
  a : Option Addr
  cap : Nat
  xs : List ElD
abbrev slRow (t : ElsAt) : List Value := [.slice t.a t.xs.length t.cap]
theorem slRow_len (t : ElsAt) : (slRow t).length = 1 := rfl
def ElsAt.Ok (w : World) (t : ElsAt) : Prop := CellsIn w t.a (t.xs.flatMap elRow) ∧ (∀ e ∈ t.xs, e.Fits) ∧ t.xs.length ≤ 1000000
theorem ElsAt.Ok.grew {w w' : World} {t : ElsAt} (h : t.Ok w) (hg : Grew w w') : t.Ok w' := ⟨h.1.grew hg, h.2⟩
end Go
namespace Go.Proofs.YtofijhejpgjopaaGreatDoor
open Go.RowKit Go.Maps
set_option linter.unusedSimpArgs false
set_option linter.unusedVariables false

set_option maxRecDepth 100000 in
set_option maxHeartbeats 4000000 in
theorem ordered_any (L : List ElsAt) (a : Option Addr) (cap : Nat) (w : World) (ha : CellsIn w a (L.flatMap slRow)) (hL : ∀ t ∈ L, t.Ok w) (hl : L.length ≤ 1000) (hcap : L.length ≤ cap) (hm : cap ≤ 9223372036854775807) :
    Calls Tryz.prog 21 #[.slice a L.length cap] w fun e w' => e = .returned (.bool (ordF (L.map ElsAt.xs))) ∧ Grew w w' := by
  have HA := Lib.hid ha
  have HL := Lib.hid hL
  clear ha hL
  go_enter Tryz.func21, Tryz.ntmps21
  go_wp2_with fail
  go_loopw [14] (fun s14 wr => ∃ (i : Nat), i ≤ L.length ∧ s14 = .int .i64 i ∧ ordF (L.map ElsAt.xs) = ordG ((L.map ElsAt.xs).take i) ((L.map ElsAt.xs).drop i) ∧ Grew w wr) (fun s14 _ => L.length - (intOf s14).toNat)
  case atStart => exact ⟨0, by omega, rfl, rfl, by repeat (first | with_reducible exact HG.out | with_reducible exact Grew.refl _ | with_reducible assumption | with_reducible apply Grew.plus | with_reducible apply Grew.drewN | with_reducible apply Grew.drew | with_reducible apply Grew.alloc | with_reducible refine Grew.setCell ?_ (by simp [go_sem]; try omega) _)⟩
  case round =>
    obtain ⟨i, hi, rfl, ho, hg⟩ := hrel
    have HG := Lib.hid hg
    by_cases hlt : i < L.length
    · obtain ⟨b, off, rfl, hbl, hrow⟩ := CellsIn.rowAt slRow 1 slRow_len (by omega) HA.out (by omega)
      have q := cellsAt_later hg (hrow i hlt) hbl
      have q0 : wr.cell? ⟨b, off + i, none⟩ = some (.slice L[i].a L[i].xs.length L[i].cap) := by
        have := World.cellsAt_cell q 0 (by omega)
        rw [Nat.mul_one, Nat.add_zero] at this
        exact this
      have hok := (HL.out L[i] (List.getElem_mem hlt)).grew hg
      have hiM : i < (L.map ElsAt.xs).length := by rw [List.length_map]; exact hlt
      rw [ordG_drop _ i hiM, List.getElem_map] at ho
      have HP := Lib.hid (fun W (hW : Grew wr W) => places_any L[i].xs L[i].a L[i].cap W (hok.1.grew hW) hok.2.1 hok.2.2)
      have HFI := Lib.hid (fun (t : ElsAt) (ht : t ∈ L) W (hW : Grew wr W) => first_any L[i].xs t.xs L[i].a t.a L[i].cap t.cap W (hok.1.grew hW) (((HL.out t ht).grew hg).1.grew hW) hok.2.1 (HL.out t ht).2.1 hok.2.2 (HL.out t ht).2.2)
      have HR := Lib.hid hrow
      clear q hok hrow
      by_cases honce : nd L[i].xs = L[i].xs.length
      · have g1 : ((nd L[i].xs : Int) == (L[i].xs.length : Int)) = true := by rw [beq_iff_eq]; omega
        rw [decide_eq_true honce, Bool.true_and] at ho
        obtain ⟨t, ht⟩ : ∃ t, t = L[i] := ⟨_, rfl⟩
        rw [← ht] at q0 g1 HP ho HFI
        obtain ⟨ta, tc, tx⟩ := t
        simp only at q0 g1 HP ho HFI
        rw [g1] at HP
        have HO := Lib.hid ho
        clear ho hg honce ht
        go_wp2_with (go_at_call 44; refine (HP.out _ (by repeat (first | with_reducible exact HG.out | with_reducible exact Grew.refl _ | with_reducible assumption | with_reducible apply Grew.plus | with_reducible apply Grew.drewN | with_reducible apply Grew.drew | with_reducible apply Grew.alloc | with_reducible refine Grew.setCell ?_ (by simp [go_sem]; try omega) _))).mono ?_; rintro e w1 ⟨B1, rfl, hB1, hm1, hg1⟩; have HG1 := Lib.hid (Grew.trans (show Grew wr _ from by repeat (first | with_reducible exact HG.out | with_reducible exact Grew.refl _ | with_reducible assumption | with_reducible apply Grew.plus | with_reducible apply Grew.drewN | with_reducible apply Grew.drew | with_reducible apply Grew.alloc | with_reducible refine Grew.setCell ?_ (by simp [go_sem]; try omega) _)) hg1); clear hB1 hm1 hg1)
        obtain ⟨wo, hwo⟩ : ∃ wo : World, wo = wr := ⟨_, rfl⟩
        subst hwo
        go_loopw [30] (fun s30 wr => ∃ (k : Nat), k ≤ i ∧ s30 = .int .i64 k ∧ ordF (L.map ElsAt.xs) = ((((L.map ElsAt.xs).take i).drop k).all (fun b => (fp (sh tx b)).isNone) && ordG ((L.map ElsAt.xs).take (i + 1)) ((L.map ElsAt.xs).drop (i + 1))) ∧ Grew wo wr) (fun s30 _ => i - (intOf s30).toNat)
        case atStart => exact ⟨0, by omega, rfl, by rw [HO.out]; rfl, HG1.out⟩
        case round =>
          obtain ⟨k, hk, rfl, ho, hgk⟩ := hrel
          have HGK := Lib.hid hgk
          by_cases hlk : k < i
          · have hkM : k < ((L.map ElsAt.xs).take i).length := by rw [List.length_take, List.length_map]; omega
            have hkL : k < L.length := by omega
            have q := cellsAt_later (HG.out.trans hgk) (HR.out k hkL) hbl
            have p0 : wr.cell? ⟨b, off + k, none⟩ = some (.slice L[k].a L[k].xs.length L[k].cap) := by
              have := World.cellsAt_cell q 0 (by omega)
              rw [Nat.mul_one, Nat.add_zero] at this
              exact this
            rw [List.drop_eq_getElem_cons hkM, List.all_cons, List.getElem_take, List.getElem_map] at ho
            have HFK := Lib.hid (HFI.out L[k] (List.getElem_mem hkL))
            clear q hgk
            obtain ⟨u, hu⟩ : ∃ u, u = L[k] := ⟨_, rfl⟩
            rw [← hu] at p0 ho HFK
            clear hu
            obtain ⟨ua, uc, ux⟩ := u
            simp only at p0 ho HFK
            cases hfp : fp (sh tx ux) with
            | none =>
              simp only [hfp, fpVal, IdD.val] at HFK
              rw [hfp] at ho
              simp only [Option.isNone_none, Bool.true_and] at ho
              have HO' := Lib.hid ho
              clear ho hfp
              go_wp2_with (go_at_call 23; refine (HFK.out _ (HGK.out.trans (by repeat (first | with_reducible exact HG.out | with_reducible exact Grew.refl _ | with_reducible assumption | with_reducible apply Grew.plus | with_reducible apply Grew.drewN | with_reducible apply Grew.drew | with_reducible apply Grew.alloc | with_reducible refine Grew.setCell ?_ (by simp [go_sem]; try omega) _)))).mono ?_; rintro e w2 ⟨rfl, hg2⟩; have HG2 := Lib.hid (HGK.out.trans (Grew.trans (show Grew wr _ from by repeat (first | with_reducible exact HG.out | with_reducible exact Grew.refl _ | with_reducible assumption | with_reducible apply Grew.plus | with_reducible apply Grew.drewN | with_reducible apply Grew.drew | with_reducible apply Grew.alloc | with_reducible refine Grew.setCell ?_ (by simp [go_sem]; try omega) _)) hg2)); clear hg2)
              go_roundw
              case rel => exact ⟨k + 1, by omega, by go_num, HO'.out, HG2.out.trans (by repeat (first | with_reducible exact HG.out | with_reducible exact Grew.refl _ | with_reducible assumption | with_reducible apply Grew.plus | with_reducible apply Grew.drewN | with_reducible apply Grew.drew | with_reducible apply Grew.alloc | with_reducible refine Grew.setCell ?_ (by simp [go_sem]; try omega) _))⟩
              case measure => simp [intOf] <;> omega
            | some xy =>
              obtain ⟨x, y⟩ := xy
              simp only [hfp, fpVal, IdD.val] at HFK
              rw [hfp] at ho
              simp only [Option.isNone_some, Bool.false_and] at ho
              have HO' := Lib.hid ho
              clear ho hfp
              go_wp2_with (go_at_call 23; refine (HFK.out _ (HGK.out.trans (by repeat (first | with_reducible exact HG.out | with_reducible exact Grew.refl _ | with_reducible assumption | with_reducible apply Grew.plus | with_reducible apply Grew.drewN | with_reducible apply Grew.drew | with_reducible apply Grew.alloc | with_reducible refine Grew.setCell ?_ (by simp [go_sem]; try omega) _)))).mono ?_; rintro e w2 ⟨rfl, hg2⟩; have HG2 := Lib.hid (HGK.out.trans (Grew.trans (show Grew wr _ from by repeat (first | with_reducible exact HG.out | with_reducible exact Grew.refl _ | with_reducible assumption | with_reducible apply Grew.plus | with_reducible apply Grew.drewN | with_reducible apply Grew.drew | with_reducible apply Grew.alloc | with_reducible refine Grew.setCell ?_ (by simp [go_sem]; try omega) _)) hg2)); clear hg2)
              go_ret
              exact ⟨by rw [HO'.out]; rfl, HG.out.trans (HG2.out.trans (by repeat (first | with_reducible exact HG.out | with_reducible exact Grew.refl _ | with_reducible assumption | with_reducible apply Grew.plus | with_reducible apply Grew.drewN | with_reducible apply Grew.drew | with_reducible apply Grew.alloc | with_reducible refine Grew.setCell ?_ (by simp [go_sem]; try omega) _)))⟩
          · obtain rfl : k = i := by omega
            rw [List.drop_of_length_le (by rw [List.length_take]; omega)] at ho
            simp only [List.all_nil, Bool.true_and] at ho
            have HO' := Lib.hid ho
            clear ho hgk
            go_wp2_with fail
            go_roundw
            case rel => exact ⟨k + 1, by omega, by go_num, HO'.out, HG.out.trans (HGK.out.trans (by repeat (first | with_reducible exact HG.out | with_reducible exact Grew.refl _ | with_reducible assumption | with_reducible apply Grew.plus | with_reducible apply Grew.drewN | with_reducible apply Grew.drew | with_reducible apply Grew.alloc | with_reducible refine Grew.setCell ?_ (by simp [go_sem]; try omega) _)))⟩
            case measure => simp [intOf] <;> omega
      · have g1 : ((nd L[i].xs : Int) == (L[i].xs.length : Int)) = false := by rw [beq_eq_false_iff_ne]; omega
        have hres : ordF (L.map ElsAt.xs) = false := by rw [ho, decide_eq_false honce]; rfl
        have HRES := Lib.hid hres
        clear ho hres hg honce
        generalize L[i] = t at *
        obtain ⟨ta, tc, tx⟩ := t
        simp only at q0 g1 HP
        rw [g1] at HP
        go_wp2_with (go_at_call 44; refine (HP.out _ (by repeat (first | with_reducible exact HG.out | with_reducible exact Grew.refl _ | with_reducible assumption | with_reducible apply Grew.plus | with_reducible apply Grew.drewN | with_reducible apply Grew.drew | with_reducible apply Grew.alloc | with_reducible refine Grew.setCell ?_ (by simp [go_sem]; try omega) _))).mono ?_; rintro e w1 ⟨B1, rfl, hB1, hm1, hg1⟩; have HG1 := Lib.hid (HG.out.trans (Grew.trans (show Grew wr _ from by repeat (first | with_reducible exact HG.out | with_reducible exact Grew.refl _ | with_reducible assumption | with_reducible apply Grew.plus | with_reducible apply Grew.drewN | with_reducible apply Grew.drew | with_reducible apply Grew.alloc | with_reducible refine Grew.setCell ?_ (by simp [go_sem]; try omega) _)) hg1)); clear hB1 hm1 hg1)
        go_ret
        exact ⟨by rw [HRES.out]; rfl, HG1.out.trans (by repeat (first | with_reducible exact HG.out | with_reducible exact Grew.refl _ | with_reducible assumption | with_reducible apply Grew.plus | with_reducible apply Grew.drewN | with_reducible apply Grew.drew | with_reducible apply Grew.alloc | with_reducible refine Grew.setCell ?_ (by simp [go_sem]; try omega) _))⟩
    · obtain rfl : i = L.length := by omega
      rw [List.drop_of_length_le (by rw [List.length_map]; exact Nat.le_refl _)] at ho
      simp only [ordG] at ho
      have HO := Lib.hid ho
      clear ho hg
      go_wp2_with fail
      go_ret
      exact ⟨by rw [HO.out]; rfl, HG.out.trans (by repeat (first | with_reducible exact HG.out | with_reducible exact Grew.refl _ | with_reducible assumption | with_reducible apply Grew.plus | with_reducible apply Grew.drewN | with_reducible apply Grew.drew | with_reducible apply Grew.alloc | with_reducible refine Grew.setCell ?_ (by simp [go_sem]; try omega) _))⟩
end Go.Proofs.YtofijhejpgjopaaGreatDoor
