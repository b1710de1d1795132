/- Walks: the document's Ordered. -/
import Derived.Test.YtofijhejpgjopaaGreatDoorOrdO
namespace Go.Proofs.YtofijhejpgjopaaGreatDoor
open Go.RowKit Go.Maps
set_option linter.unusedSimpArgs false
set_option linter.unusedVariables false

theorem fpVal_parts (r : Option (IdD × IdD)) : ∃ x0 x1 x2 y0 y1 y2 : Int, fpVal r = .tuple #[.agg #[.int .i64 x0, .int .i64 x1, .int .i64 x2], .agg #[.int .i64 y0, .int .i64 y1, .int .i64 y2], .bool r.isSome] := by
  cases r with
  | none => exact ⟨0, 0, 0, 0, 0, 0, rfl⟩
  | some xy => exact ⟨_, _, _, _, _, _, rfl⟩

set_option maxRecDepth 100000 in
set_option maxHeartbeats 4000000 in
theorem rordered_any (L : List ElsAt) (a : Option Addr) (cap : Nat) (w : World) (ha : CellsIn w a (L.flatMap slRow)) (hL : ∀ t ∈ L, t.Ok w) (hl : L.length ≤ 1000) (hcap : L.length ≤ cap) (hm : cap ≤ 9223372036854775807) :
    Calls Tryz.prog 22 #[.slice a L.length cap] w fun e w' => e = .returned (.bool (ordF (L.map ElsAt.xs))) ∧ Grew w w' := by
  have HA := Lib.hid ha
  have HL := Lib.hid hL
  clear ha hL
  go_enter Tryz.func22, Tryz.ntmps22
  go_wp2_with fail
  go_loopw [3] (fun s3 wr => ∃ (i : Nat), i ≤ L.length ∧ s3 = .int .i64 i ∧ ordF (L.map ElsAt.xs) = ordG ((L.map ElsAt.xs).take i) ((L.map ElsAt.xs).drop i) ∧ Grew w wr) (fun s3 _ => L.length - (intOf s3).toNat)
  case atStart => exact ⟨0, by omega, rfl, rfl, by repeat (first | with_reducible exact HG.out | with_reducible exact Grew.refl _ | with_reducible assumption | with_reducible apply Grew.plus | with_reducible apply Grew.drewN | with_reducible apply Grew.drew | with_reducible apply Grew.alloc | with_reducible refine Grew.setCell ?_ (by simp [go_sem]; try omega) _)⟩
  case round =>
    obtain ⟨i, hi, rfl, ho, hg⟩ := hrel
    have HG := Lib.hid hg
    by_cases hlt : i < L.length
    · obtain ⟨b, off, rfl, hbl, hrow⟩ := CellsIn.rowAt slRow 1 slRow_len (by omega) HA.out (by omega)
      have q := cellsAt_later hg (hrow i hlt) hbl
      have q0 : wr.cell? ⟨b, off + i, none⟩ = some (.slice L[i].a L[i].xs.length L[i].cap) := by
        have := World.cellsAt_cell q 0 (by omega)
        rw [Nat.mul_one, Nat.add_zero] at this
        exact this
      have hok := (HL.out L[i] (List.getElem_mem hlt)).grew hg
      have hiM : i < (L.map ElsAt.xs).length := by rw [List.length_map]; exact hlt
      rw [ordG_drop _ i hiM, List.getElem_map] at ho
      have HP := Lib.hid (fun W (hW : Grew wr W) => rtwice_any L[i].xs L[i].a L[i].cap W (hok.1.grew hW) hok.2.1 hok.2.2)
      have HFI := Lib.hid (fun (t : ElsAt) (ht : t ∈ L) W (hW : Grew wr W) => rfirst_any L[i].xs t.xs L[i].a t.a L[i].cap t.cap W (hok.1.grew hW) (((HL.out t ht).grew hg).1.grew hW) hok.2.1 (HL.out t ht).2.1 hok.2.2 (HL.out t ht).2.2)
      have HR := Lib.hid hrow
      clear q hok hrow
      by_cases honce : nd L[i].xs = L[i].xs.length
      · have g1 : (!decide (nd L[i].xs = L[i].xs.length)) = false := by simp [honce]
        rw [decide_eq_true honce, Bool.true_and] at ho
        obtain ⟨t, ht⟩ : ∃ t, t = L[i] := ⟨_, rfl⟩
        rw [← ht] at q0 g1 HP ho HFI
        have HTI := Lib.hid ht
        obtain ⟨ta, tc, tx⟩ := t
        simp only at q0 g1 HP ho HFI
        rw [g1] at HP
        have HO := Lib.hid ho
        clear ho hg honce ht
        go_wp2_with (go_at_call 27; refine (HP.out _ (by repeat (first | with_reducible exact HG.out | with_reducible exact Grew.refl _ | with_reducible assumption | with_reducible apply Grew.plus | with_reducible apply Grew.drewN | with_reducible apply Grew.drew | with_reducible apply Grew.alloc | with_reducible refine Grew.setCell ?_ (by simp [go_sem]; try omega) _))).mono ?_; rintro e w1 ⟨rfl, hg1⟩; have HG1 := Lib.hid (Grew.trans (show Grew wr _ from by repeat (first | with_reducible exact HG.out | with_reducible exact Grew.refl _ | with_reducible assumption | with_reducible apply Grew.plus | with_reducible apply Grew.drewN | with_reducible apply Grew.drew | with_reducible apply Grew.alloc | with_reducible refine Grew.setCell ?_ (by simp [go_sem]; try omega) _)) hg1); clear hg1)
        obtain ⟨wo, hwo⟩ : ∃ wo : World, wo = wr := ⟨_, rfl⟩
        subst hwo
        go_loopw [4] (fun s4 wr => ∃ (k : Nat), k ≤ i ∧ s4 = .int .i64 k ∧ ordF (L.map ElsAt.xs) = ((((L.map ElsAt.xs).take i).drop k).all (fun b => (fp (sh tx b)).isNone) && ordG ((L.map ElsAt.xs).take (i + 1)) ((L.map ElsAt.xs).drop (i + 1))) ∧ Grew wo wr) (fun s4 _ => i - (intOf s4).toNat)
        case atStart => exact ⟨0, by omega, rfl, by rw [HO.out]; rfl, HG1.out⟩
        case round =>
          obtain ⟨k, hk, rfl, ho, hgk⟩ := hrel
          have HGK := Lib.hid hgk
          by_cases hlk : k < i
          · have hkM : k < ((L.map ElsAt.xs).take i).length := by rw [List.length_take, List.length_map]; omega
            have hkL : k < L.length := by omega
            have q := cellsAt_later (HG.out.trans hgk) (HR.out k hkL) hbl
            have p0 : wr.cell? ⟨b, off + k, none⟩ = some (.slice L[k].a L[k].xs.length L[k].cap) := by
              have := World.cellsAt_cell q 0 (by omega)
              rw [Nat.mul_one, Nat.add_zero] at this
              exact this
            have r := cellsAt_later (HG.out.trans hgk) (HR.out i hlt) hbl
            have r0 : wr.cell? ⟨b, off + i, none⟩ = some (.slice ta tx.length tc) := by
              have := World.cellsAt_cell r 0 (by omega)
              rw [Nat.mul_one, Nat.add_zero, ← HTI.out] at this
              exact this
            rw [List.drop_eq_getElem_cons hkM, List.all_cons, List.getElem_take, List.getElem_map] at ho
            have HFK := Lib.hid (HFI.out L[k] (List.getElem_mem hkL))
            have hcell : ∀ (j : Nat) (hj : j < L.length) (W : World), Grew w W → W.cell? ⟨b, off + j, none⟩ = some (.slice L[j].a L[j].xs.length L[j].cap) := fun j hj W hW => by
              have q := cellsAt_later hW (HR.out j hj) hbl
              have := World.cellsAt_cell q 0 (by omega)
              rw [Nat.mul_one, Nat.add_zero] at this
              exact this
            have hc2 : ∀ W, Grew wr W → W.cell? ⟨b, off + i, none⟩ = some (.slice ta tx.length tc) ∧ W.cell? ⟨b, off + k, none⟩ = some (.slice L[k].a L[k].xs.length L[k].cap) := fun W hW => by
              have h1 := hcell i hlt W (HG.out.trans (hgk.trans hW))
              rw [← HTI.out] at h1
              exact ⟨h1, hcell k hkL W (HG.out.trans (hgk.trans hW))⟩
            clear q r hgk hcell
            obtain ⟨u, hu⟩ : ∃ u, u = L[k] := ⟨_, rfl⟩
            rw [← hu] at p0 ho HFK hc2
            clear hu
            obtain ⟨ua, uc, ux⟩ := u
            simp only at p0 ho HFK hc2
            have HC2 := Lib.hid hc2
            clear hc2
            obtain ⟨x0, x1, x2, y0, y1, y2, hxy⟩ := fpVal_parts (fp (sh tx ux))
            rw [hxy] at HFK
            clear hxy
            have hoN : (fp (sh tx ux)).isNone = !(fp (sh tx ux)).isSome := by cases fp (sh tx ux) <;> rfl
            rw [hoN] at ho
            generalize (fp (sh tx ux)).isSome = okb at *
            have HO' := Lib.hid ho
            clear ho hoN
            go_upto_region 9 with fail
            go_cut [5, 6, 7] (fun s5 s6 s7 wc => ∃ p q : Nat, s5 = .pointer (some ⟨p, 0, none⟩) ∧ s6 = .pointer (some ⟨q, 0, none⟩) ∧ s7 = .bool okb ∧ Grew wo wc)
            case first =>
              go_region_held3 (fun w' => w'.cell? ⟨b, off + i, none⟩ = some (.slice ta tx.length tc) ∧ w'.cell? ⟨b, off + k, none⟩ = some (.slice ua ux.length uc)) (exact HC2.out _ (by repeat (first | with_reducible exact HG.out | with_reducible exact Grew.refl _ | with_reducible assumption | with_reducible apply Grew.plus | with_reducible apply Grew.drewN | with_reducible apply Grew.drew | with_reducible apply Grew.alloc | with_reducible refine Grew.setCell ?_ (by simp [go_sem]; try omega) _))) (first
                | (go_at_call 24; refine (HFK.out _ (HGK.out.trans (by repeat (first | with_reducible exact HG.out | with_reducible exact Grew.refl _ | with_reducible assumption | with_reducible apply Grew.plus | with_reducible apply Grew.drewN | with_reducible apply Grew.drew | with_reducible apply Grew.alloc | with_reducible refine Grew.setCell ?_ (by simp [go_sem]; try omega) _)))).mono ?_; rintro e w2 ⟨rfl, gx, rfl⟩))
              all_goals
                go_wp2_with fail
                go_meet
                exact ⟨_, _, rfl, rfl, rfl, HGK.out.trans (by repeat (first | with_reducible exact HG.out | with_reducible exact Grew.refl _ | with_reducible assumption | with_reducible apply Grew.plus | with_reducible apply Grew.drewN | with_reducible apply Grew.drew | with_reducible apply Grew.alloc | with_reducible refine Grew.setCell ?_ (by simp [go_sem]; try omega) _))⟩
            case rest =>
              obtain ⟨p, q, rfl, rfl, rfl, hgc⟩ := hcut
              have HGC := Lib.hid hgc
              clear hgc
              cases okb
              case false =>
                simp only [Bool.not_false, Bool.true_and] at HO'
                go_wp2_with fail
                go_roundw
                case rel => exact ⟨k + 1, by omega, by go_num, HO'.out, HGC.out.trans (by repeat (first | with_reducible exact HG.out | with_reducible exact Grew.refl _ | with_reducible assumption | with_reducible apply Grew.plus | with_reducible apply Grew.drewN | with_reducible apply Grew.drew | with_reducible apply Grew.alloc | with_reducible refine Grew.setCell ?_ (by simp [go_sem]; try omega) _))⟩
                case measure => simp [intOf] <;> omega
              case true =>
                simp only [Bool.not_true, Bool.false_and] at HO'
                go_wp2_with fail
                go_ret
                exact ⟨by rw [HO'.out]; rfl, HG.out.trans (HGC.out.trans (by repeat (first | with_reducible exact HG.out | with_reducible exact Grew.refl _ | with_reducible assumption | with_reducible apply Grew.plus | with_reducible apply Grew.drewN | with_reducible apply Grew.drew | with_reducible apply Grew.alloc | with_reducible refine Grew.setCell ?_ (by simp [go_sem]; try omega) _)))⟩
          · obtain rfl : k = i := by omega
            rw [List.drop_of_length_le (by rw [List.length_take]; omega)] at ho
            simp only [List.all_nil, Bool.true_and] at ho
            have HO' := Lib.hid ho
            clear ho hgk
            go_wp2_with fail
            go_roundw
            case rel => exact ⟨k + 1, by omega, by go_num, HO'.out, HG.out.trans (HGK.out.trans (by repeat (first | with_reducible exact HG.out | with_reducible exact Grew.refl _ | with_reducible assumption | with_reducible apply Grew.plus | with_reducible apply Grew.drewN | with_reducible apply Grew.drew | with_reducible apply Grew.alloc | with_reducible refine Grew.setCell ?_ (by simp [go_sem]; try omega) _)))⟩
            case measure => simp [intOf] <;> omega
      · have g1 : (!decide (nd L[i].xs = L[i].xs.length)) = true := by simp [honce]
        have hres : ordF (L.map ElsAt.xs) = false := by rw [ho, decide_eq_false honce]; rfl
        have HRES := Lib.hid hres
        clear ho hres hg honce
        generalize L[i] = t at *
        obtain ⟨ta, tc, tx⟩ := t
        simp only at q0 g1 HP
        rw [g1] at HP
        go_wp2_with (go_at_call 27; refine (HP.out _ (by repeat (first | with_reducible exact HG.out | with_reducible exact Grew.refl _ | with_reducible assumption | with_reducible apply Grew.plus | with_reducible apply Grew.drewN | with_reducible apply Grew.drew | with_reducible apply Grew.alloc | with_reducible refine Grew.setCell ?_ (by simp [go_sem]; try omega) _))).mono ?_; rintro e w1 ⟨rfl, hg1⟩; have HG1 := Lib.hid (HG.out.trans (Grew.trans (show Grew wr _ from by repeat (first | with_reducible exact HG.out | with_reducible exact Grew.refl _ | with_reducible assumption | with_reducible apply Grew.plus | with_reducible apply Grew.drewN | with_reducible apply Grew.drew | with_reducible apply Grew.alloc | with_reducible refine Grew.setCell ?_ (by simp [go_sem]; try omega) _)) hg1)); clear hg1)
        go_ret
        exact ⟨by rw [HRES.out]; rfl, HG1.out.trans (by repeat (first | with_reducible exact HG.out | with_reducible exact Grew.refl _ | with_reducible assumption | with_reducible apply Grew.plus | with_reducible apply Grew.drewN | with_reducible apply Grew.drew | with_reducible apply Grew.alloc | with_reducible refine Grew.setCell ?_ (by simp [go_sem]; try omega) _))⟩
    · obtain rfl : i = L.length := by omega
      rw [List.drop_of_length_le (by rw [List.length_map]; exact Nat.le_refl _)] at ho
      simp only [ordG] at ho
      have HO := Lib.hid ho
      clear ho hg
      go_wp2_with fail
      go_ret
      exact ⟨by rw [HO.out]; rfl, HG.out.trans (by repeat (first | with_reducible exact HG.out | with_reducible exact Grew.refl _ | with_reducible assumption | with_reducible apply Grew.plus | with_reducible apply Grew.drewN | with_reducible apply Grew.drew | with_reducible apply Grew.alloc | with_reducible refine Grew.setCell ?_ (by simp [go_sem]; try omega) _))⟩
end Go.Proofs.YtofijhejpgjopaaGreatDoor
