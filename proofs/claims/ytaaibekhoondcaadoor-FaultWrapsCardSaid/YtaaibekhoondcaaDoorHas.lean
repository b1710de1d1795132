/- Walk: Has, the document's. -/
import Derived.Test.YtaaibekhoondcaaDoorCods
namespace Go.Proofs.YtaaibekhoondcaaDoor
open Go.RowKit
set_option linter.unusedSimpArgs false
set_option linter.unusedVariables false

theorem contains_of {l : List Nat} {k j : Nat} (h : l[j]? = some k) : l.contains k = true := by
  rw [List.contains_iff_mem]; exact List.mem_of_getElem? h
theorem contains_not {l : List Nat} {k : Nat} (h : ∀ j, j < l.length → l[j]? ≠ some k) : l.contains k = false := by
  cases hc : l.contains k
  · rfl
  · rw [List.contains_iff_mem] at hc
    obtain ⟨j, hj, e⟩ := List.mem_iff_getElem.1 hc
    exact absurd (by rw [List.getElem?_eq_getElem hj, e]) (h j hj)

set_option maxRecDepth 100000 in
set_option maxHeartbeats 4000000 in
theorem rhas_any (e : Err) (cs : List Value) (U : Nat → Prop) (k : Nat) (w : World) (hm : e.size ≤ 1000000) (h : RIn w U e cs) :
    Calls Tryd.prog 45 #[.agg ⟨cs⟩, .int .i64 k] w fun x w' => x = .returned (.bool (e.cods.contains k)) ∧ Grew w w' := by
  have CC := Lib.hid (fun W (hW : Grew w W) => rcodes_any e.size e cs U W (Nat.le_refl _) hm (h.grew hW))
  have hlen := cods_len e
  obtain ⟨q0, q1, q2, q3, q4, qa, qn, qc, hr, _⟩ := h.kind
  subst hr
  generalize e.cods = l at *
  have hl : l.length ≤ 1000000 := by omega
  generalize hn : l.length = n at *
  have HN := Lib.hid hn
  clear h hm hlen hn
  go_enter Tryd.func45, Tryd.ntmps45
  go_wp2_with (go_at_call 66; refine (CC.out _ (by repeat (first | with_reducible exact HG.out | with_reducible exact Grew.refl _ | with_reducible assumption | with_reducible apply Grew.plus | with_reducible apply Grew.drewN | with_reducible apply Grew.drew | with_reducible apply Grew.alloc | with_reducible refine Grew.setCell ?_ (by simp [go_sem]; try omega) _))).mono ?_; rintro x w1 ⟨v, rfl, ho, hg1⟩; obtain ⟨xa, xc, rfl, hx1, hx2, hin, _, _⟩ := ho.rd; have HIN := Lib.hid hin; have HG1 := Lib.hid (((Grew.refl w).alloc _).trans hg1); clear ho hin hg1)
  go_loopw [6] (fun s6 wr => ∃ j : Nat, j ≤ n ∧ s6 = .int .i64 j ∧ Grew w1 wr ∧ (∀ i, i < j → l[i]? ≠ some k)) (fun i _ => n - (intOf i).toNat)
  case atStart => exact ⟨0, by omega, rfl, Grew.refl _, fun i hi => absurd hi (Nat.not_lt_zero _)⟩
  case round =>
    obtain ⟨j, hj, rfl, hg, hno⟩ := hrel
    have HG := Lib.hid hg
    have HNO := Lib.hid hno
    clear hg hno
    by_cases hlt : j < n
    · obtain ⟨b, off, rfl, hb, hc⟩ := (HIN.out.grew HG.out).at' (by rw [nats_len, HN.out]; omega)
      have hck := hc j (by rw [nats_len, HN.out]; exact hlt)
      obtain ⟨m, hm⟩ : ∃ m, l[j]? = some m := ⟨l[j]'(by rw [HN.out]; exact hlt), List.getElem?_eq_getElem _⟩
      have hcm : (nats l)[j]'(by rw [nats_len, HN.out]; exact hlt) = .int .i64 m := by
        have h1 : l[j]'(by rw [HN.out]; exact hlt) = m := by
          rw [List.getElem?_eq_getElem (by rw [HN.out]; exact hlt)] at hm; exact Option.some.inj hm
        simp [nats, h1]
      rw [hcm] at hck
      have HM := Lib.hid hm
      clear hc hcm hm
      by_cases hmk : m = k
      · subst hmk
        go_wp2_with fail
        go_ret
        exact ⟨by rw [contains_of HM.out]; rfl, HG1.out.trans HG.out⟩
      · have hmk' : ((m : Int) == (k : Int)) = false := by rw [beq_eq_false_iff_ne]; omega
        go_wp2_with fail
        go_roundw
        case rel => exact ⟨j + 1, by omega, by go_num, by repeat (first | with_reducible exact HG.out | with_reducible exact Grew.refl _ | with_reducible assumption | with_reducible apply Grew.plus | with_reducible apply Grew.drewN | with_reducible apply Grew.drew | with_reducible apply Grew.alloc | with_reducible refine Grew.setCell ?_ (by simp [go_sem]; try omega) _), fun i hi => by
          by_cases e : i = j
          · subst e; rw [HM.out]; intro h; exact hmk (Option.some.inj h)
          · exact HNO.out i (by omega)⟩
        case measure => simp [intOf]; omega
    · obtain rfl : j = n := by omega
      go_wp2_with fail
      go_ret
      exact ⟨by rw [contains_not (fun i hi => HNO.out i (by rw [HN.out] at hi; exact hi))]; rfl, HG1.out.trans HG.out⟩
end Go.Proofs.YtaaibekhoondcaaDoor
