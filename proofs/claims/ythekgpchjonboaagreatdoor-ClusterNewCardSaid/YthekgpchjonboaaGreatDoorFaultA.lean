/- Walks: the reasons by their numbers, and the number of a reason; errors as trees. -/
import Derived.Test.YthekgpchjonboaaGreatDoorSent
import Derived.Test.YthekgpchjonboaaGreatDoorTail
import Derived.Test.YthekgpchjonboaaGreatDoorSl
import Derived.LaidEql
import Derived.Deep.LoopGhost
import Derived.Deep.DeepCutAuto
namespace Go.Proofs.YthekgpchjonboaaGreatDoor
open Go.RowKit
set_option linter.unusedSimpArgs false
set_option linter.unusedVariables false

set_option maxHeartbeats 2000000 in
theorem named_in {S : Nat → Addr} {w : World} (hS : Sents S w) (c : Int) (h0 : 1 ≤ c) (h1 : c ≤ 13) :
    Calls Tryz.prog 74 #[.int .i64 c] w fun e w' => e = .returned (errV (S c.toNat)) ∧ Grew w w' := by
  obtain ⟨s1, s2, s3, s4, s5, s6, s7, s8, s9, s10, s11, s12, s13, s14, hne, hbl, htx⟩ := hS
  clear hne hbl htx
  have hc : c = 1 ∨ c = 2 ∨ c = 3 ∨ c = 4 ∨ c = 5 ∨ c = 6 ∨ c = 7 ∨ c = 8 ∨ c = 9 ∨ c = 10 ∨ c = 11 ∨ c = 12 ∨ c = 13 := by omega
  rcases hc with rfl | rfl | rfl | rfl | rfl | rfl | rfl | rfl | rfl | rfl | rfl | rfl | rfl <;>
  · go_enter Tryz.func74, Tryz.ntmps74
    go_wp2_with fail
    go_ret
    exact ⟨rfl, by repeat (first | with_reducible exact HG.out | with_reducible exact Grew.refl _ | with_reducible assumption | with_reducible apply Grew.plus | with_reducible apply Grew.drewN | with_reducible apply Grew.drew | with_reducible apply Grew.alloc | with_reducible refine Grew.setCell ?_ (by simp [go_sem]; try omega) _)⟩

abbrev faultV (a : Addr) : Value := .iface 118 (.pointer (some a))
abbrev manyV (a : Addr) : Value := .iface 165 (.pointer (some a))

/-- What the comparisons with the reasons say of an error, in all worlds that have grown from w: k: it is that of number k. -/
def IsNum (S : Nat → Addr) (w : World) (v : Value) (k : Nat) : Prop :=
  ∀ c : Nat, 1 ≤ c → c ≤ 13 → ∀ w', Grew w w' → (binOp .eql 26 v (errV (S c))).run Tryz.prog w' = .ok (.bool (decide (c = k))) w'
set_option maxRecDepth 100000 in
theorem isNum_reason {S : Nat → Addr} {w : World} (hS : Sents S w) (k : Nat) (h0 : 1 ≤ k) (h1 : k ≤ 14) : IsNum S w (errV (S k)) k := by
  intro c hc0 hc1 w' hg
  have hS' := hS.grew hg
  have hi : ∃ i, Tryz.prog.info? 478 = some i ∧ i.comparable = true := ⟨_, rfl, by kernel_rfl⟩
  have hj : ∃ j, Tryz.prog.info? 500 = some j ∧ j.size ≠ 0 := ⟨_, rfl, by decide +kernel⟩
  obtain ⟨i, hi, hic⟩ := hi
  obtain ⟨j, hj, hjz⟩ := hj
  by_cases e : c = k
  · subst e
    rw [decide_eq_true rfl]
    exact run_eql_iface_ptr_same w' _ Tryz.underlying26 Tryz.underlying478 hi hic hj
  · rw [decide_eq_false e]
    obtain ⟨ca, ta, ha⟩ := hS'.blk k h0 h1
    obtain ⟨cb, tb, hb⟩ := hS'.blk c hc0 (by omega)
    exact run_eql_iface_ptr_other w' Tryz.underlying26 Tryz.underlying478 hi hic hj hjz (fun h => e (hS.ne k c h0 h1 hc0 (by omega) h).symm) ha hb
theorem eql_iface_types (w : World) (t u : TypeId) (x y : Value) (h : t ≠ u) : (binOp .eql 26 (.iface t x) (.iface u y)).run Tryz.prog w = .ok (.bool false) w := by
  have key : ∀ d : Nat, (Op.equalIn (d + 1) 26 (.iface t x) (.iface u y)).run Tryz.prog w = .ok false w := fun d => by
    simp [Op.equalIn, run_underlying Tryz.underlying26, h]
  simp only [binOp]
  simp [Op.equal, Op.maxDepth, key 9999]
theorem isNum_other {S : Nat → Addr} {w : World} (t : TypeId) (x : Value) (h : t ≠ 478) : IsNum S w (.iface t x) 0 := by
  intro c hc0 hc1 w' hg
  rw [decide_eq_false (by omega)]
  exact eql_iface_types w' _ _ _ _ h

/-- The number that 'number' tells. -/
def numOf (k : Nat) : Nat := if k ≤ 13 then k else 0
set_option maxRecDepth 100000 in
set_option maxHeartbeats 1000000 in
theorem number_any {S : Nat → Addr} {w w0 : World} (hS : Sents S w0) (v : Value) (k : Nat) (hk : IsNum S w0 v k) (hg : Grew w0 w) :
    Calls Tryz.prog 50 #[v] w fun e w' => e = .returned (.int .i64 (numOf k)) ∧ Grew w w' := by
  have HS := Lib.hid hS
  have HK := Lib.hid hk
  have HG0 := Lib.hid hg
  clear hS hk hg
  go_enter Tryz.func50, Tryz.ntmps50
  go_wp2_with fail
  go_loopg [3] 13 (fun g s3 wr => ∃ c : Nat, 1 ≤ c ∧ c ≤ 14 ∧ s3 = .int .i64 c ∧ g = 14 - c ∧ (∀ d, 1 ≤ d → d < c → d ≠ k) ∧ Grew w wr)
  case atStart => exact ⟨1, by omega, by omega, rfl, rfl, fun d h0 h1 => by omega, Grew.refl _⟩
  case round =>
    obtain ⟨c, hc1, hc2, rfl, hgm, hno, hgw⟩ := hrel
    have HGM := Lib.hid hgm
    have HNO := Lib.hid hno
    have HG := Lib.hid hgw
    clear hgm hno
    by_cases hlt : c ≤ 13
    · have hcmp := fun gx => HK.out c hc1 hlt (wr.plus gx) (HG0.out.trans (hgw.plus gx))
      have NC := Lib.hid (named_in (HS.out.grew (HG0.out.trans hgw)) c (by omega) (by omega))
      rw [Int.toNat_natCast] at NC
      clear hgw
      generalize hb : decide (c = k) = b at *
      have HB := Lib.hid hb
      clear hb
      cases b
      case false =>
        go_wp2_with (go_at_call 74; refine NC.out.mono ?_; rintro e w' ⟨rfl, gx, rfl⟩)
        go_roundg (14 - (c + 1))
        case measure => rw [HGM.out]; omega
        case rel => exact ⟨c + 1, by omega, by omega, by go_num, rfl, fun d h0 h1 => (Nat.lt_succ_iff_lt_or_eq.1 h1).elim (fun h => HNO.out d h0 h) (fun h => h ▸ of_decide_eq_false HB.out), by repeat (first | with_reducible exact HG.out | with_reducible exact Grew.refl _ | with_reducible assumption | with_reducible apply Grew.plus | with_reducible apply Grew.drewN | with_reducible apply Grew.drew | with_reducible apply Grew.alloc | with_reducible refine Grew.setCell ?_ (by simp [go_sem]; try omega) _)⟩
      case true =>
        go_wp2_with (go_at_call 74; refine NC.out.mono ?_; rintro e w' ⟨rfl, gx, rfl⟩)
        go_ret
        have e := of_decide_eq_true HB.out
        subst e
        exact ⟨ret_int (by unfold numOf; rw [if_pos hlt]), by repeat (first | with_reducible exact HG.out | with_reducible exact Grew.refl _ | with_reducible assumption | with_reducible apply Grew.plus | with_reducible apply Grew.drewN | with_reducible apply Grew.drew | with_reducible apply Grew.alloc | with_reducible refine Grew.setCell ?_ (by simp [go_sem]; try omega) _)⟩
    · obtain rfl : c = 14 := by omega
      clear hgw
      go_wp2_with fail
      go_ret
      refine ⟨ret_int ?_, by repeat (first | with_reducible exact HG.out | with_reducible exact Grew.refl _ | with_reducible assumption | with_reducible apply Grew.plus | with_reducible apply Grew.drewN | with_reducible apply Grew.drew | with_reducible apply Grew.alloc | with_reducible refine Grew.setCell ?_ (by simp [go_sem]; try omega) _)⟩
      unfold numOf
      split
      · by_cases h0 : k = 0
        · subst h0; rfl
        · exact absurd rfl (HNO.out k (by omega) (by omega))
      · rfl
end Go.Proofs.YthekgpchjonboaaGreatDoor
