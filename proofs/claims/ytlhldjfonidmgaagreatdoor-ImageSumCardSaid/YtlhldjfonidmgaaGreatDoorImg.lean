/- Walks of layer 17: the check of bytes; clip. -/
import Derived.Test.YtlhldjfonidmgaaGreatDoorProg
import Derived.Test.YtlhldjfonidmgaaGreatDoorSl
import Derived.Deep.LoopGhost
import Derived.Deep.DeepCutAuto
import Derived.Laws.OwnMore
namespace Go.Proofs.YtlhldjfonidmgaaGreatDoor
open Go.RowKit
set_option linter.unusedSimpArgs false
set_option linter.unusedVariables false

set_option maxRecDepth 100000 in
set_option maxHeartbeats 1000000 in
theorem clip17_any (a : Option Addr) (cap : Nat) (l : List UInt8) (w : World) (hcap : l.length ≤ cap) (hm : cap ≤ 9223372036854775807) :
    Calls Tryz.prog 15 #[.slice a l.length cap] w fun e w' => e = .returned (.slice a (l.take 4000).length cap) ∧ w' = w := by
  by_cases h : l.length > 4000
  · have hl : (l.take 4000).length = 4000 := by simp; omega
    rw [hl]
    generalize l.length = n at *
    go_enter Tryz.func15, Tryz.ntmps15
    go_wp2
    go_ret
    exact ⟨rfl, rfl⟩
  · have hl : (l.take 4000).length = l.length := by simp; omega
    rw [hl]
    generalize l.length = n at *
    go_enter Tryz.func15, Tryz.ntmps15
    go_wp2
    go_ret
    exact ⟨rfl, rfl⟩

/-- One byte more of the check. -/
def sumStep (n : Int) (b : Nat) : Int := bits .xor .u32 n ((b : Int) % 4294967296) * 16777619 % 4294967296
def sumL (l : List UInt8) : Int := l.foldl (fun n b => sumStep n b.toNat) 2166136261
theorem sumL_succ (l : List UInt8) (i : Nat) (h : i < l.length) : sumL (l.take (i + 1)) = sumStep (sumL (l.take i)) l[i].toNat := by
  unfold sumL
  rw [List.take_succ_eq_append_getElem h, List.foldl_append]
  rfl
theorem sumL_range (l : List UInt8) : 0 ≤ sumL l ∧ sumL l < 4294967296 := by
  cases h : l.length with
  | zero =>
    have : l = [] := List.length_eq_zero_iff.1 h
    subst this
    exact ⟨by decide, by decide⟩
  | succ n =>
    have e := sumL_succ l n (by omega)
    rw [List.take_of_length_le (by omega)] at e
    rw [e]
    unfold sumStep
    exact ⟨Int.emod_nonneg _ (by decide), Int.emod_lt_of_pos _ (by decide)⟩
set_option maxRecDepth 100000 in
set_option maxHeartbeats 1000000 in
theorem sum_any (a : Option Addr) (cap : Nat) (l : List UInt8) (w : World) (hin : CellsIn w a (bv l)) (hcap : l.length ≤ cap) (hm : cap ≤ 9223372036854775807) :
    Calls Tryz.prog 16 #[.slice a l.length cap] w fun e w' => e = .returned (.int .u32 (sumL l)) ∧ w' = w := by
  have Hin := Lib.hid hin
  clear hin
  go_enter Tryz.func16, Tryz.ntmps16
  go_wp2_with fail
  go_loopg [3, 8] l.length (fun g s3 s8 wr => ∃ (i : Nat), s3 = .int .u32 (sumL (l.take i)) ∧ s8 = .int .i64 i ∧ i ≤ l.length ∧ g = l.length - i ∧ wr = w)
  case atStart => exact ⟨0, rfl, rfl, by omega, rfl, rfl⟩
  case round =>
    obtain ⟨i, rfl, rfl, hi, hg, rfl⟩ := hrel
    by_cases hlt : i < l.length
    · obtain ⟨b, off, rfl, hb, hx⟩ := Hin.out.at' (by rw [bv_length]; omega)
      have hc := hx i (by rw [bv_length]; exact hlt)
      rw [bv_get] at hc
      have hst := sumL_succ l i hlt
      unfold sumStep at hst
      generalize hs : sumL (l.take i) = s at *
      generalize hby : l[i].toNat = by' at *
      have HS := Lib.hid hst
      clear hst
      go_wp2_with fail
      go_roundg (l.length - (i + 1))
      case measure => omega
      case rel => exact ⟨i + 1, by rw [HS.out], by go_num, by omega, rfl, rfl⟩
    · obtain rfl : i = l.length := by omega
      generalize hs : sumL (l.take l.length) = s at *
      have HS : Hid (sumL l = s) := by rw [← hs, List.take_length]; exact Lib.hid rfl
      clear hs
      go_wp2_with fail
      go_ret
      exact ⟨by rw [HS.out]; rfl, rfl⟩
set_option maxRecDepth 100000 in
set_option maxHeartbeats 1000000 in
theorem rsum_any (a : Option Addr) (cap : Nat) (l : List UInt8) (w : World) (hin : CellsIn w a (bv l)) (hcap : l.length ≤ cap) (hm : cap ≤ 9223372036854775807) :
    Calls Tryz.prog 17 #[.slice a l.length cap] w fun e w' => e = .returned (.int .u32 (sumL l)) ∧ w' = w := by
  have Hin := Lib.hid hin
  clear hin
  go_enter Tryz.func17, Tryz.ntmps17
  go_wp2_with fail
  go_loopg [3, 4] l.length (fun g s3 s4 wr => ∃ (i : Nat), s3 = .int .u32 (sumL (l.take i)) ∧ s4 = .int .i64 i ∧ i ≤ l.length ∧ g = l.length - i ∧ wr = w)
  case atStart => exact ⟨0, rfl, rfl, by omega, rfl, rfl⟩
  case round =>
    obtain ⟨i, rfl, rfl, hi, hg, rfl⟩ := hrel
    by_cases hlt : i < l.length
    · obtain ⟨b, off, rfl, hb, hx⟩ := Hin.out.at' (by rw [bv_length]; omega)
      have hc := hx i (by rw [bv_length]; exact hlt)
      rw [bv_get] at hc
      have hst := sumL_succ l i hlt
      unfold sumStep at hst
      generalize hs : sumL (l.take i) = s at *
      generalize hby : l[i].toNat = by' at *
      have HS := Lib.hid hst
      clear hst
      go_wp2_with fail
      go_roundg (l.length - (i + 1))
      case measure => omega
      case rel => exact ⟨i + 1, by rw [HS.out], by go_num, by omega, rfl, rfl⟩
    · obtain rfl : i = l.length := by omega
      generalize hs : sumL (l.take l.length) = s at *
      have HS : Hid (sumL l = s) := by rw [← hs, List.take_length]; exact Lib.hid rfl
      clear hs
      go_wp2_with fail
      go_ret
      exact ⟨by rw [HS.out]; rfl, rfl⟩
end Go.Proofs.YtlhldjfonidmgaaGreatDoor
