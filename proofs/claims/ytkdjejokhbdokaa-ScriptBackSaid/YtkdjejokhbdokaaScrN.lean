/- Walks: names of kinds, numbers taken into a range. -/
import Derived.Test.YtkdjejokhbdokaaProg
import Derived.Test.YtkdjejokhbdokaaSl
namespace Go.Proofs.Ytkdjejokhbdokaa
open Go.RowKit
set_option linter.unusedSimpArgs false
set_option linter.unusedVariables false

def names : List ByteArray := [
  ⟨#[105, 110, 115, 101, 114, 116]⟩,
  ⟨#[101, 114, 97, 115, 101]⟩,
  ⟨#[117, 110, 100, 111]⟩,
  ⟨#[114, 101, 100, 111]⟩,
  ⟨#[114, 101, 119, 114, 105, 116, 101]⟩,
  ⟨#[99, 117, 114, 115, 111, 114]⟩,
  ⟨#[112, 114, 111, 112, 111, 115, 101]⟩,
  ⟨#[115, 121, 110, 99]⟩,
  ⟨#[100, 101, 108, 105, 118, 101, 114]⟩,
  ⟨#[100, 114, 111, 112]⟩,
  ⟨#[100, 111, 117, 98, 108, 101]⟩,
  ⟨#[115, 119, 97, 112]⟩,
  ⟨#[102, 97, 105, 114]⟩,
  ⟨#[114, 101, 108, 111, 97, 100]⟩]
def nameB (k : Int) : ByteArray := if 0 ≤ k ∧ k < 14 then names.getD k.toNat ByteArray.empty else ByteArray.empty
theorem names_at (n : Nat) (h : n < 14) (hh : n < (#[.string ⟨#[105, 110, 115, 101, 114, 116]⟩, .string ⟨#[101, 114, 97, 115, 101]⟩, .string ⟨#[117, 110, 100, 111]⟩, .string ⟨#[114, 101, 100, 111]⟩, .string ⟨#[114, 101, 119, 114, 105, 116, 101]⟩, .string ⟨#[99, 117, 114, 115, 111, 114]⟩, .string ⟨#[112, 114, 111, 112, 111, 115, 101]⟩, .string ⟨#[115, 121, 110, 99]⟩, .string ⟨#[100, 101, 108, 105, 118, 101, 114]⟩, .string ⟨#[100, 114, 111, 112]⟩, .string ⟨#[100, 111, 117, 98, 108, 101]⟩, .string ⟨#[115, 119, 97, 112]⟩, .string ⟨#[102, 97, 105, 114]⟩, .string ⟨#[114, 101, 108, 111, 97, 100]⟩] : Array Value).size) : (#[.string ⟨#[105, 110, 115, 101, 114, 116]⟩, .string ⟨#[101, 114, 97, 115, 101]⟩, .string ⟨#[117, 110, 100, 111]⟩, .string ⟨#[114, 101, 100, 111]⟩, .string ⟨#[114, 101, 119, 114, 105, 116, 101]⟩, .string ⟨#[99, 117, 114, 115, 111, 114]⟩, .string ⟨#[112, 114, 111, 112, 111, 115, 101]⟩, .string ⟨#[115, 121, 110, 99]⟩, .string ⟨#[100, 101, 108, 105, 118, 101, 114]⟩, .string ⟨#[100, 114, 111, 112]⟩, .string ⟨#[100, 111, 117, 98, 108, 101]⟩, .string ⟨#[115, 119, 97, 112]⟩, .string ⟨#[102, 97, 105, 114]⟩, .string ⟨#[114, 101, 108, 111, 97, 100]⟩] : Array Value)[n]'hh = .string (nameB n) := by
  have hn : n = 0 ∨ n = 1 ∨ n = 2 ∨ n = 3 ∨ n = 4 ∨ n = 5 ∨ n = 6 ∨ n = 7 ∨ n = 8 ∨ n = 9 ∨ n = 10 ∨ n = 11 ∨ n = 12 ∨ n = 13 := by omega
  rcases hn with rfl | rfl | rfl | rfl | rfl | rfl | rfl | rfl | rfl | rfl | rfl | rfl | rfl | rfl <;> rfl
def foldI (n m : Int) : Int := if m < 1 then 0 else n % m
theorem tmod_mod (n m : Int) (h : 0 < m) : n % m = if n.tmod m < 0 then n.tmod m + m else n.tmod m := by
  have h1 := Int.emod_nonneg n (show m ≠ 0 by omega)
  have h2 := Int.emod_lt_of_pos n h
  rcases Int.le_total 0 n with hn | hn
  · rw [Int.tmod_eq_emod_of_nonneg hn, if_neg (by omega)]
  · obtain ⟨k, rfl⟩ : ∃ k, n = -k := ⟨-n, by omega⟩
    have h3 : (-k).tmod m = -(k % m) := by rw [Int.neg_tmod, Int.tmod_eq_emod_of_nonneg (by omega)]
    have h4 := Int.emod_nonneg k (show m ≠ 0 by omega)
    have h5 := Int.emod_lt_of_pos k h
    rw [h3]
    by_cases hz : k % m = 0
    · rw [hz, if_neg (by omega)]
      have : (-k) % m = 0 := Int.emod_eq_zero_of_dvd (Int.dvd_neg.2 (Int.dvd_of_emod_eq_zero hz))
      omega
    · rw [if_pos (by omega)]
      have e : -k = (-(k % m) + m) + m * (-(k / m) - 1) := by
        have := Int.emod_add_mul_ediv k m
        rw [Int.mul_sub, Int.mul_neg]; omega
      rw [e, Int.add_mul_emod_self_left, Int.emod_eq_of_lt (by omega) (by omega)]

set_option maxRecDepth 100000 in
set_option maxHeartbeats 1000000 in
theorem name_any (k : Int) (hlo : -9223372036854775808 ≤ k) (hhi : k ≤ 9223372036854775807) (w : World) : Calls Try.prog 15 #[.int .i64 k] w fun e w' => e = .returned (.string (nameB k)) ∧ Grew w w' := by
  by_cases h : 0 ≤ k ∧ k < 14
  · obtain ⟨n, rfl⟩ := Int.eq_ofNat_of_zero_le h.1
    have hlt : n < 14 := by omega
    have hna := fun hh => names_at n hlt hh
    go_enter Try.func15, Try.ntmps15
    go_wp2
    go_ret
    exact ⟨rfl, by repeat (first | with_reducible exact HG.out | with_reducible exact Grew.refl _ | with_reducible assumption | with_reducible apply Grew.plus | with_reducible apply Grew.drewN | with_reducible apply Grew.drew | with_reducible apply Grew.alloc | with_reducible refine Grew.setCell ?_ (by simp [go_sem]; try omega) _)⟩
  · have hb : nameB k = ByteArray.empty := by unfold nameB; rw [if_neg h]
    rw [hb]
    by_cases h0 : k < 0
    · clear h
      go_enter Try.func15, Try.ntmps15
      go_wp2
      go_ret
      exact ⟨rfl, by repeat (first | with_reducible exact HG.out | with_reducible exact Grew.refl _ | with_reducible assumption | with_reducible apply Grew.plus | with_reducible apply Grew.drewN | with_reducible apply Grew.drew | with_reducible apply Grew.alloc | with_reducible refine Grew.setCell ?_ (by simp [go_sem]; try omega) _)⟩
    · have h14 : 14 ≤ k := by omega
      clear h
      go_enter Try.func15, Try.ntmps15
      go_wp2
      go_ret
      exact ⟨rfl, by repeat (first | with_reducible exact HG.out | with_reducible exact Grew.refl _ | with_reducible assumption | with_reducible apply Grew.plus | with_reducible apply Grew.drewN | with_reducible apply Grew.drew | with_reducible apply Grew.alloc | with_reducible refine Grew.setCell ?_ (by simp [go_sem]; try omega) _)⟩

set_option maxRecDepth 100000 in
set_option maxHeartbeats 1000000 in
theorem rname_any (k : Int) (hlo : -9223372036854775808 ≤ k) (hhi : k ≤ 9223372036854775807) (w : World) : Calls Try.prog 16 #[.int .i64 k] w fun e w' => e = .returned (.string (nameB k)) ∧ Grew w w' := by
  by_cases h : 0 ≤ k ∧ k < 14
  · obtain ⟨n, rfl⟩ := Int.eq_ofNat_of_zero_le h.1
    have hlt : n < 14 := by omega
    have hna := fun hh => names_at n hlt hh
    go_enter Try.func16, Try.ntmps16
    go_wp2
    go_ret
    exact ⟨rfl, by repeat (first | with_reducible exact HG.out | with_reducible exact Grew.refl _ | with_reducible assumption | with_reducible apply Grew.plus | with_reducible apply Grew.drewN | with_reducible apply Grew.drew | with_reducible apply Grew.alloc | with_reducible refine Grew.setCell ?_ (by simp [go_sem]; try omega) _)⟩
  · have hb : nameB k = ByteArray.empty := by unfold nameB; rw [if_neg h]
    rw [hb]
    by_cases h0 : k < 0
    · clear h
      go_enter Try.func16, Try.ntmps16
      go_wp2
      go_ret
      exact ⟨rfl, by repeat (first | with_reducible exact HG.out | with_reducible exact Grew.refl _ | with_reducible assumption | with_reducible apply Grew.plus | with_reducible apply Grew.drewN | with_reducible apply Grew.drew | with_reducible apply Grew.alloc | with_reducible refine Grew.setCell ?_ (by simp [go_sem]; try omega) _)⟩
    · have h14 : 14 ≤ k := by omega
      clear h
      go_enter Try.func16, Try.ntmps16
      go_wp2
      go_ret
      exact ⟨rfl, by repeat (first | with_reducible exact HG.out | with_reducible exact Grew.refl _ | with_reducible assumption | with_reducible apply Grew.plus | with_reducible apply Grew.drewN | with_reducible apply Grew.drew | with_reducible apply Grew.alloc | with_reducible refine Grew.setCell ?_ (by simp [go_sem]; try omega) _)⟩

set_option maxRecDepth 100000 in
set_option maxHeartbeats 1000000 in
theorem fold_any (n m : Int) (hn0 : -9223372036854775808 ≤ n) (hn1 : n ≤ 9223372036854775807) (hm0 : -9223372036854775808 ≤ m) (hm1 : m ≤ 9223372036854775807) (w : World) : Calls Try.prog 17 #[.int .i64 n, .int .i64 m] w fun e w' => e = .returned (.int .i64 (foldI n m)) ∧ w = w' := by
  unfold foldI
  by_cases h : m < 1
  · rw [if_pos h]
    go_enter Try.func17, Try.ntmps17
    go_wp2
    go_ret
    exact ⟨rfl, rfl⟩
  · rw [if_neg h]
    have ht := tmod_mod n m (by omega)
    have hlo := Int.emod_nonneg n (show m ≠ 0 by omega)
    have hhi := Int.emod_lt_of_pos n (show 0 < m by omega)
    have hz : (m == 0) = false := by rw [beq_eq_false_iff_ne]; omega
    have hb1 : -m < n.tmod m := by have := Int.lt_tmod_of_pos n (show 0 < m by omega); omega
    have hb2 : n.tmod m < m := Int.tmod_lt_of_pos n (show 0 < m by omega)
    have HT := Lib.hid ht
    clear ht hlo hhi
    by_cases h0 : n.tmod m < 0
    · go_enter Try.func17, Try.ntmps17
      go_wp2
      go_ret
      exact ⟨ret_int (by have := HT.out; rw [if_pos h0] at this; omega), rfl⟩
    · go_enter Try.func17, Try.ntmps17
      go_wp2
      go_ret
      exact ⟨ret_int (by have := HT.out; rw [if_neg (by omega)] at this; omega), rfl⟩

set_option maxRecDepth 100000 in
set_option maxHeartbeats 1000000 in
theorem rfold_any (n m : Int) (hn0 : -9223372036854775808 ≤ n) (hn1 : n ≤ 9223372036854775807) (hm0 : -9223372036854775808 ≤ m) (hm1 : m ≤ 9223372036854775807) (w : World) : Calls Try.prog 18 #[.int .i64 n, .int .i64 m] w fun e w' => e = .returned (.int .i64 (foldI n m)) ∧ w = w' := by
  unfold foldI
  by_cases h : m < 1
  · rw [if_pos h]
    go_enter Try.func18, Try.ntmps18
    go_wp2
    go_ret
    exact ⟨rfl, rfl⟩
  · rw [if_neg h]
    have ht := tmod_mod n m (by omega)
    have hlo := Int.emod_nonneg n (show m ≠ 0 by omega)
    have hhi := Int.emod_lt_of_pos n (show 0 < m by omega)
    have hz : (m == 0) = false := by rw [beq_eq_false_iff_ne]; omega
    have hb1 : -m < n.tmod m := by have := Int.lt_tmod_of_pos n (show 0 < m by omega); omega
    have hb2 : n.tmod m < m := Int.tmod_lt_of_pos n (show 0 < m by omega)
    have HT := Lib.hid ht
    clear ht hlo hhi
    by_cases h0 : n.tmod m < 0
    · go_enter Try.func18, Try.ntmps18
      go_wp2
      go_ret
      exact ⟨ret_int (by have := HT.out; rw [if_pos h0] at this; omega), rfl⟩
    · go_enter Try.func18, Try.ntmps18
      go_wp2
      go_ret
      exact ⟨ret_int (by have := HT.out; rw [if_neg (by omega)] at this; omega), rfl⟩
end Go.Proofs.Ytkdjejokhbdokaa
