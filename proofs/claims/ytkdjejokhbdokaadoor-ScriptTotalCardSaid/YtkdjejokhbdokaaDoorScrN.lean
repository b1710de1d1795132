/- Walks: names of kinds, numbers taken into a range. -/
import Derived.Test.YtkdjejokhbdokaaDoorProg
import Derived.Test.YtkdjejokhbdokaaDoorSl
namespace Go.Proofs.YtkdjejokhbdokaaDoor
open Go.RowKit
set_option linter.unusedSimpArgs false
set_option linter.unusedVariables false

def names : List ByteArray := [
  ⟨#[105, 110, 115, 101, 114, 116]⟩,
  ⟨#[101, 114, 97, 115, 101]⟩,
  ⟨#[117, 110, 100, 111]⟩,
  ⟨#[114, 101, 100, 111]⟩,
  ⟨#[114, 101, 119, 114, 105, 116, 101]⟩,
  ⟨#[99, 117, 114, 115, 111, 114]⟩,
  ⟨#[112, 114, 111, 112, 111, 115, 101]⟩,
  ⟨#[115, 121, 110, 99]⟩,
  ⟨#[100, 101, 108, 105, 118, 101, 114]⟩,
  ⟨#[100, 114, 111, 112]⟩,
  ⟨#[100, 111, 117, 98, 108, 101]⟩,
  ⟨#[115, 119, 97, 112]⟩,
  ⟨#[102, 97, 105, 114]⟩,
  ⟨#[114, 101, 108, 111, 97, 100]⟩]
def nameB (k : Int) : ByteArray := if 0 ≤ k ∧ k < 14 then names.getD k.toNat ByteArray.empty else ByteArray.empty
theorem names_at (n : Nat) (h : n < 14) (hh : n < (#[.string ⟨#[105, 110, 115, 101, 114, 116]⟩, .string ⟨#[101, 114, 97, 115, 101]⟩, .string ⟨#[117, 110, 100, 111]⟩, .string ⟨#[114, 101, 100, 111]⟩, .string ⟨#[114, 101, 119, 114, 105, 116, 101]⟩, .string ⟨#[99, 117, 114, 115, 111, 114]⟩, .string ⟨#[112, 114, 111, 112, 111, 115, 101]⟩, .string ⟨#[115, 121, 110, 99]⟩, .string ⟨#[100, 101, 108, 105, 118, 101, 114]⟩, .string ⟨#[100, 114, 111, 112]⟩, .string ⟨#[100, 111, 117, 98, 108, 101]⟩, .string ⟨#[115, 119, 97, 112]⟩, .string ⟨#[102, 97, 105, 114]⟩, .string ⟨#[114, 101, 108, 111, 97, 100]⟩] : Array Value).size) : (#[.string ⟨#[105, 110, 115, 101, 114, 116]⟩, .string ⟨#[101, 114, 97, 115, 101]⟩, .string ⟨#[117, 110, 100, 111]⟩, .string ⟨#[114, 101, 100, 111]⟩, .string ⟨#[114, 101, 119, 114, 105, 116, 101]⟩, .string ⟨#[99, 117, 114, 115, 111, 114]⟩, .string ⟨#[112, 114, 111, 112, 111, 115, 101]⟩, .string ⟨#[115, 121, 110, 99]⟩, .string ⟨#[100, 101, 108, 105, 118, 101, 114]⟩, .string ⟨#[100, 114, 111, 112]⟩, .string ⟨#[100, 111, 117, 98, 108, 101]⟩, .string ⟨#[115, 119, 97, 112]⟩, .string ⟨#[102, 97, 105, 114]⟩, .string ⟨#[114, 101, 108, 111, 97, 100]⟩] : Array Value)[n]'hh = .string (nameB n) := by
  have hn : n = 0 ∨ n = 1 ∨ n = 2 ∨ n = 3 ∨ n = 4 ∨ n = 5 ∨ n = 6 ∨ n = 7 ∨ n = 8 ∨ n = 9 ∨ n = 10 ∨ n = 11 ∨ n = 12 ∨ n = 13 := by omega
  rcases hn with rfl | rfl | rfl | rfl | rfl | rfl | rfl | rfl | rfl | rfl | rfl | rfl | rfl | rfl <;> rfl

set_option maxRecDepth 100000 in
set_option maxHeartbeats 1000000 in
theorem name_any (k : Int) (hlo : -9223372036854775808 ≤ k) (hhi : k ≤ 9223372036854775807) (w : World) : Calls Tryd.prog 8 #[.int .i64 k] w fun e w' => e = .returned (.string (nameB k)) ∧ Grew w w' := by
  by_cases h : 0 ≤ k ∧ k < 14
  · obtain ⟨n, rfl⟩ := Int.eq_ofNat_of_zero_le h.1
    have hlt : n < 14 := by omega
    have hna := fun hh => names_at n hlt hh
    go_enter Tryd.func8, Tryd.ntmps8
    go_wp2
    go_ret
    exact ⟨rfl, by repeat (first | with_reducible exact HG.out | with_reducible exact Grew.refl _ | with_reducible assumption | with_reducible apply Grew.plus | with_reducible apply Grew.drewN | with_reducible apply Grew.drew | with_reducible apply Grew.alloc | with_reducible refine Grew.setCell ?_ (by simp [go_sem]; try omega) _)⟩
  · have hb : nameB k = ByteArray.empty := by unfold nameB; rw [if_neg h]
    rw [hb]
    by_cases h0 : k < 0
    · clear h
      go_enter Tryd.func8, Tryd.ntmps8
      go_wp2
      go_ret
      exact ⟨rfl, by repeat (first | with_reducible exact HG.out | with_reducible exact Grew.refl _ | with_reducible assumption | with_reducible apply Grew.plus | with_reducible apply Grew.drewN | with_reducible apply Grew.drew | with_reducible apply Grew.alloc | with_reducible refine Grew.setCell ?_ (by simp [go_sem]; try omega) _)⟩
    · have h14 : 14 ≤ k := by omega
      clear h
      go_enter Tryd.func8, Tryd.ntmps8
      go_wp2
      go_ret
      exact ⟨rfl, by repeat (first | with_reducible exact HG.out | with_reducible exact Grew.refl _ | with_reducible assumption | with_reducible apply Grew.plus | with_reducible apply Grew.drewN | with_reducible apply Grew.drew | with_reducible apply Grew.alloc | with_reducible refine Grew.setCell ?_ (by simp [go_sem]; try omega) _)⟩
end Go.Proofs.YtkdjejokhbdokaaDoor
