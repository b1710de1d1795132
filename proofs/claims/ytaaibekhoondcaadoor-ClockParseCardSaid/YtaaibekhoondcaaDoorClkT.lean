/- Walks: a number's digits, as the document has them. -/
import Derived.Test.YtaaibekhoondcaaDoorClkP
import Derived.Test.YtaaibekhoondcaaDoorClkW
import Derived.Test.YtaaibekhoondcaaDoorStr
import Derived.Test.YtaaibekhoondcaaDoorTail
namespace Go.Proofs.YtaaibekhoondcaaDoor
open Go.RowKit
set_option linter.unusedSimpArgs false
set_option linter.unusedVariables false

def decB (u : Nat) : ByteArray := ⟨(Lib.decDigits u).toArray⟩
theorem decB_step (u : Nat) (h : ¬ u < 10) : decB u = decB (u / 10) ++ ⟨#[UInt8.ofNat (48 + u % 10)]⟩ := by
  unfold decB
  rw [Lib.decDigits, dif_neg h]
  apply ByteArray.ext
  simp [ByteArray.data_append]
theorem decB_one (u : Nat) (h : u < 10) : decB u = ⟨#[UInt8.ofNat (48 + u)]⟩ := by
  unfold decB
  rw [Lib.decDigits_one h]
theorem dec_size (u : Nat) (h : u ≤ 9223372036854775808) : (decB u).size ≤ 20 := by
  show Array.size _ ≤ 20
  simp only [decB, List.size_toArray, Lib.decDigits_length]
  exact Lib.nDigits_le20 u (by omega)

set_option maxRecDepth 100000 in
theorem byte_string (W : World) (e : Nat) (he : e < 10) : (convert 120 9 (.slice (some ⟨W.heap.size, 0, none⟩) 1 1)).run Tryd.prog (W.alloc (.cells #[.int .u8 (48 + (e : Int))] 5)) = .ok (.string ⟨#[UInt8.ofNat (48 + e)]⟩) (W.alloc (.cells #[.int .u8 (48 + (e : Int))] 5)) := by
  have hb : (bv [UInt8.ofNat (48 + e)]) = [.int .u8 (48 + (e : Int))] := by
    simp [bv, UInt8.toNat_ofNat']; omega
  have := conv_bytes (P := Tryd.prog) (dst := 9) (w := W.alloc (.cells #[.int .u8 (48 + (e : Int))] 5)) Tryd.underlying120 Tryd.underlying5 Tryd.underlying9 (a := some ⟨W.heap.size, 0, none⟩) (l := [UInt8.ofNat (48 + e)]) 1 (by
    rw [hb]
    exact CellsIn.of_cells (fun i hi => by
      obtain rfl : i = 0 := by simp at hi; omega
      exact World.own_cell1 (heap_alloc_new W _)))
  exact this

set_option maxRecDepth 100000 in
set_option maxHeartbeats 1000000 in
theorem tail_walk (n d q : Int) (e : Nat) (w : World) (h0 : -9223372036854775808 ≤ n) (h1 : n ≤ 9223372036854775807) (hd : n.tmod 10 = d) (hq : n.tdiv 10 = q) (hq0 : -9223372036854775808 ≤ q) (hq1 : q ≤ 9223372036854775807) (he : e < 10) (hde : (d = e ∧ 0 ≤ d) ∨ (d = -(e : Int) ∧ d < 0)) (t : ByteArray) (ht : t.size ≤ 100)
    (hrec : q ≠ 0 → ∀ w, Calls Tryd.prog 85 #[.int .i64 q] w fun e w' => e = .returned (.string t) ∧ Grew w w') :
    Calls Tryd.prog 85 #[.int .i64 n] w fun x w' => x = .returned (.string (if q = 0 then ⟨#[UInt8.ofNat (48 + e)]⟩ else t ++ ⟨#[UInt8.ofNat (48 + e)]⟩)) ∧ Grew w w' := by
  have HBS := Lib.hid (fun W => byte_string W e he)
  have HREC := Lib.hid hrec
  clear hrec
  have hcs := HBS.out w
  have h1s : (⟨#[UInt8.ofNat (48 + e)]⟩ : ByteArray).size = 1 := rfl
  rcases hde with ⟨rfl, hd0⟩ | ⟨rfl, hd0⟩
  · by_cases hz : q = 0
    · rw [if_pos hz]
      subst hz
      generalize (⟨#[UInt8.ofNat (48 + e)]⟩ : ByteArray) = s at *
      go_enter Tryd.func85, Tryd.ntmps85
      go_wp2_with fail
      go_ret
      exact ⟨rfl, by repeat (first | with_reducible exact HG.out | with_reducible exact Grew.refl _ | with_reducible assumption | with_reducible apply Grew.plus | with_reducible apply Grew.drewN | with_reducible apply Grew.drew | with_reducible apply Grew.alloc | with_reducible refine Grew.setCell ?_ (by simp [go_sem]; try omega) _)⟩
    · rw [if_neg hz]
      generalize (⟨#[UInt8.ofNat (48 + e)]⟩ : ByteArray) = s at *
      have hqz : (q == 0) = false := by simpa using hz
      go_enter Tryd.func85, Tryd.ntmps85
      go_wp2_with (go_at_call 85; refine (HREC.out hz _).mono ?_; rintro e w' ⟨rfl, gx, rfl⟩)
      go_ret
      exact ⟨rfl, by repeat (first | with_reducible exact HG.out | with_reducible exact Grew.refl _ | with_reducible assumption | with_reducible apply Grew.plus | with_reducible apply Grew.drewN | with_reducible apply Grew.drew | with_reducible apply Grew.alloc | with_reducible refine Grew.setCell ?_ (by simp [go_sem]; try omega) _)⟩
  · by_cases hz : q = 0
    · rw [if_pos hz]
      subst hz
      generalize (⟨#[UInt8.ofNat (48 + e)]⟩ : ByteArray) = s at *
      go_enter Tryd.func85, Tryd.ntmps85
      go_wp2_with fail
      go_ret
      exact ⟨rfl, by repeat (first | with_reducible exact HG.out | with_reducible exact Grew.refl _ | with_reducible assumption | with_reducible apply Grew.plus | with_reducible apply Grew.drewN | with_reducible apply Grew.drew | with_reducible apply Grew.alloc | with_reducible refine Grew.setCell ?_ (by simp [go_sem]; try omega) _)⟩
    · rw [if_neg hz]
      generalize (⟨#[UInt8.ofNat (48 + e)]⟩ : ByteArray) = s at *
      have hqz : (q == 0) = false := by simpa using hz
      go_enter Tryd.func85, Tryd.ntmps85
      go_wp2_with (go_at_call 85; refine (HREC.out hz _).mono ?_; rintro e w' ⟨rfl, gx, rfl⟩)
      go_ret
      exact ⟨rfl, by repeat (first | with_reducible exact HG.out | with_reducible exact Grew.refl _ | with_reducible assumption | with_reducible apply Grew.plus | with_reducible apply Grew.drewN | with_reducible apply Grew.drew | with_reducible apply Grew.alloc | with_reducible refine Grew.setCell ?_ (by simp [go_sem]; try omega) _)⟩

theorem tail_any : ∀ (m : Nat) (n : Int) (w : World), n.natAbs ≤ m → -9223372036854775808 ≤ n → n ≤ 9223372036854775807 →
    Calls Tryd.prog 85 #[.int .i64 n] w fun e w' => e = .returned (.string (decB n.natAbs)) ∧ Grew w w'
  | m, n, w, hm, h0, h1 => by
    have ht : (n.tmod 10).natAbs = n.natAbs % 10 := by rw [Int.natAbs_tmod]; rfl
    have hq : (n.tdiv 10).natAbs = n.natAbs / 10 := by rw [Int.natAbs_tdiv]; rfl
    have hde : (n.tmod 10 = ((n.natAbs % 10 : Nat) : Int) ∧ 0 ≤ n.tmod 10) ∨ (n.tmod 10 = -((n.natAbs % 10 : Nat) : Int) ∧ n.tmod 10 < 0) := by omega
    have key := tail_walk n (n.tmod 10) (n.tdiv 10) (n.natAbs % 10) w h0 h1 rfl rfl (by omega) (by omega) (by omega) hde (decB (n.natAbs / 10)) (Nat.le_trans (dec_size _ (by omega)) (by omega))
    by_cases hs : n.natAbs < 10
    · have hz : n.tdiv 10 = 0 := by omega
      have := key (fun h => absurd hz h)
      rw [if_pos hz, Nat.mod_eq_of_lt hs] at this
      rw [decB_one _ hs]
      exact this
    · have hz : ¬ n.tdiv 10 = 0 := by omega
      cases m with
      | zero => omega
      | succ m =>
        have := key (fun _ w => by
          have ih := tail_any m (n.tdiv 10) w (by omega) (by omega) (by omega)
          rwa [hq] at ih)
        rw [if_neg hz] at this
        rw [decB_step _ hs]
        exact this

set_option maxRecDepth 100000 in
set_option maxHeartbeats 1000000 in
theorem digits_any (n : Int) (w : World) (h0 : -9223372036854775808 ≤ n) (h1 : n ≤ 9223372036854775807) :
    Calls Tryd.prog 62 #[.int .i64 n] w fun e w' => e = .returned (.string (itoaB n)) ∧ Grew w w' := by
  have TC := Lib.hid (fun w => tail_any n.natAbs n w (Nat.le_refl _) h0 h1)
  have hsz := dec_size n.natAbs (by omega)
  by_cases h : n < 0
  · have e1 : itoaB n = ⟨#[45]⟩ ++ decB n.natAbs := by
      unfold itoaB decB
      rw [Lib.itoa, if_pos h]
      apply ByteArray.ext
      simp [ByteArray.data_append]
    rw [e1]
    generalize decB n.natAbs = t at *
    have h45 : (⟨#[45]⟩ : ByteArray).size = 1 := rfl
    go_enter Tryd.func62, Tryd.ntmps62
    go_wp2_with (go_at_call 85; refine (TC.out _).mono ?_; rintro e w' ⟨rfl, gx, rfl⟩)
    go_ret
    exact ⟨rfl, by repeat (first | with_reducible exact HG.out | with_reducible exact Grew.refl _ | with_reducible assumption | with_reducible apply Grew.plus | with_reducible apply Grew.drewN | with_reducible apply Grew.drew | with_reducible apply Grew.alloc | with_reducible refine Grew.setCell ?_ (by simp [go_sem]; try omega) _)⟩
  · have e1 : itoaB n = decB n.natAbs := by
      unfold itoaB decB
      rw [Lib.itoa, if_neg h, show n.toNat = n.natAbs by omega]
    rw [e1]
    generalize decB n.natAbs = t at *
    go_enter Tryd.func62, Tryd.ntmps62
    go_wp2_with (go_at_call 85; refine (TC.out _).mono ?_; rintro e w' ⟨rfl, gx, rfl⟩)
    go_ret
    exact ⟨rfl, by repeat (first | with_reducible exact HG.out | with_reducible exact Grew.refl _ | with_reducible assumption | with_reducible apply Grew.plus | with_reducible apply Grew.drewN | with_reducible apply Grew.drew | with_reducible apply Grew.alloc | with_reducible refine Grew.setCell ?_ (by simp [go_sem]; try omega) _)⟩
end Go.Proofs.YtaaibekhoondcaaDoor
