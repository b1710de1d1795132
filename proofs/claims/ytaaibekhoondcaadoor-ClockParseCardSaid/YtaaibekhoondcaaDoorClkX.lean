/- Walks: a clock's text, the program's and the document's. -/
import Derived.Test.YtaaibekhoondcaaDoorClkT
import Derived.Test.YtaaibekhoondcaaDoorSl
namespace Go.Proofs.YtaaibekhoondcaaDoor
open Go.RowKit
set_option linter.unusedSimpArgs false
set_option linter.unusedVariables false

def textB (a : C8) (n : Nat) : ByteArray := ⟨(C8.textL a n).toArray⟩
def strs (a : C8) (k : Nat) : List Value := ((List.range k).map fun i => itoaB (a.get i)).map Value.string
theorem strs_succ (a : C8) (k : Nat) : strs a (k + 1) = strs a k ++ (#[Value.string (itoaB (a.get k))] : Array Value).toList := by simp [strs, List.range_succ]
theorem strs_len (a : C8) (k : Nat) : (strs a k).length = k := by simp [strs]
theorem text_join (a : C8) (n : Nat) : joinB ((List.range n).map fun i => itoaB (a.get i)) ⟨#[46]⟩ = textB a n := by
  unfold joinB textB
  rw [← C8.textL_join]
  simp [itoaB, List.map_map, Function.comp_def]
theorem ent_len (a : C8) (ha : a.Fits) : ∀ k, k ≤ 8 → (C8.ent a k).length ≤ 22 * k
  | 0, _ => by simp [C8.ent]
  | k + 1, h => by
    have := ent_len a ha k (by omega)
    have h2 := Lib.itoa_length_le (a.get k) (ha k (by omega)).1 (ha k (by omega)).2
    rw [C8.ent, List.length_append, List.length_append, List.length_singleton]; omega
theorem text_len (a : C8) (ha : a.Fits) (n : Nat) (hn : n ≤ 8) : (textB a n).size ≤ 200 := by
  show Array.size _ ≤ 200
  simp only [textB, List.size_toArray]
  cases n with
  | zero => simp [C8.textL]
  | succ k =>
    have h1 := ent_len a ha k (by omega)
    have h2 := Lib.itoa_length_le (a.get k) (ha k (by omega)).1 (ha k (by omega)).2
    rw [C8.textL, List.length_append]; omega
theorem textB_one (a : C8) : textB a 1 = textB a 0 ++ itoaB (a.get 0) := by
  unfold textB itoaB
  apply ByteArray.ext
  simp [C8.textL, C8.ent, ByteArray.data_append]
theorem textB_succ (a : C8) (k : Nat) (h : 0 < k) : textB a (k + 1) = textB a k ++ ⟨#[46]⟩ ++ itoaB (a.get k) := by
  obtain ⟨j, rfl⟩ : ∃ j, k = j + 1 := ⟨k - 1, by omega⟩
  unfold textB itoaB
  rw [C8.textL_succ]
  apply ByteArray.ext
  simp [ByteArray.data_append]
theorem elStr : Elem Tryd.prog 93 9 1 16 := Elem.of Tryd.underlying93 (by kernel_rfl) (by decide)

theorem size_pa {n : Nat} (wr : World) (gx : More) (o : Obj) (h : n < wr.heap.size) : n + 1 ≤ ((wr.plus gx).alloc o).heap.size := by
  have : ((wr.plus gx).alloc o).heap.size = wr.heap.size + gx.blocks.size + 1 := by simp [go_sem]
  omega
theorem keep_pa {w : World} {x : More} {q : Nat} {o o' : Obj} (h : w.heap[q]? = some o) : ((w.plus x).alloc o').heap[q]? = some o := by
  have hq := (Array.getElem?_eq_some_iff.1 h).1
  rw [heap_alloc_past _ _ _ (by simp [go_sem]; omega), World.block_plus _ _ _ hq, h]
theorem keep_g {w w' : World} (g : Grew w w') {q : Nat} {o : Obj} (h : w.heap[q]? = some o) : w'.heap[q]? = some o := by
  rw [g.block q (Array.getElem?_eq_some_iff.1 h).1]; exact h
theorem own_ne {w : World} {base : Nat} {e : TypeId} {size n : Nat} {v : Value} {xs : List Value} (h : w.ownsRow base e size v n xs) (q : Nat) (hq : q < base) : v.ownBlock ≠ some q := fun e => by have := (h.lt q e).1; omega

set_option maxRecDepth 100000 in
set_option maxHeartbeats 2000000 in
theorem ctext_any (a : C8) (n : Int) (w : World) (ha : a.Fits) (h0 : -9223372036854775808 ≤ n) (h1 : n ≤ 9223372036854775807) (ht : Tab w) :
    Calls Tryd.prog 39 #[.agg a.cells, .int .i64 n] w fun e w' => e = .returned (.string (textB a (min n 8).toNat)) ∧ Grew w w' := by
  have HT := Lib.hid ht
  have HA := Lib.hid ha
  have HJ := Lib.hid (text_join a (min n 8).toNat)
  have HL := Lib.hid (text_len a ha (min n 8).toNat (by omega))
  clear ht ha
  generalize hm : min n 8 = m at *
  have hm8 : m ≤ 8 := by omega
  have hml : m ≤ n := by omega
  have HM := Lib.hid hm
  go_enter Tryd.func39, Tryd.ntmps39
  go_wp2_with fail
  go_loopw [5, 9] (fun v i wr => ∃ (k : Nat) (va : Option Addr) (vc : Nat), (k : Int) ≤ max m 0 ∧ v = .slice va k vc ∧ i = .int .i64 k ∧ wr.ownsRow (w.heap.size + 1) 9 1 (.slice va k vc) k (strs a k) ∧ wr.heap[w.heap.size]? = some (.cells a.cells 24 (0, 0)) ∧ Grew w wr) (fun _ i _ => 8 - (intOf i).toNat)
  case atStart => exact ⟨0, none, 0, by omega, rfl, rfl, World.ownsRow_nil _ _ _ _, heap_alloc_at _ _ _ rfl, by repeat (first | with_reducible exact HG.out | with_reducible exact Grew.refl _ | with_reducible assumption | with_reducible apply Grew.plus | with_reducible apply Grew.drewN | with_reducible apply Grew.drew | with_reducible apply Grew.alloc | with_reducible refine Grew.setCell ?_ (by simp [go_sem]; try omega) _)⟩
  case round =>
    obtain ⟨k, va, vc, hk, rfl, rfl, hown, hb, hg⟩ := hrel
    have HG := Lib.hid hg
    have HO := Lib.hid hown
    have HB := Lib.hid hb
    have hsz0 := (Array.getElem?_eq_some_iff.1 hb).1
    clear hg hown hb
    by_cases hlt : (k : Int) < m
    · have hc := World.own_cell HB.out k _ (a.cells_get k (by omega))
      obtain ⟨hc1, hc2⟩ := hc
      have IT := Lib.hid (fun W (hW : Grew w W) => itoa_any (a.get k) (HA.out k (by omega)).1 (HA.out k (by omega)).2 W (HT.out.grew hW))
      have HSS := Lib.hid (strs_succ a k)
      go_wp2_with (first | (go_at_call 60; refine (IT.out _ (by repeat (first | with_reducible exact HG.out | with_reducible exact Grew.refl _ | with_reducible assumption | with_reducible apply Grew.plus | with_reducible apply Grew.drewN | with_reducible apply Grew.drew | with_reducible apply Grew.alloc | with_reducible refine Grew.setCell ?_ (by simp [go_sem]; try omega) _))).mono ?_; rintro e w' ⟨rfl, gx, rfl⟩) | (at_builtin; go_loud (refine wpList_app (by rfl) _ _ 93 (by rfl) elStr (w.heap.size + 1) _ k (strs a k) (by rfl) ((HO.out.grew ⟨gx, rfl⟩).alloc _) _ 1 1 #[.string (itoaB (a.get k))] 9 (by rfl) (heap_alloc_at _ _ _ (by simp [go_sem])) (by rfl) (by intro u hu; simp at hu; subst hu; rfl) (by omega) (by omega) (by unfold maxLen; omega) w (by repeat (first | with_reducible exact HG.out | with_reducible exact Grew.refl _ | with_reducible assumption | with_reducible apply Grew.plus | with_reducible apply Grew.drewN | with_reducible apply Grew.drew | with_reducible apply Grew.alloc | with_reducible refine Grew.setCell ?_ (by simp [go_sem]; try omega) _)) (Nat.le_succ _) (size_pa _ _ _ hsz0) ?_); intro g cap1 w1 hg1 hown1 hkeep hsz1 hat; have hown2 : w1.ownsRow (w.heap.size + 1) 9 1 (.slice (some ⟨g, 0, none⟩) (k + 1) cap1) (k + 1) (strs a (k + 1)) := (by rw [HSS.out]; exact hown1); have HO1 := Lib.hid hown2; clear hown2; have HG1 := Lib.hid hg1; have HB1 := Lib.hid (World.kept_block hkeep (keep_pa HB.out) (own_ne HO.out w.heap.size (Nat.lt_succ_self _))); clear hown1 hg1 hkeep hat))
      go_roundw
      case rel => exact ⟨k + 1, _, _, by omega, rfl, by go_num, HO1.out, HB1.out, HG1.out⟩
      case measure => simp [intOf]; omega
    · obtain ⟨xa, xc, hxe, hx1, hx2, hin, _, _⟩ := HO.out.rd
      cases hxe
      have hkm : k = m.toNat := by omega
      subst hkm
      have JC := Lib.hid (fun W (hW : Grew wr W) => join_any va vc ((List.range m.toNat).map fun i => itoaB (a.get i)) ⟨#[46]⟩ W (hin.grew hW) (by simpa using hx1) (by simp; omega) (by rw [HJ.out]; have := HL.out; omega))
      rw [HJ.out] at JC
      simp only [List.length_map, List.length_range] at JC
      clear hin
      go_wp2_with (go_at_call 61; refine (JC.out _ (by repeat (first | with_reducible exact Grew.refl _ | with_reducible apply Grew.plus | with_reducible apply Grew.drewN))).mono ?_; rintro e w' ⟨rfl, gx, rfl⟩)
      go_ret
      exact ⟨rfl, by repeat (first | with_reducible exact HG.out | with_reducible exact Grew.refl _ | with_reducible assumption | with_reducible apply Grew.plus | with_reducible apply Grew.drewN | with_reducible apply Grew.drew | with_reducible apply Grew.alloc | with_reducible refine Grew.setCell ?_ (by simp [go_sem]; try omega) _)⟩

set_option maxRecDepth 100000 in
set_option maxHeartbeats 2000000 in
theorem rtext_any (a : C8) (n : Int) (w : World) (ha : a.Fits) (h0 : -9223372036854775808 ≤ n) (h1 : n ≤ 9223372036854775807) :
    Calls Tryd.prog 40 #[.agg a.cells, .int .i64 n] w fun e w' => e = .returned (.string (textB a (min n 8).toNat)) ∧ Grew w w' := by
  have HA := Lib.hid ha
  have h46 : (⟨#[46]⟩ : ByteArray).size = 1 := rfl
  have HT0 : Hid (textB a 0 = ⟨#[]⟩) := Lib.hid rfl
  go_enter Tryd.func40, Tryd.ntmps40
  go_wp2_with fail
  go_loopw [5, 6] (fun s i wr => ∃ k : Nat, k ≤ 8 ∧ (k : Int) ≤ max n 0 ∧ s = .string (textB a k) ∧ i = .int .i64 k ∧ wr.heap[w.heap.size]? = some (.cells a.cells 24 (0, 0)) ∧ Grew w wr) (fun _ i _ => 8 - (intOf i).toNat)
  case atStart => exact ⟨0, by omega, by omega, by rw [HT0.out], rfl, heap_alloc_at _ _ _ rfl, by repeat (first | with_reducible exact HG.out | with_reducible exact Grew.refl _ | with_reducible assumption | with_reducible apply Grew.plus | with_reducible apply Grew.drewN | with_reducible apply Grew.drew | with_reducible apply Grew.alloc | with_reducible refine Grew.setCell ?_ (by simp [go_sem]; try omega) _)⟩
  case round =>
    obtain ⟨k, hk8, hk, rfl, rfl, hb, hg⟩ := hrel
    have HG := Lib.hid hg
    have HB := Lib.hid hb
    clear hg hb
    have hsz := text_len a HA.out k hk8
    by_cases hlt : (k : Int) < n
    · by_cases h8 : k < 8
      · have hc := World.own_cell HB.out k _ (a.cells_get k h8)
        obtain ⟨hc1, hc2⟩ := hc
        have DC := Lib.hid (fun W => digits_any (a.get k) W (HA.out k h8).1 (HA.out k h8).2)
        have hil : (itoaB (a.get k)).size ≤ 21 := by
          show Array.size _ ≤ 21
          simp only [itoaB, List.size_toArray]
          exact Lib.itoa_length_le _ (HA.out k h8).1 (HA.out k h8).2
        by_cases hk0 : k = 0
        · subst hk0
          have HS := Lib.hid (textB_one a)
          generalize textB a 0 = t at *
          generalize itoaB (a.get 0) = s at *
          go_wp2_with (go_at_call 62; refine (DC.out _).mono ?_; rintro e w' ⟨rfl, gx, rfl⟩)
          go_roundw
          case rel => exact ⟨0 + 1, by omega, by omega, by rw [HS.out], by go_num, keep_g (by repeat (first | with_reducible exact Grew.refl _ | with_reducible apply Grew.plus | with_reducible apply Grew.drewN)) HB.out, by repeat (first | with_reducible exact HG.out | with_reducible exact Grew.refl _ | with_reducible assumption | with_reducible apply Grew.plus | with_reducible apply Grew.drewN | with_reducible apply Grew.drew | with_reducible apply Grew.alloc | with_reducible refine Grew.setCell ?_ (by simp [go_sem]; try omega) _)⟩
          case measure => simp [intOf]
        · have HS := Lib.hid (textB_succ a k (by omega))
          generalize textB a k = t at *
          generalize itoaB (a.get k) = s at *
          go_wp2_with (go_at_call 62; refine (DC.out _).mono ?_; rintro e w' ⟨rfl, gx, rfl⟩)
          go_roundw
          case rel => exact ⟨k + 1, by omega, by omega, by rw [HS.out], by go_num, keep_g (by repeat (first | with_reducible exact Grew.refl _ | with_reducible apply Grew.plus | with_reducible apply Grew.drewN)) HB.out, by repeat (first | with_reducible exact HG.out | with_reducible exact Grew.refl _ | with_reducible assumption | with_reducible apply Grew.plus | with_reducible apply Grew.drewN | with_reducible apply Grew.drew | with_reducible apply Grew.alloc | with_reducible refine Grew.setCell ?_ (by simp [go_sem]; try omega) _)⟩
          case measure => simp [intOf]; omega
      · have e : (min n 8).toNat = k := by omega
        obtain rfl : k = 8 := by omega
        have HE := Lib.hid e
        clear e
        generalize hq : textB a 8 = t at *
        have HQ := Lib.hid hq
        clear hq
        go_wp2_with fail
        go_ret
        rw [HE.out, HQ.out]
        exact ⟨rfl, by repeat (first | with_reducible exact HG.out | with_reducible exact Grew.refl _ | with_reducible assumption | with_reducible apply Grew.plus | with_reducible apply Grew.drewN | with_reducible apply Grew.drew | with_reducible apply Grew.alloc | with_reducible refine Grew.setCell ?_ (by simp [go_sem]; try omega) _)⟩
    · have e : (min n 8).toNat = k := by omega
      have HE := Lib.hid e
      clear e
      have HTT : Hid (textB a k = textB a k) := Lib.hid rfl
      go_wp2_with fail
      go_ret
      rw [HE.out]
      exact ⟨rfl, by repeat (first | with_reducible exact HG.out | with_reducible exact Grew.refl _ | with_reducible assumption | with_reducible apply Grew.plus | with_reducible apply Grew.drewN | with_reducible apply Grew.drew | with_reducible apply Grew.alloc | with_reducible refine Grew.setCell ?_ (by simp [go_sem]; try omega) _)⟩
end Go.Proofs.YtaaibekhoondcaaDoor
