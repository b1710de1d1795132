/- Walks: what the statements of layer 18 share: lists of steps held against one another, bytes that are lent. -/
import Derived.Test.YtkdjejokhbdokaaScrRead
namespace Go.Proofs.Ytkdjejokhbdokaa
open Go.RowKit
set_option linter.unusedSimpArgs false
set_option linter.unusedVariables false


set_option maxRecDepth 100000 in
set_option maxHeartbeats 1000000 in
theorem steps_eq (a b : Option Addr) (ca cb : Nat) (xs : List StepD) (w : World) (ha : CellsIn w a (stepCells xs)) (hb : CellsIn w b (stepCells xs)) (hca : xs.length ≤ ca) (hcb : xs.length ≤ cb) (hma : ca ≤ 9223372036854775807) (hmb : cb ≤ 9223372036854775807) :
    Calls Try.prog 12 #[.slice a xs.length ca, .slice b xs.length cb] w fun e w' => e = .returned (.bool true) ∧ Grew w w' := by
  have Ha := Lib.hid ha
  have Hb := Lib.hid hb
  clear ha hb
  go_enter Try.func12, Try.ntmps12
  go_wp2_with fail
  go_loopw [5] (fun i wr => ∃ k : Nat, k ≤ xs.length ∧ i = .int .i64 k ∧ Grew w wr) (fun i _ => xs.length - (intOf i).toNat)
  case atStart => exact ⟨0, by omega, rfl, Grew.refl _⟩
  case round =>
    obtain ⟨k, hk, rfl, hg⟩ := hrel
    have HG := Lib.hid hg
    by_cases hlt : k < xs.length
    · obtain ⟨b1, o1, rfl, hb1, hr1⟩ := (Ha.out.grew hg).rowAt _ 5 len_cells (by omega) (by omega)
      obtain ⟨b2, o2, rfl, hb2, hr2⟩ := (Hb.out.grew hg).rowAt _ 5 len_cells (by omega) (by omega)
      have h1 := hr1 k hlt
      have h2 := hr2 k hlt
      clear hr1 hr2 hg
      generalize xs[k] = s at *
      obtain ⟨sk, sa, sb, sc, st⟩ := s
      simp only [Scr.cells] at h1 h2
      go_wp2_with fail
      refine wp_region_plus (by kernel_rfl) (by kernel_rfl) ?_
      repeat (go_big_quiet_step ((first | fail)))
      refine wpQuiet_nil ?_
      intro _ hw'
      obtain ⟨nx, rfl⟩ := hw'
      go_wp2_with fail
      go_roundw
      case measure => simp [intOf]; omega
      case rel => exact ⟨k + 1, by omega, by go_num, by repeat (first | with_reducible exact HG.out | with_reducible exact Grew.refl _ | with_reducible assumption | with_reducible apply Grew.plus | with_reducible apply Grew.drewN | with_reducible apply Grew.drew | with_reducible apply Grew.alloc | with_reducible refine Grew.setCell ?_ (by simp [go_sem]; try omega) _)⟩
    · obtain rfl : k = xs.length := by omega
      go_wp2_with fail
      go_ret
      exact ⟨rfl, by repeat (first | with_reducible exact HG.out | with_reducible exact Grew.refl _ | with_reducible assumption | with_reducible apply Grew.plus | with_reducible apply Grew.drewN | with_reducible apply Grew.drew | with_reducible apply Grew.alloc | with_reducible refine Grew.setCell ?_ (by simp [go_sem]; try omega) _)⟩

theorem clip_any (a : Option Addr) (cap : Nat) (l : List UInt8) (w : World) (hcap : l.length ≤ cap) (hm : cap ≤ 9223372036854775807) :
    Calls Try.prog 8 #[.slice a l.length cap] w fun e w' => e = .returned (.slice a (l.take 2000).length cap) ∧ w = w' := by
  by_cases h : l.length > 2000
  · have h2 : (l.take 2000).length = 2000 := by simp; omega
    go_enter Try.func8, Try.ntmps8
    go_wp2_with fail
    go_ret
    exact ⟨by rw [h2]; rfl, rfl⟩
  · have h2 : (l.take 2000).length = l.length := by simp; omega
    go_enter Try.func8, Try.ntmps8
    go_wp2_with fail
    go_ret
    exact ⟨by rw [h2]; rfl, rfl⟩

set_option maxRecDepth 100000 in
set_option maxHeartbeats 1000000 in
theorem lend_any (a : Option Addr) (cap : Nat) (l : List UInt8) (w : World) (ha : CellsIn w a (bv l)) (hcap : l.length ≤ cap) (hm : cap ≤ 9223372036854775807) (hnil : a = none → cap = 0) (hl : l.length ≤ 1000000) :
    Calls Try.prog 9 #[.slice a l.length cap] w fun e w' => ∃ g c, e = .returned (.slice (some ⟨g, 0, none⟩) l.length c) ∧ w'.ownsRow w.heap.size 5 1 (.slice (some ⟨g, 0, none⟩) (l.length + 4) c) (l.length + 4) (bv (l ++ [201, 202, 203, 204])) ∧ Grew w w' := by
  have Ha := Lib.hid ha
  have Hnil := Lib.hid hnil
  clear ha hnil
  go_enter Try.func9, Try.ntmps9
  go_wp2_with (first
    | (at_builtin; refine wpList_apps (by rfl) (.tmp 4) (.tmp 5) 22 (by rfl) elByte w.heap.size _ 0 [] (by rfl) (World.ownsRow_lit w #[] 0 (Nat.le_refl _) (by decide) rfl) a l.length cap (bv l) (by rfl) (Ha.out.grew ((Grew.refl w).alloc _)) (by simp [bv]) (bv_one l) (fun h => by have h1 := Hnil.out h; omega) (by omega) (by unfold maxLen; omega) w ((Grew.refl w).alloc _) (Nat.le_refl _) (by simp) ?_; intro ar cp w1 hg1 hown1 hkeep hsz1; simp only [Nat.zero_add, List.nil_append] at hown1; have HO1 := Lib.hid hown1; have HG1 := Lib.hid hg1; clear hown1 hg1 hkeep)
    | (at_builtin; go_loud (refine wpList_app (by rfl) (.tmp 6) (.tmp 7) 22 (by rfl) elByte w.heap.size _ l.length (bv l) (by rfl) (HO1.out.alloc _) _ 4 4 #[.int .u8 201, .int .u8 202, .int .u8 203, .int .u8 204] 5 (by rfl) (heap_alloc_at _ _ _ (by simp [go_sem])) (by rfl) (by intro u hu; simp at hu; rcases hu with rfl | rfl | rfl | rfl <;> rfl) (by omega) (by omega) (by unfold maxLen; omega) w (HG1.out.alloc _) (Nat.le_refl _) (by have := HG1.out.size; simp; omega) ?_); intro g c2 w2 hg2 hown2 hkeep2 hsz2 hat2; have HO2 := Lib.hid hown2; have HG2 := Lib.hid hg2; have hcc := HO2.out.caps; clear hown2 hg2 hkeep2 hat2))
  go_ret
  exact ⟨g, c2, rfl, by rw [bv_append]; exact HO2.out, HG2.out⟩

theorem str_join (l m : List UInt8) : (⟨(l ++ m).toArray⟩ : ByteArray) = ⟨l.toArray⟩ ++ ⟨m.toArray⟩ := by
  apply Scr.bytes_ext; simp
set_option maxRecDepth 100000 in
set_option maxHeartbeats 1000000 in
theorem intact_any (g c base : Nat) (b : Option Addr) (cb : Nat) (l : List UInt8) (w w0 : World) (hown : w.ownsRow base 5 1 (.slice (some ⟨g, 0, none⟩) (l.length + 4) c) (l.length + 4) (bv (l ++ [201, 202, 203, 204]))) (hb : CellsIn w b (bv l)) (hl : l.length ≤ 1000000) (hg0 : Grew w0 w) (h0 : w0.heap.size ≤ base) :
    Calls Try.prog 11 #[.slice (some ⟨g, 0, none⟩) l.length c, .slice b l.length cb] w fun e w' => e = .returned (.bool true) ∧ Grew w0 w' ∧ w'.heap.size = w.heap.size ∧ ∀ k, k ≠ g → w'.heap[k]? = w.heap[k]? := by
  have hcc := hown.caps
  have hgb := (hown.lt g rfl).1
  have hc1 := conv_bytes (P := Try.prog) (dst := 9) Try.underlying22 Try.underlying5 Try.underlying9 c hown.cin
  rw [List.length_append, str_join] at hc1
  have hc2 := conv_bytes (P := Try.prog) (dst := 9) Try.underlying22 Try.underlying5 Try.underlying9 cb hb
  have HO := Lib.hid hown
  have HG := Lib.hid hg0
  clear hown hb hg0
  simp only [List.length_cons, List.length_nil, Nat.reduceAdd] at hc1
  have hsz : (⟨l.toArray⟩ : ByteArray).size ≤ 1000000 := by show l.toArray.size ≤ _; simpa using hl
  generalize hn : l.length = n at *
  have HN := Lib.hid hn
  clear hn
  generalize (⟨l.toArray⟩ : ByteArray) = s at *
  go_enter Try.func11, Try.ntmps11
  go_wp2_with fail
  have HX : ∃ xs, xs.length = n + 4 ∧ Hid (w.ownsRow base 5 1 (.slice (some ⟨g, 0, none⟩) (n + 4) c) (n + 4) xs) := ⟨_, by simp [bv, HN.out], HO.out⟩
  clear HO HN hc1 hc2
  go_loopw [7] (fun i wr => ∃ (k : Nat) (xs : List Value), k ≤ n + 4 ∧ i = .int .i64 k ∧ xs.length = n + 4 ∧ wr.ownsRow base 5 1 (.slice (some ⟨g, 0, none⟩) (n + 4) c) (n + 4) xs ∧ Grew w0 wr ∧ wr.heap.size = w.heap.size ∧ ∀ k, k ≠ g → wr.heap[k]? = w.heap[k]?) (fun i _ => n + 4 - (intOf i).toNat)
  case atStart =>
    obtain ⟨xs, h1, h2⟩ := HX
    exact ⟨0, xs, by omega, rfl, h1, h2.out, HG.out, rfl, fun _ _ => rfl⟩
  case round =>
    obtain ⟨k, xs, hk, rfl, hxl, ho, hg, hsz1, hkp⟩ := hrel
    have HK := Lib.hid hkp
    have HSZ := Lib.hid hsz1
    clear HX HG hkp hsz1
    have HO := Lib.hid ho
    have HG := Lib.hid hg
    clear ho hg
    by_cases hlt : k < n + 4
    · have hck := HO.out.cellAt k (by omega)
      have hfk := HO.out.frozenAt k
      rw [List.getElem?_eq_getElem (by omega)] at hck
      have HXL := Lib.hid hxl
      generalize xs[k] = u at hck
      clear hxl
      go_wp2_with fail
      go_roundw
      case measure => simp [intOf]; omega
      case rel => exact ⟨k + 1, _, by omega, by go_num, by rw [List.length_set]; exact HXL.out, (HO.out.stored k (.int .u8 85)).1, HG.out.setCell (by simp; omega) _, by rw [World.setCell_size]; exact HSZ.out, fun j hj => by rw [World.block_setCell _ _ _ _ hj]; exact HK.out j hj⟩
    · obtain rfl : k = n + 4 := by omega
      clear hxl
      go_wp2_with fail
      go_ret
      exact ⟨rfl, HG.out, HSZ.out, HK.out⟩
end Go.Proofs.Ytkdjejokhbdokaa
