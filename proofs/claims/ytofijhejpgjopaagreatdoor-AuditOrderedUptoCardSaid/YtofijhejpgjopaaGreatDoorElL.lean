/- Walks: elements that are lent. -/
import Derived.Test.YtofijhejpgjopaaGreatDoorEl
import Derived.Deep.DeepCutAuto
namespace Go
theorem World.ownsRow.some {w : World} {base size n : Nat} {e : TypeId} {v : Value} {xs : List Value} (h : w.ownsRow base e size v n xs) (hn : 0 < n) : ∃ g cap, v = .slice (some ⟨g, 0, none⟩) n cap := by
  rcases h.2 with ⟨_, hx⟩ | ⟨g, cap, cur, rfl, _⟩
  · exact absurd hx (by omega)
  · exact ⟨g, cap, rfl⟩
/-- The marks behind what is lent. -/
def elMark (i : Int) : ElD := ⟨-9, 0, i, 109, 0⟩
def elMarks (k : Nat) : List ElD := (List.range k).map fun i : Nat => elMark (i : Int)
theorem elMarks_succ (k : Nat) : elMarks (k + 1) = elMarks k ++ [elMark k] := by simp [elMarks, List.range_succ]
theorem elMarks_length (k : Nat) : (elMarks k).length = k := by simp [elMarks]
theorem els_one (l : List ElD) : ∀ u ∈ l.flatMap elRow, u.oneCell' = true := by
  intro u hu
  simp only [List.mem_flatMap, elRow, List.mem_cons, List.not_mem_nil, or_false] at hu
  obtain ⟨e, _, h⟩ := hu
  rcases h with rfl | rfl | rfl | rfl | rfl <;> rfl
end Go
namespace Go.Proofs.YtofijhejpgjopaaGreatDoor
open Go.RowKit
set_option linter.unusedSimpArgs false
set_option linter.unusedVariables false

theorem elEl : Elem Tryz.prog 27 71 5 40 := Elem.of Tryz.underlying27 (by kernel_rfl) (by decide)

theorem mark_any (i : Int) (w : World) : Calls Tryz.prog 38 #[.int .i64 i] w fun e w' => e = .returned (.agg #[.int .i64 (-9), .int .i64 0, .int .i64 i, .int .i32 109, .int .i64 0]) ∧ Grew w w' := by
  go_enter Tryz.func38, Tryz.ntmps38
  go_wp2
  exact bodyPost_ret (v := .agg #[.int .i64 (-9), .int .i64 0, .int .i64 i, .int .i32 109, .int .i64 0]) (by simp [results, Tryz.results38, go_sem]) rfl ⟨rfl, by repeat (first | with_reducible exact HG.out | with_reducible exact Grew.refl _ | with_reducible assumption | with_reducible apply Grew.plus | with_reducible apply Grew.drewN | with_reducible apply Grew.drew | with_reducible apply Grew.alloc | with_reducible refine Grew.setCell ?_ (by simp [go_sem]; try omega) _)⟩

set_option maxRecDepth 100000 in
set_option maxHeartbeats 2000000 in
theorem lend_els (l : List ElD) (a : Option Addr) (cap : Nat) (w : World) (ha : CellsIn w a (l.flatMap elRow)) (hnil : a = none → l.length = 0 ∧ cap = 0) (hcap : l.length ≤ cap) (hm : cap ≤ 9223372036854775807) (hl : l.length ≤ 1000000) :
    Calls Tryz.prog 13 #[.slice a l.length cap] w fun e w' => ∃ g c, e = .returned (.slice (some ⟨g, 0, none⟩) l.length c) ∧ w'.ownsRow w.heap.size 71 5 (.slice (some ⟨g, 0, none⟩) (l.length + 4) c) (l.length + 4) ((l ++ elMarks 4).flatMap elRow) ∧ Grew w w' := by
  have HA := Lib.hid ha
  have HN := Lib.hid hnil
  clear ha hnil
  go_enter Tryz.func13, Tryz.ntmps13
  go_wp2_with (at_builtin; refine wpList_apps (by rfl) (.tmp 5) (.tmp 6) 27 (by rfl) elEl w.heap.size _ 0 [] (by rfl) (World.ownsRow_lit w #[] 0 (Nat.le_refl _) (by decide) rfl) a l.length cap (l.flatMap elRow) (by rfl) (HA.out.grew ((Grew.refl w).alloc _)) (flat_length _ 5 elRow_len _) (els_one l) HN.out (by omega) (by unfold maxLen; omega) w ((Grew.refl w).alloc _) (Nat.le_refl _) (by simp) ?_; intro ar cp w1 hg1 hown1 hkeep hsz1; simp only [Nat.zero_add, List.nil_append] at hown1 ⊢; have HO1 := Lib.hid hown1; have HG1 := Lib.hid hg1; clear hown1 hg1 hkeep hsz1)
  go_loopw [3, 4] (fun s3 s4 wr => ∃ (k : Nat) (ar : Option Addr) (cp : Nat), k ≤ 4 ∧ s4 = .int .i64 k ∧ s3 = .slice ar (l.length + k) cp ∧ wr.ownsRow w.heap.size 71 5 (.slice ar (l.length + k) cp) (l.length + k) ((l ++ elMarks k).flatMap elRow) ∧ Grew w wr) (fun _ s4 _ => 4 - (intOf s4).toNat)
  case atStart => exact ⟨0, ar, cp, by omega, rfl, rfl, by rw [show l ++ elMarks 0 = l by simp [elMarks]]; exact HO1.out, HG1.out⟩
  case round =>
    obtain ⟨k, ar, cp, hk, rfl, rfl, ho, hg⟩ := hrel
    have HO := Lib.hid ho
    have HG := Lib.hid hg
    clear ho hg
    by_cases hlt : k < 4
    · go_wp2_with (first
        | (go_at_call 38; refine (mark_any _ _).mono ?_; rintro e w' ⟨rfl, gx, rfl⟩)
        | (at_builtin; refine wpList_app (by rfl) (.tmp 12) (.tmp 15) 27 (by rfl) elEl w.heap.size _ (l.length + k) ((l ++ elMarks k).flatMap elRow) (by rfl) (HO.out.grew (by exact by repeat (first | with_reducible exact HG.out | with_reducible exact Grew.refl _ | with_reducible assumption | with_reducible apply Grew.plus | with_reducible apply Grew.drewN | with_reducible apply Grew.drew | with_reducible apply Grew.alloc | with_reducible refine Grew.setCell ?_ (by simp [go_sem]; try omega) _))) _ 1 1 #[.int .i64 (-9), .int .i64 0, .int .i64 k, .int .i32 109, .int .i64 0] 71 (by rfl) (heap_alloc_at _ _ _ (by simp [go_sem])) (by rfl) (by intro u hu; simp at hu; rcases hu with rfl | rfl | rfl | rfl | rfl <;> rfl) (by omega) (by omega) (by unfold maxLen; omega) w (HG.out.trans (by exact by repeat (first | with_reducible exact HG.out | with_reducible exact Grew.refl _ | with_reducible assumption | with_reducible apply Grew.plus | with_reducible apply Grew.drewN | with_reducible apply Grew.drew | with_reducible apply Grew.alloc | with_reducible refine Grew.setCell ?_ (by simp [go_sem]; try omega) _))) (Nat.le_refl _) (by have := HG.out.size; simp [go_sem]; omega) ?_; intro g c2 w2 hg2 hown2 hkeep2 hsz2 hat2; have HO2 := Lib.hid hown2; have HG2 := Lib.hid hg2; clear hown2 hg2 hkeep2 hat2))
      go_roundw
      case rel => exact ⟨k + 1, _, _, by omega, by go_num, rfl, by rw [elMarks_succ, ← List.append_assoc, List.flatMap_append]; exact HO2.out, HG2.out⟩
      case measure => simp [intOf]; omega
    · obtain rfl : k = 4 := by omega
      obtain ⟨g, c, hv⟩ := HO.out.some (by omega)
      cases hv
      have hcc := HO.out.caps
      obtain ⟨hc1, hc2⟩ := hcc
      go_wp2
      go_ret
      exact ⟨g, cp, rfl, HO.out, HG.out⟩

theorem els_eq (a b : Option Addr) (ca cb : Nat) (xs : List ElD) (w : World) (ha : CellsIn w a (xs.flatMap elRow)) (hb : CellsIn w b (xs.flatMap elRow)) (hca : xs.length ≤ ca) (hcb : xs.length ≤ cb) (hma : ca ≤ 9223372036854775807) (hmb : cb ≤ 9223372036854775807) :
    Calls Tryz.prog 40 #[.slice a xs.length ca, .slice b xs.length cb] w fun e w' => e = .returned (.bool true) ∧ Grew w w' := by
  have Ha := Lib.hid ha
  have Hb := Lib.hid hb
  clear ha hb
  go_enter Tryz.func40, Tryz.ntmps40
  go_wp2_with fail
  go_loopw [5] (fun i wr => ∃ k : Nat, k ≤ xs.length ∧ i = .int .i64 k ∧ Grew w wr) (fun i _ => xs.length - (intOf i).toNat)
  case atStart => exact ⟨0, by omega, rfl, Grew.refl _⟩
  case round =>
    obtain ⟨k, hk, rfl, hg⟩ := hrel
    have HG := Lib.hid hg
    by_cases hlt : k < xs.length
    · obtain ⟨b1, o1, rfl, hb1, hr1⟩ := (Ha.out.grew hg).rowAt _ 5 elRow_len (by omega) (by omega)
      obtain ⟨b2, o2, rfl, hb2, hr2⟩ := (Hb.out.grew hg).rowAt _ 5 elRow_len (by omega) (by omega)
      have h1 := hr1 k hlt
      have h2 := hr2 k hlt
      clear hr1 hr2 hg
      generalize xs[k] = s at *
      obtain ⟨s0, s1, s2, s3, s4⟩ := s
      simp only [elRow] at h1 h2
      go_wp2_with fail
      refine wp_region_plus (by kernel_rfl) (by kernel_rfl) ?_
      repeat (go_big_quiet_step ((first | fail)))
      refine wpQuiet_nil ?_
      intro _ hw'
      obtain ⟨nx, rfl⟩ := hw'
      go_wp2_with fail
      go_roundw
      case measure => simp [intOf]; omega
      case rel => exact ⟨k + 1, by omega, by go_num, by repeat (first | with_reducible exact HG.out | with_reducible exact Grew.refl _ | with_reducible assumption | with_reducible apply Grew.plus | with_reducible apply Grew.drewN | with_reducible apply Grew.drew | with_reducible apply Grew.alloc | with_reducible refine Grew.setCell ?_ (by simp [go_sem]; try omega) _)⟩
    · obtain rfl : k = xs.length := by omega
      go_wp2_with fail
      go_ret
      exact ⟨rfl, by repeat (first | with_reducible exact HG.out | with_reducible exact Grew.refl _ | with_reducible assumption | with_reducible apply Grew.plus | with_reducible apply Grew.drewN | with_reducible apply Grew.drew | with_reducible apply Grew.alloc | with_reducible refine Grew.setCell ?_ (by simp [go_sem]; try omega) _)⟩

set_option maxRecDepth 100000 in
set_option maxHeartbeats 2000000 in
theorem intact_els (g c base : Nat) (b : Option Addr) (cb : Nat) (l : List ElD) (w w0 : World) (hown : w.ownsRow base 71 5 (.slice (some ⟨g, 0, none⟩) (l.length + 4) c) (l.length + 4) ((l ++ elMarks 4).flatMap elRow)) (hb : CellsIn w b (l.flatMap elRow)) (hcb : l.length ≤ cb) (hmb : cb ≤ 9223372036854775807) (hl : l.length ≤ 1000000) (hg0 : Grew w0 w) (h0 : w0.heap.size ≤ base) :
    Calls Tryz.prog 16 #[.slice (some ⟨g, 0, none⟩) l.length c, .slice b l.length cb] w fun e w' => e = .returned (.bool true) ∧ Grew w0 w' ∧ w.heap.size ≤ w'.heap.size ∧ ∀ k, k < w.heap.size → k ≠ g → w'.heap[k]? = w.heap[k]? := by
  have hcc := hown.caps
  obtain ⟨hc1, hc2⟩ := hcc
  have hgb := (hown.lt g rfl).1
  have hin := hown.cin
  have EQ := Lib.hid (fun W (hW : Grew w W) => els_eq (some ⟨g, 0, none⟩) b c cb l W (by
      have := (hin.take (l.length * 5)).grew hW
      rw [List.flatMap_append, ← flat_length elRow 5 elRow_len l, List.take_left] at this
      exact this) (hb.grew hW) (by omega) hcb hc2 hmb)
  have HM : Hid (∀ W, Grew w W → ∀ k : Nat, k < 4 → W.cellsAt ⟨g, (l.length + k) * 5, none⟩ 5 = some [.int .i64 (-9), .int .i64 0, .int .i64 k, .int .i32 109, .int .i64 0]) := fun W hW k hk => by
    obtain ⟨b', off, ha, _, hr⟩ := CellsIn.rowAt elRow 5 elRow_len (by omega) (hin.grew hW) (by simp [elMarks_length])
    simp only [Option.some.injEq, Addr.mk.injEq, and_true] at ha
    obtain ⟨rfl, rfl⟩ := ha
    have := hr (l.length + k) (by rw [List.length_append, elMarks_length]; omega)
    rw [Nat.zero_add] at this
    rw [this]
    simp [elMarks, elMark, elRow]
  have HO := Lib.hid hown
  have HG := Lib.hid hg0
  clear hown hb hg0 hin
  generalize hn : l.length = n at *
  have HN := Lib.hid hn
  clear hn
  go_enter Tryz.func16, Tryz.ntmps16
  go_wp2_with (go_at_call 40; refine (EQ.out _ (by repeat (first | with_reducible exact HG.out | with_reducible exact Grew.refl _ | with_reducible assumption | with_reducible apply Grew.plus | with_reducible apply Grew.drewN | with_reducible apply Grew.drew | with_reducible apply Grew.alloc | with_reducible refine Grew.setCell ?_ (by simp [go_sem]; try omega) _))).mono ?_; rintro e w' ⟨rfl, gx, rfl⟩)
  go_loopw [6, 7] (fun s6 s7 wr => ∃ k : Nat, k ≤ 4 ∧ s7 = .int .i64 k ∧ s6 = .bool true ∧ Grew w wr) (fun _ s7 _ => 4 - (intOf s7).toNat)
  case atStart => exact ⟨0, by omega, rfl, rfl, by repeat (first | with_reducible exact HG.out | with_reducible exact Grew.refl _ | with_reducible assumption | with_reducible apply Grew.plus | with_reducible apply Grew.drewN | with_reducible apply Grew.drew | with_reducible apply Grew.alloc | with_reducible refine Grew.setCell ?_ (by simp [go_sem]; try omega) _)⟩
  case round =>
    obtain ⟨k, hk, rfl, rfl, hg⟩ := hrel
    have HGr := Lib.hid hg
    by_cases hlt : k < 4
    · have hck := HM.out wr hg k hlt
      clear hg
      go_wp2_with fail
      refine wp_region_plus (by kernel_rfl) (by kernel_rfl) ?_
      repeat (go_big_quiet_step ((first | (go_at_call 38; exact Calls.grew_of (mark_any _ _)))))
      refine wpQuiet_nil ?_
      intro _ hw'
      obtain ⟨nx, rfl⟩ := hw'
      go_wp2_with fail
      go_roundw
      case rel => exact ⟨k + 1, by omega, by go_num, rfl, HGr.out.trans (by repeat (first | with_reducible exact HG.out | with_reducible exact Grew.refl _ | with_reducible assumption | with_reducible apply Grew.plus | with_reducible apply Grew.drewN | with_reducible apply Grew.drew | with_reducible apply Grew.alloc | with_reducible refine Grew.setCell ?_ (by simp [go_sem]; try omega) _))⟩
      case measure => simp [intOf]; omega
    · obtain rfl : k = 4 := by omega
      clear hg
      have HW : ∃ xs, xs.length = (n + 4) * 5 ∧ Hid (wr.ownsRow base 71 5 (.slice (some ⟨g, 0, none⟩) (n + 4) c) (n + 4) xs) := ⟨_, by rw [flat_length _ 5 elRow_len, List.length_append, elMarks_length, HN.out], Lib.hid (HO.out.grew HGr.out)⟩
      clear HO EQ HM HN
      rw [show ((4 : Nat) : Int) = 4 from rfl]
      go_wp2_with fail
      obtain ⟨w1, hw1⟩ : ∃ w1, w1 = wr := ⟨_, rfl⟩
      subst hw1
      go_loopw [8] (fun s8 wr => ∃ (k : Nat) (xs : List Value), k ≤ n + 4 ∧ s8 = .int .i64 k ∧ xs.length = (n + 4) * 5 ∧ wr.ownsRow base 71 5 (.slice (some ⟨g, 0, none⟩) (n + 4) c) (n + 4) xs ∧ Grew w0 wr ∧ w1.heap.size ≤ wr.heap.size ∧ ∀ k, k < w1.heap.size → k ≠ g → wr.heap[k]? = w1.heap[k]?) (fun s8 _ => n + 4 - (intOf s8).toNat)
      case atStart =>
        obtain ⟨xs, h1, h2⟩ := HW
        exact ⟨0, xs, by omega, rfl, h1, h2.out, HG.out.trans HGr.out, Nat.le_refl _, fun _ _ _ => rfl⟩
      case round =>
        obtain ⟨k, xs, hk, rfl, hxl, ho, hg, hsz1, hkp⟩ := hrel
        have HK := Lib.hid hkp
        have HSZ := Lib.hid hsz1
        have HGq := Lib.hid hg
        have HO := Lib.hid ho
        have HXL := Lib.hid hxl
        clear HW hkp hsz1 hg ho
        by_cases hlt : k < n + 4
        · have hcell : ∀ j, j < 5 → ∃ u, wr.cell? ⟨g, k * 5 + j, none⟩ = some u ∧ wr.frozen? ⟨g, k * 5 + j, none⟩ = false := fun j hj => by
            have h1 := HO.out.cellAt (k * 5 + j) (by omega)
            rw [List.getElem?_eq_getElem (by omega)] at h1
            exact ⟨_, h1, HO.out.frozenAt _⟩
          obtain ⟨u0, p0, q0⟩ := hcell 0 (by omega)
          obtain ⟨u1, p1, q1⟩ := hcell 1 (by omega)
          obtain ⟨u2, p2, q2⟩ := hcell 2 (by omega)
          obtain ⟨u3, p3, q3⟩ := hcell 3 (by omega)
          obtain ⟨u4, p4, q4⟩ := hcell 4 (by omega)
          rw [Nat.add_zero] at p0 q0
          have hgs : g < wr.heap.size := (HO.out.lt g rfl).2
          clear hxl hcell
          go_wp2_with (go_at_call 38; refine (mark_any _ _).mono ?_; rintro e w' ⟨rfl, gx, rfl⟩)
          have o5 := (((((HO.out.stored (k * 5) (.int .i64 (-9))).1.stored (k * 5 + 1) (.int .i64 0)).1.stored (k * 5 + 2) (.int .i64 99)).1.stored (k * 5 + 3) (.int .i32 109)).1.stored (k * 5 + 4) (.int .i64 0)).1
          have b5 := grownBy_set (grownBy_set (grownBy_set (grownBy_set (grownBy_set (grownBy_refl wr (some g)) (k * 5) (.int .i64 (-9))) (k * 5 + 1) (.int .i64 0)) (k * 5 + 2) (.int .i64 99)) (k * 5 + 3) (.int .i32 109)) (k * 5 + 4) (.int .i64 0)
          clear p0 p1 p2 p3 p4 q0 q1 q2 q3 q4
          generalize ((((wr.setCell ⟨g, k * 5, none⟩ (.int .i64 (-9))).setCell ⟨g, k * 5 + 1, none⟩ (.int .i64 0)).setCell ⟨g, k * 5 + 2, none⟩ (.int .i64 99)).setCell ⟨g, k * 5 + 3, none⟩ (.int .i32 109)).setCell ⟨g, k * 5 + 4, none⟩ (.int .i64 0) = w5 at *
          have g5 : Grew w5 (w5.plus gx) := (Grew.refl w5).plus gx
          generalize w5.plus gx = w6 at *
          have B5 := Lib.hid b5
          have G5 := Lib.hid g5
          have O5 := Lib.hid (o5.grew g5)
          clear b5 g5 o5
          go_roundw
          case rel => exact ⟨k + 1, _, by omega, by go_num, by simp only [List.length_set]; exact HXL.out, O5.out, (HGq.out.grown B5.out (fun j e => by cases e; omega)).trans G5.out, by have := HSZ.out; have := B5.out.size; have := G5.out.size; omega, fun j hj hne => by
            have h1 := HSZ.out
            have h2 := B5.out.size
            rw [G5.out.block j (by omega), B5.out.block j (by omega) (by simpa using hne), HK.out j hj hne]⟩
          case measure => simp [intOf]; omega
        · obtain rfl : k = n + 4 := by omega
          clear hxl
          go_wp2_with fail
          go_ret
          exact ⟨rfl, HGq.out, Nat.le_trans HGr.out.size HSZ.out, fun j hj hne => by rw [HK.out j (Nat.lt_of_lt_of_le hj HGr.out.size) hne, HGr.out.block j hj]⟩
end Go.Proofs.YtofijhejpgjopaaGreatDoor
