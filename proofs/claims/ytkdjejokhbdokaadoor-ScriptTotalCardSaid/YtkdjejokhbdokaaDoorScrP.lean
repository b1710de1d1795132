/- Walks: how many characters a text has; the least byte of a character; is a step plain? -/
import Derived.Test.YtkdjejokhbdokaaDoorScrW
import Derived.Test.YtkdjejokhbdokaaDoorStrIt
import Derived.Deep.LoopGhost
import Derived.Deep.DeepCutAuto
namespace Go.Proofs.YtkdjejokhbdokaaDoor
open Go.RowKit
set_option linter.unusedSimpArgs false
set_option linter.unusedVariables false

set_option maxRecDepth 100000 in
theorem runeCount_any (s : ByteArray) (w : World) (hs : s.size ≤ 9223372036854775806) :
    Calls Tryd.prog 15 #[.string s] w fun e w' => e = .returned (.int .i64 (Scr.runesT s).length) ∧ Grew w w' := by
  go_enter Tryd.func15, Tryd.ntmps15
  go_wp2
  go_loopg [2] s.size (fun g n wr => ∃ (pos acc : Nat), n = .int .i64 acc ∧ g = s.size - pos ∧ pos ≤ s.size + 8 ∧ acc + (Scr.runesAt s pos).length = (Scr.runesT s).length ∧ Grew w wr ∧ wr.heap[w.heap.size]? = some (.stringIter s pos))
  case atStart => exact ⟨0, 0, rfl, rfl, by omega, by simp [Scr.runesAt, Scr.runesT], (Grew.refl w).alloc _, heap_alloc_at _ _ _ rfl⟩
  case round =>
    obtain ⟨pos, acc, rfl, hgm, hps, hac, hg, hT⟩ := hrel
    have HT := Lib.hid hT
    have HG := Lib.hid hg
    have HGM := Lib.hid hgm
    have HAC := Lib.hid hac
    have htot : (Scr.runesT s).length ≤ s.size := by
      have := Scr.runesAt_len s 0
      simpa [Scr.runesAt, Scr.runesT] using this
    have hacc : acc ≤ s.size := by omega
    clear hgm hac
    by_cases hp : pos < s.size
    · have hnx : ∀ ty, (Instr.next (.pointer (some ⟨w.heap.size, 0, none⟩)) true ty).run Tryd.prog wr = _ := fun ty => run_next_it wr _ s pos ty hT hp
      have hd := Scr.decode_pos s pos
      have HC := Lib.hid (Scr.runesAt_cons s pos hp)
      clear hT htot
      go_wp2
      have hlt : w.heap.size < wr.heap.size := (Array.getElem?_eq_some_iff.1 HT.out).1
      have hsz4 : (Utf8.decode s pos).2 ≤ 4 := by
        unfold Utf8.decode
        simp only
        repeat' split
        all_goals simp
      go_roundg (s.size - (pos + (Utf8.decode s pos).2))
      case measure => rw [HGM.out]; omega
      case rel => exact ⟨pos + (Utf8.decode s pos).2, acc + 1, by go_num, rfl, by omega, by have := HAC.out; rw [HC.out, List.length_cons] at this; omega, HG.out.putObj (Nat.le_refl _) _, World.putObj_same _ _ _ hlt⟩
    · have hnx : ∀ ty, (Instr.next (.pointer (some ⟨w.heap.size, 0, none⟩)) true ty).run Tryd.prog wr = _ := fun ty => run_next_over wr _ s pos ty hT hp
      have hn := Scr.runesAt_nil s pos hp
      have HN := Lib.hid hn
      clear hn hT
      go_wp2
      go_ret
      have := HAC.out
      rw [HN.out, List.length_nil, Nat.add_zero] at this
      exact ⟨by rw [this]; rfl, HG.out⟩

set_option maxRecDepth 100000 in
theorem least_any (c : Int) (h0 : 0 ≤ c) (h1 : c ≤ 2147483647) (w : World) : Calls Tryd.prog 16 #[.int .i32 c] w fun e w' => e = .returned (.tuple #[.int .u8 (Scr.least c).toNat, .bool (Scr.alpha c)]) ∧ w = w' := by
  by_cases ha : 97 ≤ c ∧ c ≤ 122
  · have e1 : Scr.alpha c = true := by simp only [Scr.alpha, decide_eq_true_eq]; omega
    have e2 : ((Scr.least c).toNat : Int) = c - 97 := by
      unfold Scr.least
      rw [if_pos ha, UInt8.toNat_ofNat_of_lt' (by show (c - 97).toNat < 256; omega)]; omega
    rw [e1, e2]
    obtain ⟨ha1, ha2⟩ := ha
    clear e1 e2
    go_enter Tryd.func16, Tryd.ntmps16
    go_wp2
    go_ret2
    exact ⟨rfl, rfl⟩
  · by_cases h2 : c = 10
    · subst h2
      go_enter Tryd.func16, Tryd.ntmps16
      go_wp2
      go_ret2
      exact ⟨rfl, rfl⟩
    · by_cases h3 : c = 233
      · subst h3
        go_enter Tryd.func16, Tryd.ntmps16
        go_wp2
        go_ret2
        exact ⟨rfl, rfl⟩
      · by_cases h4 : c = 19990
        · subst h4
          go_enter Tryd.func16, Tryd.ntmps16
          go_wp2
          go_ret2
          exact ⟨rfl, rfl⟩
        · have e1 : Scr.alpha c = false := by simp only [Scr.alpha, decide_eq_false_iff_not]; omega
          have e2 : (Scr.least c).toNat = 0 := by unfold Scr.least; rw [if_neg ha, if_neg h2, if_neg h3, if_neg h4]; rfl
          rw [e1, e2]
          have b2 : (c == 10) = false := by simpa using h2
          have b3 : (c == 233) = false := by simpa using h3
          have b4 : (c == 19990) = false := by simpa using h4
          clear e1 e2
          by_cases h5 : 97 ≤ c
          · have h6 : 122 < c := by omega
            go_enter Tryd.func16, Tryd.ntmps16
            go_wp2
            go_ret2
            exact ⟨rfl, rfl⟩
          · go_enter Tryd.func16, Tryd.ntmps16
            go_wp2
            go_ret2
            exact ⟨rfl, rfl⟩

@[go_sem high] theorem run_max_int3_max {P : Program} (w : World) (ts : Array TypeId) (t : TypeId) (k k' k'' : IntKind) (x y z : Int) : (Builtin.max_ ts t #[.int k x, .int k' y, .int k'' z]).run P w = .ok (.int k (max (max x y) z)) w := by
  rw [run_max_int3]; congr 2; omega
@[go_sem high] theorem run_min_int3_min {P : Program} (w : World) (ts : Array TypeId) (t : TypeId) (k k' k'' : IntKind) (x y z : Int) : (Builtin.min_ ts t #[.int k x, .int k' y, .int k'' z]).run P w = .ok (.int k (min (min x y) z)) w := by
  rw [run_min_int3]; congr 2; omega

theorem plain_no {k a b c : Int} {t : ByteArray} (h : ¬ ((0 ≤ k ∧ k < 14) ∧ 0 ≤ min (min a b) c ∧ max (max a b) c ≤ 255)) : Scr.plainB ⟨k, a, b, c, t⟩ = false := by
  cases hp : Scr.plainB ⟨k, a, b, c, t⟩ with
  | false => rfl
  | true =>
    obtain ⟨h1, h2, h3, h4, _⟩ := Scr.plain_parts hp
    simp only at h1 h2 h3 h4
    exact absurd ⟨h1, by omega, by omega⟩ h
theorem plain_yes {k a b c : Int} {t : ByteArray} (hk : 0 ≤ k ∧ k < 14) (h0 : 0 ≤ min (min a b) c) (h1 : max (max a b) c ≤ 255) :
    Scr.plainB ⟨k, a, b, c, t⟩ = ((decide ((Scr.runesT t).length ≤ 15) && (decide (t.size = 0) || Scr.texts k)) && (Scr.runesT t).all Scr.alpha) := by
  have ha : Scr.small a = true := by simp [Scr.small]; omega
  have hb : Scr.small b = true := by simp [Scr.small]; omega
  have hc : Scr.small c = true := by simp [Scr.small]; omega
  simp only [Scr.plainB, ha, hb, hc, decide_eq_true hk, Bool.true_and]

set_option maxRecDepth 100000 in
set_option maxHeartbeats 1000000 in
theorem plain_out (k a b c : Int) (t : ByteArray) (w : World) (h : ¬ ((0 ≤ k ∧ k < 14) ∧ 0 ≤ min (min a b) c ∧ max (max a b) c ≤ 255)) :
    Calls Tryd.prog 6 #[.agg #[.int .i64 k, .int .i64 a, .int .i64 b, .int .i64 c, .string t]] w fun e w' => e = .returned (.bool (Scr.plainB ⟨k, a, b, c, t⟩)) ∧ Grew w w' := by
  rw [plain_no h]
  generalize hx : min (min a b) c = x at *
  generalize hy : max (max a b) c = y at *
  have HX := Lib.hid hx
  have HY := Lib.hid hy
  by_cases h1 : 0 ≤ k
  · by_cases h2 : k < 14
    · by_cases h3 : 0 ≤ x
      · have h4 : ¬ y ≤ 255 := fun h4 => h ⟨⟨h1, h2⟩, h3, h4⟩
        have h5 : 255 < y := by omega
        clear h h4
        go_enter Tryd.func6, Tryd.ntmps6
        go_wp2
        go_ret
        exact ⟨rfl, by repeat (first | with_reducible exact HG.out | with_reducible exact Grew.refl _ | with_reducible assumption | with_reducible apply Grew.plus | with_reducible apply Grew.drewN | with_reducible apply Grew.drew | with_reducible apply Grew.alloc | with_reducible refine Grew.setCell ?_ (by simp [go_sem]; try omega) _)⟩
      · clear h
        go_enter Tryd.func6, Tryd.ntmps6
        go_wp2
        go_ret
        exact ⟨rfl, by repeat (first | with_reducible exact HG.out | with_reducible exact Grew.refl _ | with_reducible assumption | with_reducible apply Grew.plus | with_reducible apply Grew.drewN | with_reducible apply Grew.drew | with_reducible apply Grew.alloc | with_reducible refine Grew.setCell ?_ (by simp [go_sem]; try omega) _)⟩
    · clear h
      go_enter Tryd.func6, Tryd.ntmps6
      go_wp2
      go_ret
      exact ⟨rfl, by repeat (first | with_reducible exact HG.out | with_reducible exact Grew.refl _ | with_reducible assumption | with_reducible apply Grew.plus | with_reducible apply Grew.drewN | with_reducible apply Grew.drew | with_reducible apply Grew.alloc | with_reducible refine Grew.setCell ?_ (by simp [go_sem]; try omega) _)⟩
  · clear h
    go_enter Tryd.func6, Tryd.ntmps6
    go_wp2
    go_ret
    exact ⟨rfl, by repeat (first | with_reducible exact HG.out | with_reducible exact Grew.refl _ | with_reducible assumption | with_reducible apply Grew.plus | with_reducible apply Grew.drewN | with_reducible apply Grew.drew | with_reducible apply Grew.alloc | with_reducible refine Grew.setCell ?_ (by simp [go_sem]; try omega) _)⟩

set_option maxRecDepth 100000 in
set_option maxHeartbeats 1000000 in
theorem plain_in (k a b c : Int) (t : ByteArray) (w : World) (ht : t.size ≤ 9223372036854775806) (hk : 0 ≤ k ∧ k < 14) (h0 : 0 ≤ min (min a b) c) (h1 : max (max a b) c ≤ 255) :
    Calls Tryd.prog 6 #[.agg #[.int .i64 k, .int .i64 a, .int .i64 b, .int .i64 c, .string t]] w fun e w' => e = .returned (.bool (Scr.plainB ⟨k, a, b, c, t⟩)) ∧ Grew w w' := by
  rw [plain_yes hk h0 h1]
  generalize hx : min (min a b) c = x at *
  generalize hy : max (max a b) c = y at *
  have hk0 := hk.1
  have hk1 := hk.2
  clear hk
  have hnl : (Scr.runesT t).length ≤ t.size := by
    have := Scr.runesAt_len t 0
    simpa [Scr.runesAt, Scr.runesT] using this
  have RC := Lib.hid (fun w => runeCount_any t w ht)
  have HN : Hid (∃ n, n = (Scr.runesT t).length) := ⟨_, rfl⟩
  generalize hn : (Scr.runesT t).length = n at *
  by_cases h16 : 16 ≤ n
  · have hf : decide (n ≤ 15) = false := by simp; omega
    rw [hf, Bool.false_and, Bool.false_and]
    clear hn HN hf
    go_enter Tryd.func6, Tryd.ntmps6
    go_wp2_with (first | (go_at_call 15; refine (RC.out _).mono ?_; rintro e w' ⟨rfl, gx, rfl⟩))
    go_ret
    exact ⟨rfl, by repeat (first | with_reducible exact HG.out | with_reducible exact Grew.refl _ | with_reducible assumption | with_reducible apply Grew.plus | with_reducible apply Grew.drewN | with_reducible apply Grew.drew | with_reducible apply Grew.alloc | with_reducible refine Grew.setCell ?_ (by simp [go_sem]; try omega) _)⟩
  · have hf : decide (n ≤ 15) = true := by simp; omega
    rw [hf, Bool.true_and]
    clear hf HN
    by_cases hz : t.size = 0
    · have hall : (Scr.runesT t).all Scr.alpha = true := by
        have : n = 0 := by omega
        rw [this] at hn
        rw [List.length_eq_zero_iff.1 hn]; rfl
      have hzd : decide (t.size = 0) = true := by simpa using hz
      rw [hall, hzd, Bool.true_or, Bool.true_and]
      have e1 : t.toList.isEmpty = true := by
        have : t.toList.length = t.size := by rw [ByteArray.toList_eq]; exact Array.length_toList
        rw [List.isEmpty_iff, ← List.length_eq_zero_iff]; omega
      clear hn hall hzd
      go_enter Tryd.func6, Tryd.ntmps6
      go_wp2_with (first | (go_at_call 15; refine (RC.out _).mono ?_; rintro e w' ⟨rfl, gx, rfl⟩))
      go_loopg [4, 5, 6] 0 (fun g s4 s5 s6 wr => Grew w wr ∧ wr.heap[w.heap.size + 1 + gx.blocks.size]? = some (.stringIter t 0))
      case atStart => exact ⟨((((Grew.refl w).alloc _).plus gx).alloc _), heap_alloc_at _ _ _ (by simp [go_sem])⟩
      case round =>
        obtain ⟨hg, hT⟩ := hrel
        have HG := Lib.hid hg
        have hnx : ∀ ty, (Instr.next (.pointer (some ⟨w.heap.size + 1 + gx.blocks.size, 0, none⟩)) true ty).run Tryd.prog wr = _ := fun ty => run_next_over wr _ t 0 ty hT (by omega)
        clear hT hg
        go_wp2
        go_ret
        exact ⟨rfl, HG.out⟩
    · have hzd : decide (t.size = 0) = false := by simpa using hz
      rw [hzd, Bool.false_or]
      have e1 : t.toList.isEmpty = false := by
        have : t.toList.length = t.size := by rw [ByteArray.toList_eq]; exact Array.length_toList
        cases hl : t.toList with
        | nil => rw [hl] at this; simp at this; omega
        | cons x y => rfl
      clear hn
      generalize hb : Scr.texts k = tb
      have HB := Lib.hid hb
      clear hb
      cases tb
      case false =>
        rw [Bool.false_and]
        go_enter Tryd.func6, Tryd.ntmps6
        go_wp2_with (first | (go_at_call 15; refine (RC.out _).mono ?_; rintro e w' ⟨rfl, gx, rfl⟩) | (go_at_call 13; refine (texts_any _ _).mono ?_; rw [HB.out]; rintro e w' ⟨rfl, rfl⟩))
        go_ret
        exact ⟨rfl, by repeat (first | with_reducible exact HG.out | with_reducible exact Grew.refl _ | with_reducible assumption | with_reducible apply Grew.plus | with_reducible apply Grew.drewN | with_reducible apply Grew.drew | with_reducible apply Grew.alloc | with_reducible refine Grew.setCell ?_ (by simp [go_sem]; try omega) _)⟩
      case true =>
        rw [Bool.true_and]
        go_enter Tryd.func6, Tryd.ntmps6
        go_wp2_with (first | (go_at_call 15; refine (RC.out _).mono ?_; rintro e w' ⟨rfl, gx, rfl⟩) | (go_at_call 13; refine (texts_any _ _).mono ?_; rw [HB.out]; rintro e w' ⟨rfl, rfl⟩))
        go_loopg [4, 5, 6] t.size (fun g s4 s5 s6 wr => ∃ pos : Nat, g = t.size - pos ∧ (Scr.runesAt t pos).all Scr.alpha = (Scr.runesT t).all Scr.alpha ∧ Grew w wr ∧ wr.heap[w.heap.size + 1 + gx.blocks.size]? = some (.stringIter t pos))
        case atStart => exact ⟨0, rfl, by simp [Scr.runesAt, Scr.runesT], ((((Grew.refl w).alloc _).plus gx).alloc _), heap_alloc_at _ _ _ (by simp [go_sem])⟩
        case round =>
          obtain ⟨pos, hgm, hall, hg, hT⟩ := hrel
          have HT := Lib.hid hT
          have HG := Lib.hid hg
          have HGM := Lib.hid hgm
          have HALL := Lib.hid hall
          clear hgm hall hg
          by_cases hp : pos < t.size
          · have hnx : ∀ ty, (Instr.next (.pointer (some ⟨w.heap.size + 1 + gx.blocks.size, 0, none⟩)) true ty).run Tryd.prog wr = _ := fun ty => run_next_it wr _ t pos ty hT hp
            have hd := Scr.decode_pos t pos
            have HC := Lib.hid (Scr.runesAt_cons t pos hp)
            have hle := decode_le t pos
            have hlt : w.heap.size + 1 + gx.blocks.size < wr.heap.size := (Array.getElem?_eq_some_iff.1 hT).1
            clear hT
            generalize Utf8.decode t pos = dd at *
            obtain ⟨ch, wd⟩ := dd
            simp only at hnx hd hle
            have LC := Lib.hid (fun w => least_any ch (by omega) (by omega) w)
            generalize hal : Scr.alpha ch = al at *
            have HAL := Lib.hid hal
            clear hal
            cases al
            case false =>
              go_wp2_with (go_at_call 16; refine (LC.out _).mono ?_; rintro e w' ⟨rfl, rfl⟩)
              go_ret
              refine ⟨?_, HG.out.putObj (by omega) _⟩
              rw [← HALL.out, HC.out, List.all_cons, HAL.out, Bool.false_and]; rfl
            case true =>
              go_wp2_with (go_at_call 16; refine (LC.out _).mono ?_; rintro e w' ⟨rfl, rfl⟩)
              go_roundg (t.size - (pos + wd))
              case measure => rw [HGM.out]; omega
              case rel => exact ⟨pos + wd, rfl, by rw [← HALL.out, HC.out, List.all_cons, HAL.out, Bool.true_and], HG.out.putObj (by omega) _, World.putObj_same _ _ _ hlt⟩
          · have hnx : ∀ ty, (Instr.next (.pointer (some ⟨w.heap.size + 1 + gx.blocks.size, 0, none⟩)) true ty).run Tryd.prog wr = _ := fun ty => run_next_over wr _ t pos ty hT hp
            have hn := Scr.runesAt_nil t pos hp
            have HN := Lib.hid hn
            clear hn hT
            go_wp2
            go_ret
            refine ⟨?_, HG.out⟩
            rw [← HALL.out, HN.out]; rfl

theorem plain_any (k a b c : Int) (t : ByteArray) (w : World) (ht : t.size ≤ 9223372036854775806) :
    Calls Tryd.prog 6 #[.agg #[.int .i64 k, .int .i64 a, .int .i64 b, .int .i64 c, .string t]] w fun e w' => e = .returned (.bool (Scr.plainB ⟨k, a, b, c, t⟩)) ∧ Grew w w' := by
  by_cases h : (0 ≤ k ∧ k < 14) ∧ 0 ≤ min (min a b) c ∧ max (max a b) c ≤ 255
  · exact plain_in k a b c t w ht h.1 h.2.1 h.2.2
  · exact plain_out k a b c t w h
end Go.Proofs.YtkdjejokhbdokaaDoor
