/- The walk of the law ClockOrder: Covers is an order, Merge the least that covers both, Meet the greatest that both cover. -/
import Derived.Test.YtaaibekhoondcaaDoorProg
import Derived.Test.YtaaibekhoondcaaDoorTick
import Derived.Deep.DeepCutAuto
import Derived.Deep.RegionHeld3
namespace Go.Proofs.YtaaibekhoondcaaDoor
open Go.RowKit
set_option linter.unusedSimpArgs false
set_option linter.unusedVariables false

theorem C8x_merge_meet (a b : C8) : a.merge (a.meet b) = a := by
  obtain ⟨⟩ := a; obtain ⟨⟩ := b
  simp only [C8.merge, C8.meet, C8.mk.injEq]; omega
theorem C8x_meet_merge (a b : C8) : a.meet (a.merge b) = a := by
  obtain ⟨⟩ := a; obtain ⟨⟩ := b
  simp only [C8.merge, C8.meet, C8.mk.injEq]; omega
theorem C8x_assoc (a b c : C8) : (a.merge b).merge c = a.merge (b.merge c) := by
  obtain ⟨⟩ := a; obtain ⟨⟩ := b; obtain ⟨⟩ := c
  simp only [C8.merge, C8.mk.injEq]; omega
theorem C8x_merge_left (a b : C8) : (a.merge b).covers a = true := by
  simp only [C8.covers_iff, C8.merge]; omega
theorem C8x_merge_right (a b : C8) : (a.merge b).covers b = true := by
  simp only [C8.covers_iff, C8.merge]; omega
theorem C8x_meet_left (a b : C8) : a.covers (a.meet b) = true := by
  simp only [C8.covers_iff, C8.meet]; omega
theorem C8x_meet_right (a b : C8) : b.covers (a.meet b) = true := by
  simp only [C8.covers_iff, C8.meet]; omega

theorem C8x_compare (a b : C8) : (a = b ∧ a.compare b = 0 ∧ b.compare a = 0) ∨ (a ≠ b ∧ ((a.compare b = 1 ∧ b.compare a = 2) ∨ (a.compare b = 2 ∧ b.compare a = 1) ∨ (a.compare b = 3 ∧ b.compare a = 3))) := by
  by_cases hab : a = b
  · subst hab; left; simp [C8.compare]
  · right
    refine ⟨hab, ?_⟩
    have hba : ¬ b = a := fun e => hab e.symm
    rw [C8.compare, C8.compare, if_neg hab, if_neg hba]
    by_cases h1 : a.covers b = true
    · by_cases h2 : b.covers a = true
      · exact absurd (C8.covers_antisymm a b h1 h2) hab
      · rw [if_neg h2, if_pos h1, if_pos h1]; right; left; exact ⟨rfl, rfl⟩
    · by_cases h2 : b.covers a = true
      · rw [if_pos h2, if_neg h1, if_pos h2]; left; exact ⟨rfl, rfl⟩
      · rw [if_neg h2, if_neg h1, if_neg h1, if_neg h2]; right; right; exact ⟨rfl, rfl⟩

set_option maxRecDepth 100000 in
set_option maxHeartbeats 8000000 in
theorem clockOrder_walk (a b c : C8) (w : World) :
    Calls Tryd.prog 6 #[.agg a.cells, .agg b.cells, .agg c.cells] w fun e w' => e = .returned (.bool true) ∧ Grew w w' := by
  have hrefl := C8.covers_refl a
  go_enter Tryd.func6, Tryd.ntmps6
  go_upto_region 1 with fail
  go_cut [45] (fun s45 wc => s45 = .bool false ∧ Grew (((w.alloc (.cells a.cells 24)).alloc (.cells b.cells 24)).alloc (.cells c.cells 24)) wc)
  case first => as_aux_lemma =>
    generalize h1 : a.covers b = q1
    generalize h2 : b.covers a = q2
    cases q1
    case false =>
      go_wp2_with (first | (go_at_call 20; refine (covers_any _ _ _).mono ?_; rintro e w' ⟨rfl, gx, rfl⟩))
      go_meet
      exact ⟨rfl, by repeat (first | with_reducible exact Grew.refl _ | with_reducible assumption | with_reducible apply Grew.plus | with_reducible apply Grew.drewN | with_reducible apply Grew.drew | with_reducible apply Grew.alloc | with_reducible refine Grew.setCell ?_ (by simp [go_sem]; try omega) _)⟩
    case true =>
      cases q2
      case false =>
        generalize h3 : b.covers c = q3
        cases q3
        case false =>
          go_wp2_with (first | (go_at_call 20; refine (covers_any _ _ _).mono ?_; rintro e w' ⟨rfl, gx, rfl⟩))
          go_meet
          exact ⟨rfl, by repeat (first | with_reducible exact Grew.refl _ | with_reducible assumption | with_reducible apply Grew.plus | with_reducible apply Grew.drewN | with_reducible apply Grew.drew | with_reducible apply Grew.alloc | with_reducible refine Grew.setCell ?_ (by simp [go_sem]; try omega) _)⟩
        case true =>
          have h4 := C8.covers_trans a b c h1 h3
          go_wp2_with (first | (go_at_call 20; refine (covers_any _ _ _).mono ?_; rintro e w' ⟨rfl, gx, rfl⟩))
          go_meet
          exact ⟨rfl, by repeat (first | with_reducible exact Grew.refl _ | with_reducible assumption | with_reducible apply Grew.plus | with_reducible apply Grew.drewN | with_reducible apply Grew.drew | with_reducible apply Grew.alloc | with_reducible refine Grew.setCell ?_ (by simp [go_sem]; try omega) _)⟩
      case true =>
        obtain rfl := C8.covers_antisymm a b h1 h2
        generalize h3 : a.covers c = q3
        cases q3
        all_goals
          go_wp2_with (first | (go_at_call 20; refine (covers_any _ _ _).mono ?_; rintro e w' ⟨rfl, gx, rfl⟩))
          go_meet
          exact ⟨rfl, by repeat (first | with_reducible exact Grew.refl _ | with_reducible assumption | with_reducible apply Grew.plus | with_reducible apply Grew.drewN | with_reducible apply Grew.drew | with_reducible apply Grew.alloc | with_reducible refine Grew.setCell ?_ (by simp [go_sem]; try omega) _)⟩
  case rest =>
    obtain ⟨rfl, X, rfl⟩ := hcut
    go_upto_region 3 with fail
    go_cut [7, 8] (fun s7 s8 wc => ∃ p q : Nat, s7 = .pointer (some ⟨p, 0, none⟩) ∧ s8 = .pointer (some ⟨q, 0, none⟩) ∧ wc.cellsAt ⟨p, 0, none⟩ 8 = some (a.merge b).cells.toList ∧ wc.cellsAt ⟨q, 0, none⟩ 8 = some (a.meet b).cells.toList ∧ Grew (((w.alloc (.cells a.cells 24)).alloc (.cells b.cells 24)).alloc (.cells c.cells 24)) wc)
    case first => as_aux_lemma =>
      have f1 : (((w.alloc (.cells a.cells 24)).alloc (.cells b.cells 24)).alloc (.cells c.cells 24)).cellsAt ⟨w.heap.size, 0, none⟩ 8 = some a.cells.toList := by simp [go_sem]
      have f2 : (((w.alloc (.cells a.cells 24)).alloc (.cells b.cells 24)).alloc (.cells c.cells 24)).cellsAt ⟨w.heap.size + 1, 0, none⟩ 8 = some b.cells.toList := by simp [go_sem]
      have f0 : Grew (((w.alloc (.cells a.cells 24)).alloc (.cells b.cells 24)).alloc (.cells c.cells 24)) ((((w.alloc (.cells a.cells 24)).alloc (.cells b.cells 24)).alloc (.cells c.cells 24)).plus X) := ⟨X, rfl⟩
      go_region_held3 (fun w' => w'.cellsAt ⟨w.heap.size, 0, none⟩ 8 = some a.cells.toList ∧ w'.cellsAt ⟨w.heap.size + 1, 0, none⟩ 8 = some b.cells.toList) (simp [go_sem, *])
        (first | (go_at_call 24; refine (merge_any a b _).mono ?_; rintro e w' ⟨rfl, gx, rfl⟩) | (go_at_call 26; refine (meet_any a b _).mono ?_; rintro e w' ⟨rfl, gx, rfl⟩))
      all_goals as_aux_lemma =>
        go_wp2_with fail
        go_meet
        exact ⟨_, _, rfl, rfl, by simp [go_sem], by simp [go_sem], by repeat (first | with_reducible exact Grew.refl _ | with_reducible assumption | with_reducible apply Grew.plus | with_reducible apply Grew.drewN | with_reducible apply Grew.drew | with_reducible apply Grew.alloc | with_reducible refine Grew.setCell ?_ (by simp [go_sem]; try omega) _)⟩
    case rest => as_aux_lemma =>
      obtain ⟨p, q, rfl, rfl, hp, hq, X2, rfl⟩ := hcut
      have m1 := C8x_merge_left a b
      have m2 := C8x_merge_right a b
      have m3 := C8x_meet_left a b
      have m4 := C8x_meet_right a b
      go_wp2_with (first | (go_at_call 20; refine (covers_any _ _ _).mono ?_; rintro e w' ⟨rfl, gx, rfl⟩))
      go_cut [99] (fun s99 wc => s99 = .bool false ∧ Grew ((((w.alloc (.cells a.cells 24)).alloc (.cells b.cells 24)).alloc (.cells c.cells 24)).plus X2) wc)
      case first => as_aux_lemma =>
        have c1 := C8.covers_merge c a b
        have c2 := C8.meet_covers a b c
        generalize h5 : c.covers a = q5 at *
        generalize h4 : a.covers c = q4 at *
        have C5 : Hid (∀ w, Calls Tryd.prog 20 #[.agg c.cells, .agg a.cells] w fun e w' => e = .returned (.bool q5) ∧ Grew w w') := fun w => by
          have := covers_any c a w
          rw [h5] at this
          exact this
        have C4 : Hid (∀ w, Calls Tryd.prog 20 #[.agg a.cells, .agg c.cells] w fun e w' => e = .returned (.bool q4) ∧ Grew w w') := fun w => by
          have := covers_any a c w
          rw [h4] at this
          exact this
        clear h5 h4 m1 m2 m3 m4 hrefl
        cases q5
        all_goals cases q4
        all_goals simp only [Bool.true_and, Bool.false_and] at c1 c2
        all_goals
          refine wp_region_plus (by kernel_rfl) (by kernel_rfl) ?_
          repeat (go_big_quiet_step ((first | with_reducible (go_at_call 20; exact Calls.grew_of (C5.out _)) | with_reducible (go_at_call 20; exact Calls.grew_of (C4.out _)) | (go_at_call 20; exact Calls.grew_of (covers_any _ _ _)))))
          refine wpQuiet_nil ?_
          intro _ hw'
          obtain ⟨nx, rfl⟩ := hw'
          go_wp2_with fail
          go_meet
          exact ⟨rfl, by repeat (first | with_reducible exact Grew.refl _ | with_reducible assumption | with_reducible apply Grew.plus | with_reducible apply Grew.drewN | with_reducible apply Grew.drew | with_reducible apply Grew.alloc | with_reducible refine Grew.setCell ?_ (by simp [go_sem]; try omega) _)⟩
      case rest => as_aux_lemma =>
        obtain ⟨rfl, X3, rfl⟩ := hcut
        go_upto_region 10 with (go_at_call 22; refine (compare_any _ _ _).mono ?_; rintro e w' ⟨rfl, gx, rfl⟩)
        go_cut [10, 126] (fun s10 s126 wc => s126 = .bool false ∧ Grew ((((w.alloc (.cells a.cells 24)).alloc (.cells b.cells 24)).alloc (.cells c.cells 24)).plus X2) wc)
        case first => as_aux_lemma =>
          have K := C8x_compare a b
          clear m1 m2 m3 m4 hrefl
          rcases K with ⟨rfl, k1, k2⟩ | ⟨hab, ⟨k1, k2⟩ | ⟨k1, k2⟩ | ⟨k1, k2⟩⟩
          all_goals
            rw [k1]
            refine wp_region_plus (by kernel_rfl) (by kernel_rfl) ?_
            repeat (go_big_quiet_step ((first | (go_at_call 22; exact Calls.grew_of (compare_any _ _ _)))))
            refine wpQuiet_nil ?_
            intro _ hw'
            obtain ⟨nx, rfl⟩ := hw'
            go_wp2_with fail
            go_meet
            exact ⟨rfl, by repeat (first | with_reducible exact Grew.refl _ | with_reducible assumption | with_reducible apply Grew.plus | with_reducible apply Grew.drewN | with_reducible apply Grew.drew | with_reducible apply Grew.alloc | with_reducible refine Grew.setCell ?_ (by simp [go_sem]; try omega) _)⟩
        case rest => as_aux_lemma =>
          obtain ⟨rfl, X4, rfl⟩ := hcut
          have e1 := C8x_merge_meet a b
          have e2 := C8x_meet_merge a b
          have e3 := C8x_assoc a b c
          go_wp2_with fail
          refine wp_region_plus (by kernel_rfl) (by kernel_rfl) ?_
          repeat (go_big_quiet_step ((first | (go_at_call 24; exact Calls.grew_of (merge_any _ _ _)) | (go_at_call 26; exact Calls.grew_of (meet_any _ _ _)) | (go_at_call 15; exact Calls.grew_of (wakes3 _)))))
          refine wpQuiet_nil ?_
          intro _ hw'
          obtain ⟨nx, rfl⟩ := hw'
          go_wp2
          go_ret
          exact ⟨rfl, by repeat (first | with_reducible exact Grew.refl _ | with_reducible assumption | with_reducible apply Grew.plus | with_reducible apply Grew.drewN | with_reducible apply Grew.drew | with_reducible apply Grew.alloc | with_reducible refine Grew.setCell ?_ (by simp [go_sem]; try omega) _)⟩
end Go.Proofs.YtaaibekhoondcaaDoor
