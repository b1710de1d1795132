/- Walks: the statements' cut of a list of steps; the laws ScriptBack and ScriptJoins. -/
import Derived.Test.YtkdjejokhbdokaaScrWr
import Derived.Test.YtkdjejokhbdokaaScrL
namespace Go.Proofs.Ytkdjejokhbdokaa
open Go.RowKit
set_option linter.unusedSimpArgs false
set_option linter.unusedVariables false

def cutStep (s : StepD) : StepD := if 80 < s.text.size then { s with text := s.text.extract 0 80 } else s
def cutL (xs : List StepD) : List StepD := (xs.take 200).map cutStep
theorem cutStep_size (s : StepD) : (cutStep s).text.size ≤ 80 := by
  unfold cutStep
  split
  · simp; omega
  · omega
theorem cut_snoc (xs : List StepD) (k : Nat) (h : k < xs.length) : stepCells ((xs.take (k + 1)).map cutStep) = stepCells ((xs.take k).map cutStep) ++ (Scr.cells (cutStep xs[k])).toList := by
  rw [List.take_succ_eq_append_getElem h]
  simp only [List.map_append, List.map_cons, List.map_nil, stepCells, List.flatMap_append, List.flatMap_cons, List.flatMap_nil, List.append_nil]

set_option maxRecDepth 100000 in
set_option maxHeartbeats 1000000 in
theorem cut_any (a : Option Addr) (cap : Nat) (xs : List StepD) (w : World) (hin : CellsIn w a (stepCells xs)) (hcap : xs.length ≤ cap) (hm : cap ≤ 9223372036854775807) (htx : ∀ s ∈ xs, s.text.size ≤ 9223372036854775807) :
    Calls Try.prog 19 #[.slice a xs.length cap] w fun e w' => ∃ v, e = .returned v ∧ Grew w w' ∧ w'.ownsRow w.heap.size 29 5 v (cutL xs).length (stepCells (cutL xs)) := by
  have Hin := Lib.hid hin
  have Htx := Lib.hid htx
  clear hin htx
  go_enter Try.func19, Try.ntmps19
  go_wp2_with fail
  go_loopg [3, 4] 200 (fun g s3 s4 wr => ∃ (k : Nat) (va : Option Addr) (vc : Nat), s3 = .slice va k vc ∧ s4 = .int .i64 k ∧ k ≤ xs.length ∧ k ≤ 200 ∧ g = 200 - k ∧ wr.ownsRow w.heap.size 29 5 s3 k (stepCells ((xs.take k).map cutStep)) ∧ Grew w wr)
  case atStart => exact ⟨0, none, 0, rfl, rfl, by omega, by omega, rfl, World.ownsRow_nil _ _ _ _, Grew.refl w⟩
  case round =>
    obtain ⟨k, va, vc, rfl, rfl, hk, hk2, hgm, ho, hg⟩ := hrel
    have HO := Lib.hid ho
    have HG := Lib.hid hg
    have HGM := Lib.hid hgm
    have hsz := hg.size
    by_cases hgo : k < xs.length ∧ k < 200
    · obtain ⟨hlt, hlt2⟩ := hgo
      obtain ⟨b, off, rfl, hb, hr⟩ := (Hin.out.grew hg).rowAt _ 5 len_cells (by omega) (by omega)
      have hrow := hr k hlt
      have hts := Htx.out xs[k] (List.getElem_mem hlt)
      have HS := Lib.hid (cut_snoc xs k hlt)
      clear hr hg ho hgm
      generalize xs[k] = s at *
      obtain ⟨sk, sa, sb, sc, st⟩ := s
      simp only [Scr.cells] at hrow hts
      by_cases h80 : 80 < st.size
      · have HC : Hid (cutStep ⟨sk, sa, sb, sc, st⟩ = ⟨sk, sa, sb, sc, st.extract 0 80⟩) := by show cutStep _ = _; unfold cutStep; rw [if_pos h80]
        go_wp2_with (at_builtin; go_loud (refine wpList_app (by rfl) _ _ 24 (by rfl) elStep w.heap.size _ k (stepCells ((xs.take k).map cutStep)) (by rfl) (HO.out.alloc _ |>.alloc _) _ 1 1 #[.int .i64 sk, .int .i64 sa, .int .i64 sb, .int .i64 sc, .string (st.extract 0 80)] 29 (by rfl) (heap_alloc_at _ _ _ (by simp [go_sem])) (by rfl) (by intro u hu; simp at hu; rcases hu with rfl | rfl | rfl | rfl | rfl <;> rfl) (by omega) (by omega) (by unfold maxLen; omega) w (by repeat (first | with_reducible exact HG.out | with_reducible exact Grew.refl _ | with_reducible assumption | with_reducible apply Grew.plus | with_reducible apply Grew.drewN | with_reducible apply Grew.drew | with_reducible apply Grew.alloc | with_reducible refine Grew.setCell ?_ (by simp [go_sem]; try omega) _)) (by omega) (by simp [go_sem]; omega) ?_); intro g cap1 w1 hg1 hown1 hkeep hsz1 hat; have HO1 := Lib.hid hown1; have HG1 := Lib.hid hg1; clear hown1 hg1 hkeep hat)
        go_roundg (200 - (k + 1))
        case measure => rw [HGM.out]; omega
        case rel => exact ⟨k + 1, some ⟨g, 0, none⟩, cap1, rfl, by go_num, by omega, by omega, rfl, by rw [HS.out, HC.out]; exact HO1.out, HG1.out⟩
      · have HC : Hid (cutStep ⟨sk, sa, sb, sc, st⟩ = ⟨sk, sa, sb, sc, st⟩) := by show cutStep _ = _; unfold cutStep; rw [if_neg h80]
        go_wp2_with (at_builtin; go_loud (refine wpList_app (by rfl) _ _ 24 (by rfl) elStep w.heap.size _ k (stepCells ((xs.take k).map cutStep)) (by rfl) (HO.out.alloc _ |>.alloc _) _ 1 1 #[.int .i64 sk, .int .i64 sa, .int .i64 sb, .int .i64 sc, .string st] 29 (by rfl) (heap_alloc_at _ _ _ (by simp [go_sem])) (by rfl) (by intro u hu; simp at hu; rcases hu with rfl | rfl | rfl | rfl | rfl <;> rfl) (by omega) (by omega) (by unfold maxLen; omega) w (by repeat (first | with_reducible exact HG.out | with_reducible exact Grew.refl _ | with_reducible assumption | with_reducible apply Grew.plus | with_reducible apply Grew.drewN | with_reducible apply Grew.drew | with_reducible apply Grew.alloc | with_reducible refine Grew.setCell ?_ (by simp [go_sem]; try omega) _)) (by omega) (by simp [go_sem]; omega) ?_); intro g cap1 w1 hg1 hown1 hkeep hsz1 hat; have HO1 := Lib.hid hown1; have HG1 := Lib.hid hg1; clear hown1 hg1 hkeep hat)
        go_roundg (200 - (k + 1))
        case measure => rw [HGM.out]; omega
        case rel => exact ⟨k + 1, some ⟨g, 0, none⟩, cap1, rfl, by go_num, by omega, by omega, rfl, by rw [HS.out, HC.out]; exact HO1.out, HG1.out⟩
    · have he : xs.take k = xs.take 200 := by
        by_cases h : k < 200
        · rw [List.take_of_length_le (by omega), List.take_of_length_le (by omega)]
        · rw [show k = 200 by omega]
      have hk3 : k = (cutL xs).length := by
        unfold cutL
        rw [← he]; simp; omega
      have HE := Lib.hid he
      have HK := Lib.hid hk3
      clear he hk3 ho hg hgm
      rcases (show (k < xs.length ∧ 200 ≤ k) ∨ ¬ k < xs.length by omega) with ⟨h1, h2⟩ | h1
      all_goals
        clear hgo
        go_wp2_with fail
        go_ret
        refine ⟨_, rfl, HG.out, ?_⟩
        rw [← HK.out]
        have := HO.out
        rw [HE.out] at this
        exact this

theorem cutL_len (xs : List StepD) : (cutL xs).length ≤ 200 := by simp [cutL]; omega
theorem cutL_size (xs : List StepD) : ∀ s ∈ cutL xs, s.text.size ≤ 80 := by
  intro s hs
  simp only [cutL, List.mem_map] at hs
  obtain ⟨x, _, rfl⟩ := hs
  exact cutStep_size x
theorem filter_snoc (l : List StepD) (k : Nat) (h : k < l.length) : (l.take (k + 1)).filter Scr.plainB = (l.take k).filter Scr.plainB ++ if Scr.plainB l[k] then [l[k]] else [] := by
  rw [List.take_succ_eq_append_getElem h, List.filter_append, List.filter_cons, List.filter_nil]

set_option maxRecDepth 100000 in
set_option maxHeartbeats 1000000 in
theorem scriptBack_walk (a : Option Addr) (xs : List StepD) (cap : Nat) (w : World) (ha : CellsIn w a (stepCells xs)) (hcap : xs.length ≤ cap) (hm : cap ≤ 9223372036854775807) (htx : ∀ s ∈ xs, s.text.size ≤ 9223372036854775807) :
    Calls Try.prog 6 #[.slice a xs.length cap] w fun e w' => e = .returned (.bool true) ∧ Grew w w' := by
  have CC := Lib.hid (cut_any a cap xs w ha hcap hm htx)
  have hl2 := cutL_len xs
  have hls := cutL_size xs
  clear ha htx
  generalize cutL xs = l at *
  have HLS := Lib.hid hls
  clear hls
  go_enter Try.func6, Try.ntmps6
  go_wp2_with fail
  refine CC.out.mono ?_
  rintro e w1 ⟨v, rfl, hg1, ho1⟩
  obtain ⟨la, lc, rfl, hl3, hl4, _, _, _⟩ := ho1.rd
  have HO1 := Lib.hid ho1
  have HG1 := Lib.hid hg1
  have hs1 := hg1.size
  clear ho1 hg1 CC
  go_wp2_with fail
  go_loopg [3, 4] l.length (fun g s3 s4 wr => ∃ (k m : Nat) (va : Option Addr) (vc : Nat), s3 = .slice va m vc ∧ s4 = .int .i64 k ∧ k ≤ l.length ∧ g = l.length - k ∧ m ≤ k ∧ m = ((l.take k).filter Scr.plainB).length ∧ wr.ownsRow w1.heap.size 29 5 s3 m (stepCells ((l.take k).filter Scr.plainB)) ∧ wr.ownsRow w.heap.size 29 5 (.slice la l.length lc) l.length (stepCells l) ∧ Grew w wr ∧ w1.heap.size ≤ wr.heap.size)
  case atStart => exact ⟨0, 0, none, 0, rfl, rfl, by omega, rfl, by omega, rfl, World.ownsRow_nil _ _ _ _, HO1.out, HG1.out, Nat.le_refl _⟩
  case round =>
    obtain ⟨k, m, va, vc, rfl, rfl, hk, hgm, hmk, hmf, ho, hol, hg, hsz⟩ := hrel
    have HO := Lib.hid ho
    have HOL := Lib.hid hol
    have HG := Lib.hid hg
    have HGM := Lib.hid hgm
    have HMF := Lib.hid hmf
    have HLB : Hid (∀ q, (Value.slice la l.length lc).ownBlock = some q → q < w1.heap.size) := fun q hq => (HO1.out.lt q hq).2
    clear ho hol hg hgm hmf
    by_cases hlt : k < l.length
    · obtain ⟨b, off, rfl, hb, hr⟩ := HOL.out.cin.rowAt _ 5 len_cells (by omega) (by omega)
      have hrow := hr k hlt
      have hts := HLS.out l[k] (List.getElem_mem hlt)
      have HS := Lib.hid (filter_snoc l k hlt)
      clear hr
      generalize l[k] = s at *
      obtain ⟨sk, sa, sb, sc, st⟩ := s
      simp only [Scr.cells] at hrow hts
      generalize hp : Scr.plainB ⟨sk, sa, sb, sc, st⟩ = pb at *
      have PC : Hid (∀ w, Calls Try.prog 20 #[.agg #[.int .i64 sk, .int .i64 sa, .int .i64 sb, .int .i64 sc, .string st]] w fun e w' => e = .returned (.bool pb) ∧ Grew w w') := fun w => by rw [← hp]; exact plain_any sk sa sb sc st w (by omega)
      clear hp
      cases pb
      case false =>
        go_wp2_with (go_at_call 20; refine (PC.out _).mono ?_; rintro e w' ⟨rfl, gx, rfl⟩)
        go_roundg (l.length - (k + 1))
        case measure => rw [HGM.out]; omega
        case rel => exact ⟨k + 1, m, va, vc, rfl, by go_num, by omega, rfl, by omega, by rw [HS.out, HMF.out]; simp, by rw [HS.out]; simpa using HO.out.grew ⟨gx, rfl⟩, HOL.out.grew ⟨gx, rfl⟩, by repeat (first | with_reducible exact HG.out | with_reducible exact Grew.refl _ | with_reducible assumption | with_reducible apply Grew.plus | with_reducible apply Grew.drewN | with_reducible apply Grew.drew | with_reducible apply Grew.alloc | with_reducible refine Grew.setCell ?_ (by simp [go_sem]; try omega) _), by rw [World.size_plus]; omega⟩
      case true =>
        go_wp2_with (first | (go_at_call 20; refine (PC.out _).mono ?_; rintro e w' ⟨rfl, gx, rfl⟩) | (at_builtin; refine wpList_app (by rfl) _ _ 24 (by rfl) elStep w1.heap.size _ m (stepCells ((l.take k).filter Scr.plainB)) (by rfl) ((HO.out.grew ⟨gx, rfl⟩).alloc _) _ 1 1 #[.int .i64 sk, .int .i64 sa, .int .i64 sb, .int .i64 sc, .string st] 29 (by rfl) (heap_alloc_at _ _ _ (by simp [go_sem])) (by rfl) (by intro u hu; simp at hu; rcases hu with rfl | rfl | rfl | rfl | rfl <;> rfl) (by omega) (by omega) (by unfold maxLen; omega) w (by repeat (first | with_reducible exact HG.out | with_reducible exact Grew.refl _ | with_reducible assumption | with_reducible apply Grew.plus | with_reducible apply Grew.drewN | with_reducible apply Grew.drew | with_reducible apply Grew.alloc | with_reducible refine Grew.setCell ?_ (by simp [go_sem]; try omega) _)) (by omega) (by simp [go_sem]; omega) ?_; intro g cap1 w2 hg2 hown2 hkeep hsz2 hat; have HO2 := Lib.hid hown2; have HG2 := Lib.hid hg2; have HL2 := Lib.hid (((HOL.out.grew ⟨gx, rfl⟩).alloc _).keep (fun q hq => hkeep q ((((HOL.out.grew ⟨gx, rfl⟩).alloc _).lt q hq).2) (fun e => by have h1 := (HO.out.lt q e.symm).1; have h2 := HLB.out q hq; omega))); have HS2 : Hid (w1.heap.size ≤ w2.heap.size) := Nat.le_trans (by simp [go_sem]; omega) hsz2; clear hown2 hg2 hkeep hat hsz2))
        go_roundg (l.length - (k + 1))
        case measure => rw [HGM.out]; omega
        case rel => exact ⟨k + 1, m + 1, some ⟨g, 0, none⟩, cap1, rfl, by go_num, by omega, rfl, by omega, by rw [HS.out, HMF.out]; simp, by rw [HS.out]; simpa [stepCells, Scr.cells] using HO2.out, HL2.out, HG2.out, HS2.out⟩
    · obtain rfl : k = l.length := by omega
      have hfull : l.take l.length = l := List.take_of_length_le (Nat.le_refl _)
      have HF := Lib.hid hfull
      clear hfull
      go_wp2_with fail
      refine (write_any la lc l wr HOL.out.cin hl3 hl4 (by omega) (fun s hs => by have := HLS.out s hs; omega)).mono ?_
      rintro e w3 ⟨v, rfl, hg3, ho3⟩
      obtain ⟨ba, bc, rfl, hb3, hb4, hbin, _, _⟩ := ho3.rd
      have hwl := Scr.writeL_len l
      have HG3 := Lib.hid (HG.out.trans hg3)
      have HO3 := Lib.hid (HO.out.grew hg3)
      have HB3 := Lib.hid hbin
      clear ho3 hg3 hbin
      have RD := Lib.hid (read_any ba bc (Scr.writeL l) w3 HB3.out hb3 hb4 (by omega))
      generalize hbl : (Scr.writeL l).length = bl at *
      go_wp2_with fail
      refine RD.out.mono ?_
      rw [Scr.back]
      rintro e w4 ⟨v, rfl, hg4, ho4⟩
      obtain ⟨ra, rc, rfl, hr3, hr4, hrin, _, _⟩ := ho4.rd
      have HG4 := Lib.hid (HG3.out.trans hg4)
      have HO4 := HO3.out.grew hg4
      rw [HF.out] at HO4
      have hm' := HMF.out
      rw [HF.out] at hm'
      have ST := Lib.hid (steps_eq ra va rc vc (l.filter Scr.plainB) w4 hrin HO4.cin hr3 (by have := HO4.caps; omega) hr4 HO4.caps.2)
      rw [← hm'] at ST
      have HM' := Lib.hid hm'
      clear ho4 hg4 hrin HO4 hm' RD hbl
      rw [← HM'.out]
      go_wp2_with fail
      refine ST.out.mono ?_
      rintro e w' ⟨rfl, gx, rfl⟩
      go_wp2_with (go_at_call 14; refine (wakes18 _).mono ?_; rintro e w' ⟨rfl, gy, rfl⟩)
      go_ret
      exact ⟨rfl, (HG4.out.plus gx).plus gy⟩
end Go.Proofs.Ytkdjejokhbdokaa
