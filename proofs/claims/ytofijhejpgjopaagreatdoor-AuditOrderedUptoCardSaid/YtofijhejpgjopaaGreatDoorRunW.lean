/- Walks: what is cut and kept of elements; the reference's authors, its characters, its view. -/
import Derived.Test.YtofijhejpgjopaaGreatDoorRun
import Derived.Test.YtofijhejpgjopaaGreatDoorElL
import Derived.Test.YtofijhejpgjopaaGreatDoorUtf
namespace Go.Proofs.YtofijhejpgjopaaGreatDoor
open Go.RowKit
set_option linter.unusedSimpArgs false
set_option linter.unusedVariables false

theorem rright_any (c : Int) (w : World) : Calls Tryz.prog 37 #[.int .i32 c] w fun e w' => e = .returned (.bool (rightCh c)) ∧ Grew w w' := by
  unfold rightCh
  generalize h1 : decide (0 ≤ c) = b1
  generalize h2 : decide (c ≤ 1114111) = b2
  generalize h3 : decide (c < 55296) = b3
  generalize h4 : decide (57343 < c) = b4
  cases b1 <;> cases b2 <;> cases b3 <;> cases b4 <;> (
    go_enter Tryz.func37, Tryz.ntmps37
    go_wp2
    go_ret
    exact ⟨rfl, by repeat (first | with_reducible exact HG.out | with_reducible exact Grew.refl _ | with_reducible assumption | with_reducible apply Grew.plus | with_reducible apply Grew.drewN | with_reducible apply Grew.drew | with_reducible apply Grew.alloc | with_reducible refine Grew.setCell ?_ (by simp [go_sem]; try omega) _)⟩)
theorem rlive_any (e0 e1 e2 ch hd : Int) (w : World) : Calls Tryz.prog 41 #[.agg #[.int .i64 e0, .int .i64 e1, .int .i64 e2, .int .i32 ch, .int .i64 hd]] w fun e w' => e = .returned (.bool (decide (hd ≤ 0))) ∧ Grew w w' := by
  go_enter Tryz.func41, Tryz.ntmps41
  go_wp2
  go_ret
  exact ⟨rfl, by repeat (first | with_reducible exact HG.out | with_reducible exact Grew.refl _ | with_reducible assumption | with_reducible apply Grew.plus | with_reducible apply Grew.drewN | with_reducible apply Grew.drew | with_reducible apply Grew.alloc | with_reducible refine Grew.setCell ?_ (by simp [go_sem]; try omega) _)⟩
set_option maxRecDepth 100000 in
set_option maxHeartbeats 2000000 in
theorem right_any (l : List ElD) (a : Option Addr) (cap : Nat) (w : World) (ha : CellsIn w a (l.flatMap elRow)) (hl : l.length ≤ 1000000) :
    Calls Tryz.prog 11 #[.slice a l.length cap] w fun e w' => ∃ v, e = .returned v ∧ w'.ownsRow w.heap.size 71 5 v (rights l).length ((rights l).flatMap elRow) ∧ Grew w w' := by
  have HA := Lib.hid ha
  clear ha
  go_enter Tryz.func11, Tryz.ntmps11
  go_wp2_with fail
  go_loopw [3, 4] (fun s3 s4 wr => ∃ (k : Nat) (va : Option Addr) (vc : Nat), k ≤ l.length ∧ s4 = .int .i64 k ∧ s3 = .slice va (rights (l.take k)).length vc ∧ wr.ownsRow w.heap.size 71 5 s3 (rights (l.take k)).length ((rights (l.take k)).flatMap elRow) ∧ Grew w wr) (fun _ i _ => l.length - (intOf i).toNat)
  case atStart => exact ⟨0, none, 0, by omega, rfl, rfl, World.ownsRow_nil _ _ _ _, Grew.refl _⟩
  case round =>
    obtain ⟨k, va, vc, hk, rfl, rfl, hown, hg⟩ := hrel
    have HO := Lib.hid hown
    have HG := Lib.hid hg
    have hnl := rights_len (l.take k)
    rw [List.length_take, Nat.min_eq_left hk] at hnl
    clear hown
    by_cases hlt : k < l.length
    · obtain ⟨b, off, rfl, hbl, hrow⟩ := CellsIn.rowAt elRow 5 elRow_len (by omega) HA.out (by omega)
      have q := cellsAt_later hg (hrow k hlt) hbl
      have hts := take_snoc' l k hlt
      have hbw : b < wr.heap.size := Nat.lt_of_lt_of_le hbl hg.size
      clear hrow hg
      generalize l[k] = e at *
      obtain ⟨ep, rp, nb, ch, hd⟩ := e
      have HS := Lib.hid (show rights (l.take (k + 1)) = if rightCh ch then rights (l.take k) ++ [⟨ep, rp, nb, ch, hd⟩] else rights (l.take k) by rw [hts, rights_snoc])
      clear hts
      simp only [elRow] at q
      have q3 : wr.cell? ⟨b, off + k * 5 + 3, none⟩ = some (.int .i32 ch) := by rw [World.cellsAt_cell q 3 (by omega)]; rfl
      generalize hn : (rights (l.take k)).length = n at *
      have HN := Lib.hid hn
      clear hn
      have RR := fun W => rright_any ch W
      generalize hr : rightCh ch = r at RR
      have RC := Lib.hid RR
      rw [hr] at HS
      clear RR hr
      cases r
      case true =>
        have HT := Lib.hid (show rights (l.take (k + 1)) = rights (l.take k) ++ [⟨ep, rp, nb, ch, hd⟩] by rw [HS.out]; rfl)
        go_wp2_with (first
          | (go_at_call 37; refine (RC.out _).mono ?_; rintro e w' ⟨rfl, gx, rfl⟩)
          | (at_builtin; go_loud (refine wpList_app (by rfl) _ _ 27 (by rfl) elEl w.heap.size _ n ((rights (l.take k)).flatMap elRow) (by rfl) (HO.out.grew (by exact by repeat (first | with_reducible exact HG.out | with_reducible exact Grew.refl _ | with_reducible assumption | with_reducible apply Grew.plus | with_reducible apply Grew.drewN | with_reducible apply Grew.drew | with_reducible apply Grew.alloc | with_reducible refine Grew.setCell ?_ (by simp [go_sem]; try omega) _))) _ 1 1 #[.int .i64 ep, .int .i64 rp, .int .i64 nb, .int .i32 ch, .int .i64 hd] 71 (by rfl) (by exact heap_alloc_at _ _ _ (by first | rfl | (simp [go_sem]; done))) (by rfl) (by intro u hu; simp at hu; rcases hu with rfl | rfl | rfl | rfl | rfl <;> rfl) (by omega) (by omega) (by unfold maxLen; omega) w (HG.out.trans (by exact by repeat (first | with_reducible exact HG.out | with_reducible exact Grew.refl _ | with_reducible assumption | with_reducible apply Grew.plus | with_reducible apply Grew.drewN | with_reducible apply Grew.drew | with_reducible apply Grew.alloc | with_reducible refine Grew.setCell ?_ (by simp [go_sem]; try omega) _))) (Nat.le_refl _) (by have := HG.out.size; simp [go_sem]; omega) ?_); intro g c2 w2 hg2 hown2 hkeep2 hsz2 hat2; have HO2 := Lib.hid hown2; have HG2 := Lib.hid hg2; clear hown2 hg2 hkeep2 hat2))
        go_roundw
        case measure => simp [intOf]; omega
        case rel => exact ⟨k + 1, some ⟨g, 0, none⟩, c2, by omega, by go_num, by rw [HT.out, List.length_append, HN.out]; rfl, by rw [HT.out, List.length_append, HN.out, List.flatMap_append]; exact HO2.out, HG2.out⟩
      case false =>
        have HT := Lib.hid (show rights (l.take (k + 1)) = rights (l.take k) by rw [HS.out]; rfl)
        go_wp2_with (go_at_call 37; refine (RC.out _).mono ?_; rintro e w' ⟨rfl, gx, rfl⟩)
        go_roundw
        case measure => simp [intOf]; omega
        case rel => exact ⟨k + 1, va, vc, by omega, by go_num, by rw [HT.out, HN.out], by rw [HT.out, HN.out]; exact HO.out.grew (by repeat (first | with_reducible exact HG.out | with_reducible exact Grew.refl _ | with_reducible assumption | with_reducible apply Grew.plus | with_reducible apply Grew.drewN | with_reducible apply Grew.drew | with_reducible apply Grew.alloc | with_reducible refine Grew.setCell ?_ (by simp [go_sem]; try omega) _)), HG.out.trans (by repeat (first | with_reducible exact HG.out | with_reducible exact Grew.refl _ | with_reducible assumption | with_reducible apply Grew.plus | with_reducible apply Grew.drewN | with_reducible apply Grew.drew | with_reducible apply Grew.alloc | with_reducible refine Grew.setCell ?_ (by simp [go_sem]; try omega) _))⟩
    · obtain rfl : k = l.length := by omega
      rw [List.take_of_length_le (Nat.le_refl _)] at *
      clear hg
      generalize hn : (rights l).length = n at *
      have HN := Lib.hid hn
      clear hn
      go_wp2_with fail
      go_ret
      exact ⟨.slice va n vc, rfl, by rw [HN.out]; exact HO.out, HG.out⟩

set_option maxRecDepth 100000 in
set_option maxHeartbeats 2000000 in
theorem chars_any (l : List ElD) (a : Option Addr) (cap : Nat) (w : World) (ha : CellsIn w a (l.flatMap elRow)) (hl : l.length ≤ 1000000) :
    Calls Tryz.prog 43 #[.slice a l.length cap] w fun e w' => ∃ v, e = .returned v ∧ w'.ownsRow w.heap.size 21 1 v (chars l).length ((chars l).map (Value.int .i32)) ∧ Grew w w' := by
  have HA := Lib.hid ha
  clear ha
  go_enter Tryz.func43, Tryz.ntmps43
  go_wp2_with fail
  go_loopw [3, 4] (fun s3 s4 wr => ∃ (k : Nat) (va : Option Addr) (vc : Nat), k ≤ l.length ∧ s4 = .int .i64 k ∧ s3 = .slice va (chars (l.take k)).length vc ∧ wr.ownsRow w.heap.size 21 1 s3 (chars (l.take k)).length ((chars (l.take k)).map (Value.int .i32)) ∧ Grew w wr) (fun _ i _ => l.length - (intOf i).toNat)
  case atStart => exact ⟨0, none, 0, by omega, rfl, rfl, World.ownsRow_nil _ _ _ _, Grew.refl _⟩
  case round =>
    obtain ⟨k, va, vc, hk, rfl, rfl, hown, hg⟩ := hrel
    have HO := Lib.hid hown
    have HG := Lib.hid hg
    have hnl := chars_len (l.take k)
    rw [List.length_take, Nat.min_eq_left hk] at hnl
    clear hown
    by_cases hlt : k < l.length
    · obtain ⟨b, off, rfl, hbl, hrow⟩ := CellsIn.rowAt elRow 5 elRow_len (by omega) HA.out (by omega)
      have q := cellsAt_later hg (hrow k hlt) hbl
      have hts := take_snoc' l k hlt
      have hbw : b < wr.heap.size := Nat.lt_of_lt_of_le hbl hg.size
      clear hrow hg
      generalize l[k] = e at *
      obtain ⟨ep, rp, nb, ch, hd⟩ := e
      have HS := Lib.hid (show chars (l.take (k + 1)) = if hd ≤ 0 then chars (l.take k) ++ [ch] else chars (l.take k) by rw [hts, chars_snoc]; rfl)
      clear hts
      simp only [elRow] at q
      have q3 : wr.cell? ⟨b, off + k * 5 + 3, none⟩ = some (.int .i32 ch) := by rw [World.cellsAt_cell q 3 (by omega)]; rfl
      generalize hn : (chars (l.take k)).length = n at *
      have HN := Lib.hid hn
      clear hn
      by_cases hr : hd ≤ 0
      · have HT := Lib.hid (HS.out.trans (if_pos hr))
        have RC := Lib.hid (fun W => by have := rlive_any ep rp nb ch hd W; rw [decide_eq_true hr] at this; exact this)
        go_wp2_with (first
          | (go_at_call 41; refine (RC.out _).mono ?_; rintro e w' ⟨rfl, gx, rfl⟩)
          | (at_builtin; go_loud (refine wpList_app (by rfl) _ _ 76 (by rfl) elRune w.heap.size _ n ((chars (l.take k)).map (Value.int .i32)) (by rfl) (HO.out.grew (by exact by repeat (first | with_reducible exact HG.out | with_reducible exact Grew.refl _ | with_reducible assumption | with_reducible apply Grew.plus | with_reducible apply Grew.drewN | with_reducible apply Grew.drew | with_reducible apply Grew.alloc | with_reducible refine Grew.setCell ?_ (by simp [go_sem]; try omega) _))) _ 1 1 #[.int .i32 ch] 21 (by rfl) (by exact heap_alloc_at _ _ _ (by first | rfl | (simp [go_sem]; done))) (by rfl) (by intro u hu; simp at hu; subst hu; rfl) (by omega) (by omega) (by unfold maxLen; omega) w (HG.out.trans (by exact by repeat (first | with_reducible exact HG.out | with_reducible exact Grew.refl _ | with_reducible assumption | with_reducible apply Grew.plus | with_reducible apply Grew.drewN | with_reducible apply Grew.drew | with_reducible apply Grew.alloc | with_reducible refine Grew.setCell ?_ (by simp [go_sem]; try omega) _))) (Nat.le_refl _) (by have := HG.out.size; simp [go_sem]; omega) ?_); intro g c2 w2 hg2 hown2 hkeep2 hsz2 hat2; have HO2 := Lib.hid hown2; have HG2 := Lib.hid hg2; clear hown2 hg2 hkeep2 hat2))
        go_roundw
        case measure => simp [intOf]; omega
        case rel => exact ⟨k + 1, some ⟨g, 0, none⟩, c2, by omega, by go_num, by rw [HT.out, List.length_append, HN.out]; rfl, by rw [HT.out, List.length_append, HN.out, List.map_append]; exact HO2.out, HG2.out⟩
      · have HT := Lib.hid (HS.out.trans (if_neg hr))
        have RC := Lib.hid (fun W => by have := rlive_any ep rp nb ch hd W; rw [decide_eq_false hr] at this; exact this)
        go_wp2_with (go_at_call 41; refine (RC.out _).mono ?_; rintro e w' ⟨rfl, gx, rfl⟩)
        go_roundw
        case measure => simp [intOf]; omega
        case rel => exact ⟨k + 1, va, vc, by omega, by go_num, by rw [HT.out, HN.out], by rw [HT.out, HN.out]; exact HO.out.grew (by repeat (first | with_reducible exact HG.out | with_reducible exact Grew.refl _ | with_reducible assumption | with_reducible apply Grew.plus | with_reducible apply Grew.drewN | with_reducible apply Grew.drew | with_reducible apply Grew.alloc | with_reducible refine Grew.setCell ?_ (by simp [go_sem]; try omega) _)), HG.out.trans (by repeat (first | with_reducible exact HG.out | with_reducible exact Grew.refl _ | with_reducible assumption | with_reducible apply Grew.plus | with_reducible apply Grew.drewN | with_reducible apply Grew.drew | with_reducible apply Grew.alloc | with_reducible refine Grew.setCell ?_ (by simp [go_sem]; try omega) _))⟩
    · obtain rfl : k = l.length := by omega
      rw [List.take_of_length_le (Nat.le_refl _)] at *
      clear hg
      generalize hn : (chars l).length = n at *
      have HN := Lib.hid hn
      clear hn
      go_wp2_with fail
      go_ret
      exact ⟨.slice va n vc, rfl, by rw [HN.out]; exact HO.out, HG.out⟩

set_option maxRecDepth 100000 in
set_option maxHeartbeats 2000000 in
theorem view_any (l : List ElD) (a : Option Addr) (cap : Nat) (w : World) (ha : CellsIn w a (l.flatMap elRow)) (hl : l.length ≤ 1000000) (hgd : ∀ e ∈ l, Scr.good e.ch) :
    Calls Tryz.prog 20 #[.slice a l.length cap] w fun e w' => e = .returned (.string (runesBytes (chars l))) ∧ Grew w w' := by
  have CH := Lib.hid (fun W (hW : Grew w W) => chars_any l a cap W (ha.grew hW) hl)
  have hcl := chars_len l
  have HU := Lib.hid (fun (va : Option Addr) (vc : Nat) (W : World) (hin : CellsIn W va ((chars l).map (Value.int .i32))) (h1 : (chars l).length ≤ vc) (h2 : vc ≤ 9223372036854775807) => utf8_any va vc (chars l) W hin h1 h2 (by omega) (fun c hc => by obtain ⟨e, he, rfl⟩ := chars_mem l c hc; exact hgd e he))
  clear ha hgd hcl
  generalize chars l = cs at *
  go_enter Tryz.func20, Tryz.ntmps20
  go_wp2_with (first
    | (go_at_call 43; refine (CH.out _ (by repeat (first | with_reducible exact HG.out | with_reducible exact Grew.refl _ | with_reducible assumption | with_reducible apply Grew.plus | with_reducible apply Grew.drewN | with_reducible apply Grew.drew | with_reducible apply Grew.alloc | with_reducible refine Grew.setCell ?_ (by simp [go_sem]; try omega) _))).mono ?_; rintro e w1 ⟨v, rfl, ho1, hg1⟩; obtain ⟨va, vc, rfl, hc1, hc2, hin, _, _⟩ := ho1.rd; have HI := Lib.hid hin; have HG1 := Lib.hid (Grew.trans (show Grew w _ from by repeat (first | with_reducible exact HG.out | with_reducible exact Grew.refl _ | with_reducible assumption | with_reducible apply Grew.plus | with_reducible apply Grew.drewN | with_reducible apply Grew.drew | with_reducible apply Grew.alloc | with_reducible refine Grew.setCell ?_ (by simp [go_sem]; try omega) _)) hg1); clear ho1 hg1 hin)
    | (go_at_call 42; refine (HU.out va vc w1 HI.out hc1 hc2).mono ?_; rintro e w2 ⟨rfl, hg2⟩; have HG2 := Lib.hid (HG1.out.trans hg2); clear hg2))
  go_ret
  exact ⟨rfl, HG2.out⟩
end Go.Proofs.YtofijhejpgjopaaGreatDoor
