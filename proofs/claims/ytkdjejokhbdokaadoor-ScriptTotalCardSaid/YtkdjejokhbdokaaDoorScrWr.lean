/- Walk: script.Write. -/
import Derived.Test.YtkdjejokhbdokaaDoorScrP
import Derived.Test.YtkdjejokhbdokaaDoorScrRead
namespace Go.Proofs.YtkdjejokhbdokaaDoor
open Go.RowKit
set_option linter.unusedSimpArgs false
set_option linter.unusedVariables false

structure WInv (w wr : World) (xs : List StepD) (k n : Nat) (v : Value) : Prop where
  own : wr.ownsRow w.heap.size 5 1 v n (bv (Scr.writeL (xs.take k)))
  len : n = (Scr.writeL (xs.take k)).length
  grew : Grew w wr

set_option maxRecDepth 100000 in
set_option maxHeartbeats 1000000 in
theorem write_any (a : Option Addr) (cap : Nat) (xs : List StepD) (w : World) (hin : CellsIn w a (stepCells xs)) (hcap : xs.length ≤ cap) (hm : cap ≤ 9223372036854775807) (hl : xs.length ≤ 1000) (htx : ∀ s ∈ xs, s.text.size ≤ 9223372036854775806) :
    Calls Tryd.prog 9 #[.slice a xs.length cap] w fun e w' => ∃ v, e = .returned v ∧ Grew w w' ∧ w'.ownsRow w.heap.size 5 1 v (Scr.writeL xs).length (bv (Scr.writeL xs)) := by
  have Hin := Lib.hid hin
  have Htx := Lib.hid htx
  clear hin htx
  go_enter Tryd.func9, Tryd.ntmps9
  go_wp2_with fail
  go_loopg [3, 12] xs.length (fun g s3 s12 wr => ∃ (k n : Nat) (va : Option Addr) (vc : Nat), s3 = .slice va n vc ∧ s12 = .int .i64 k ∧ k ≤ xs.length ∧ g = xs.length - k ∧ WInv w wr xs k n s3)
  case atStart => exact ⟨0, 0, none, 0, rfl, rfl, by omega, rfl, World.ownsRow_nil _ _ _ _, rfl, Grew.refl w⟩
  case round =>
    obtain ⟨k, n, va, vc, rfl, rfl, hk, hgm, I⟩ := hrel
    obtain ⟨wo, rfl⟩ : ∃ wo : World, wo = wr := ⟨_, rfl⟩
    have HI := Lib.hid I
    have HG := Lib.hid I.grew
    have HGM := Lib.hid hgm
    have hsz := I.grew.size
    have hnl : n ≤ 20000 := by
      have h1 := I.len
      have h2 := Scr.writeL_len (xs.take k)
      rw [List.length_take, Nat.min_eq_left hk] at h2
      omega
    by_cases hlt : k < xs.length
    · obtain ⟨b, off, rfl, hb, hr⟩ := (Hin.out.grew I.grew).rowAt _ 5 len_cells (by omega) (by omega)
      have hrow := hr k hlt
      have hts := Htx.out xs[k] (List.getElem_mem hlt)
      have HS0 := Lib.hid (Scr.write_snoc_no xs k hlt)
      have HS1 := Lib.hid (Scr.write_snoc xs k hlt)
      clear hr I hgm
      generalize xs[k] = s at *
      obtain ⟨sk, sa, sb, sc, st⟩ := s
      simp only [Scr.cells] at hrow hts
      generalize hp : Scr.plainB ⟨sk, sa, sb, sc, st⟩ = pb at *
      have PC : Hid (∀ w, Calls Tryd.prog 6 #[.agg #[.int .i64 sk, .int .i64 sa, .int .i64 sb, .int .i64 sc, .string st]] w fun e w' => e = .returned (.bool pb) ∧ Grew w w') := fun w => by rw [← hp]; exact plain_any sk sa sb sc st w hts
      have HP := Lib.hid hp
      clear hp
      cases pb
      case false =>
        go_wp2_with (go_at_call 6; refine (PC.out _).mono ?_; rintro e w' ⟨rfl, gx, rfl⟩)
        go_roundg (xs.length - (k + 1))
        case measure => rw [HGM.out]; omega
        case rel => exact ⟨k + 1, n, va, vc, rfl, by go_num, by omega, rfl, by rw [HS0.out (by trivial)]; exact (HI.out.own.alloc _).grew ⟨gx, rfl⟩, by rw [HS0.out (by trivial)]; exact HI.out.len, by repeat (first | with_reducible exact HG.out | with_reducible exact Grew.refl _ | with_reducible assumption | with_reducible apply Grew.plus | with_reducible apply Grew.drewN | with_reducible apply Grew.drew | with_reducible apply Grew.alloc | with_reducible refine Grew.setCell ?_ (by simp [go_sem]; try omega) _)⟩
      case true =>
        obtain ⟨q1, q2, q3, q4, q5, q6, q7⟩ := Scr.plain_parts HP.out
        simp only at q1 q2 q3 q4 q5 q6 q7
        obtain ⟨p1, p2⟩ := q1
        obtain ⟨p3, p4⟩ := q2
        obtain ⟨p5, p6⟩ := q3
        obtain ⟨p7, p8⟩ := q4
        have Q6 := Lib.hid q6
        have Q7 := Lib.hid q7
        clear q6 q7
        have HNE : Hid ((Value.slice va n vc).ownBlock ≠ some wo.heap.size) := fun e => by have := (HI.out.own.lt _ e).2; omega
        have HB4 := Lib.hid (bv_of_ints _ _ (Scr.bytes4 HP.out))
        generalize htb : Scr.texts sk = tb
        have HTB := Lib.hid htb
        clear htb
        cases tb
        case false =>
          have HW := Lib.hid (Scr.writeOne_no (s := ⟨sk, sa, sb, sc, st⟩) HTB.out)
          go_wp2_with (first | (go_at_call 6; refine (PC.out _).mono ?_; rintro e w' ⟨rfl, gx, rfl⟩) | (at_builtin; go_loud (refine wpList_app (by rfl) (.tmp 19) (.tmp 32) 22 (by rfl) elByte w.heap.size _ n (bv (Scr.writeL (xs.take k))) (by rfl) (((HI.out.own.alloc _).grew ⟨gx, rfl⟩).alloc _) _ 4 4 #[.int .u8 sk, .int .u8 sa, .int .u8 sb, .int .u8 sc] 5 (by rfl) (heap_alloc_at _ _ _ (by simp [go_sem])) (by rfl) (by intro u hu; simp at hu; rcases hu with rfl | rfl | rfl | rfl <;> rfl) (by omega) (by omega) (by unfold maxLen; omega) w (by repeat (first | with_reducible exact HG.out | with_reducible exact Grew.refl _ | with_reducible assumption | with_reducible apply Grew.plus | with_reducible apply Grew.drewN | with_reducible apply Grew.drew | with_reducible apply Grew.alloc | with_reducible refine Grew.setCell ?_ (by simp [go_sem]; try omega) _)) (Nat.le_refl _) (by simp [go_sem]; omega) ?_); intro g cap1 w1 hg1 hown1 hkeep hsz1 hat; have HO1 := Lib.hid hown1; have HG1 := Lib.hid hg1; have HP1 := Lib.hid (World.kept_block hkeep (tb_alloc (tb_plus (heap_alloc_at wo (.cells #[.int .i64 sk, .int .i64 sa, .int .i64 sb, .int .i64 sc, .string st] 28) wo.heap.size rfl))) HNE.out); have hc0 := (World.own_cell HP1.out 0 _ rfl).1; have hc4 := (World.own_cell HP1.out 4 _ rfl).1; simp only [List.getElem_toArray, List.getElem_cons_zero, List.getElem_cons_succ] at hc0 hc4; have HGP := Lib.hid (ne_fresh hat HNE.out (by simp [go_sem] <;> omega) (n + 4) cap1); clear hown1 hg1 hkeep hat) | (go_at_call 13; refine (texts_any _ _).mono ?_; rw [HTB.out]; rintro e w' ⟨rfl, rfl⟩))
          go_roundg (xs.length - (k + 1))
          case measure => rw [HGM.out]; omega
          case rel =>
            have hw := HS1.out (by trivial)
            rw [HW.out] at hw
            refine ⟨k + 1, n + 4, some ⟨g, 0, none⟩, cap1, rfl, by go_num, by omega, rfl, ?_, ?_, HG1.out⟩
            · rw [hw, bv_append, HB4.out]; exact HO1.out
            · rw [hw, List.length_append, HI.out.len]; rfl
        case true =>
          have HW := Lib.hid (Scr.writeOne_yes (s := ⟨sk, sa, sb, sc, st⟩) HTB.out)
          have HRC := Lib.hid (fun w => runeCount_any st w hts)
          have hrl := q5
          generalize hrn : (Scr.runesT st).length = rn at *
          have HRN := Lib.hid hrn
          clear hrn q5
          go_wp2_with (first | (go_at_call 6; refine (PC.out _).mono ?_; rintro e w' ⟨rfl, gx, rfl⟩) | (at_builtin; go_loud (refine wpList_app (by rfl) (.tmp 19) (.tmp 32) 22 (by rfl) elByte w.heap.size _ n (bv (Scr.writeL (xs.take k))) (by rfl) (((HI.out.own.alloc _).grew ⟨gx, rfl⟩).alloc _) _ 4 4 #[.int .u8 sk, .int .u8 sa, .int .u8 sb, .int .u8 sc] 5 (by rfl) (heap_alloc_at _ _ _ (by simp [go_sem])) (by rfl) (by intro u hu; simp at hu; rcases hu with rfl | rfl | rfl | rfl <;> rfl) (by omega) (by omega) (by unfold maxLen; omega) w (by repeat (first | with_reducible exact HG.out | with_reducible exact Grew.refl _ | with_reducible assumption | with_reducible apply Grew.plus | with_reducible apply Grew.drewN | with_reducible apply Grew.drew | with_reducible apply Grew.alloc | with_reducible refine Grew.setCell ?_ (by simp [go_sem]; try omega) _)) (Nat.le_refl _) (by simp [go_sem]; omega) ?_); intro g cap1 w1 hg1 hown1 hkeep hsz1 hat; have HO1 := Lib.hid hown1; have HG1 := Lib.hid hg1; have HP1 := Lib.hid (World.kept_block hkeep (tb_alloc (tb_plus (heap_alloc_at wo (.cells #[.int .i64 sk, .int .i64 sa, .int .i64 sb, .int .i64 sc, .string st] 28) wo.heap.size rfl))) HNE.out); have hc0 := (World.own_cell HP1.out 0 _ rfl).1; have hc4 := (World.own_cell HP1.out 4 _ rfl).1; simp only [List.getElem_toArray, List.getElem_cons_zero, List.getElem_cons_succ] at hc0 hc4; have HGP := Lib.hid (ne_fresh hat HNE.out (by simp [go_sem] <;> omega) (n + 4) cap1); clear hown1 hg1 hkeep hat) | (go_at_call 13; refine (texts_any _ _).mono ?_; rw [HTB.out]; rintro e w' ⟨rfl, rfl⟩) | (go_at_call 15; refine (HRC.out _).mono ?_; rintro e w' ⟨rfl, gy, rfl⟩) | (at_builtin; go_loud (refine wpList_app (by rfl) (.tmp 38) (.tmp 43) 22 (by rfl) elByte w.heap.size _ (n + 4) (bv (Scr.writeL (xs.take k)) ++ [.int .u8 sk, .int .u8 sa, .int .u8 sb, .int .u8 sc]) (by rfl) ((HO1.out.grew ⟨gy, rfl⟩).alloc _) _ 1 1 #[.int .u8 rn] 5 (by rfl) (heap_alloc_at _ _ _ (by simp [go_sem])) (by rfl) (by intro u hu; simp at hu; subst hu; rfl) (by omega) (by omega) (by unfold maxLen; omega) w ((HG1.out.plus gy).alloc _) (Nat.le_refl _) (by have := HG1.out.size; simp [go_sem]; omega) ?_); intro g2 cap2 w2 hg2 hown2 hkeep2 hsz2 hat2; have HO2 := Lib.hid hown2; have HG2 := Lib.hid hg2; have HP2 := Lib.hid (World.kept_block hkeep2 (tb_alloc (tb_plus HP1.out)) HGP.out); have hc42 := (World.own_cell HP2.out 4 _ rfl).1; simp only [List.getElem_toArray, List.getElem_cons_zero, List.getElem_cons_succ] at hc42; clear hown2 hg2 hkeep2 hat2))
          have hit := (HO2.out.lt g2 rfl).2
          have Q7' := Lib.hid (fun c hc => Q7.out c hc)
          go_loopg [3, 7, 8, 9] st.size (fun g s3 s7 s8 s9 wi => ∃ (pos m : Nat) (ys : List Value) (va' : Option Addr) (vc' : Nat), s3 = .slice va' m vc' ∧ g = st.size - pos ∧ wi.ownsRow w.heap.size 5 1 s3 m ys ∧ s3.ownBlock ≠ some w2.heap.size ∧ ys ++ bv ((Scr.runesAt st pos).map Scr.least) = bv (Scr.writeL (xs.take (k + 1))) ∧ (∀ c ∈ Scr.runesAt st pos, Scr.alpha c = true) ∧ m + (Scr.runesAt st pos).length = n + 5 + rn ∧ Grew w wi ∧ wi.heap[w2.heap.size]? = some (.stringIter st pos))
          case atStart =>
            have h0 : Scr.runesAt st 0 = Scr.runesT st := by simp [Scr.runesAt, Scr.runesT]
            have hw := HS1.out (by trivial)
            rw [HW.out] at hw
            refine ⟨0, n + 4 + 1, _, _, _, rfl, rfl, HO2.out.alloc _, (by intro e; simp only [Value.ownBlock, Option.some.injEq] at e; omega), ?_, (by rw [h0]; exact Q7.out), (by rw [h0, HRN.out]), HG2.out.alloc _, heap_alloc_at _ _ _ rfl⟩
            rw [h0, hw, bv_append, bv_append, bv_append, HB4.out]
            have hrb : bv [Scr.byteOf (rn : Int)] = [.int .u8 (rn : Int)] := by
              show [Value.int .u8 ((Scr.byteOf (rn : Int)).toNat : Int)] = _
              rw [Scr.byteOf_toNat _ (by omega) (by omega)]
            rw [hrb]
            simp
          case round =>
            obtain ⟨pos, m, ys, va', vc', rfl, hgm, ho, hne, htar, hall, hml, hg, hT⟩ := hrel
            have HT := Lib.hid hT
            have HG3 := Lib.hid hg
            have HGM3 := Lib.hid hgm
            have HO3 := Lib.hid ho
            have HNE3 := Lib.hid hne
            have HTAR := Lib.hid htar
            have HALL := Lib.hid hall
            have HML := Lib.hid hml
            have hmb : m ≤ 30000 := by omega
            have hi3 : w2.heap.size < wr.heap.size := (Array.getElem?_eq_some_iff.1 hT).1
            have hw3 : w.heap.size ≤ w2.heap.size := HG2.out.size
            clear hgm ho hne htar hall hml hg HG
            have HG := HG3
            by_cases hp : pos < st.size
            · have hnx : ∀ ty, (Instr.next (.pointer (some ⟨w2.heap.size, 0, none⟩)) true ty).run Tryd.prog wr = _ := fun ty => run_next_it wr _ st pos ty hT hp
              have hd := Scr.decode_pos st pos
              have HC := Lib.hid (Scr.runesAt_cons st pos hp)
              have hle := decode_le st pos
              clear hT
              generalize Utf8.decode st pos = dd at *
              obtain ⟨ch, wd⟩ := dd
              simp only at hnx hd hle
              have hal : Scr.alpha ch = true := HALL.out _ (by rw [HC.out]; simp)
              have LC : Hid (∀ w, Calls Tryd.prog 16 #[.int .i32 (ch : Int)] w fun e w' => e = .returned (.tuple #[.int .u8 (Scr.least ch).toNat, .bool true]) ∧ w = w') := fun w => by
                have := least_any ch (by omega) (by omega) w
                rwa [hal] at this
              clear hal
              generalize hlb : Scr.least ch = lb at *
              have HLB := Lib.hid hlb
              clear hlb
              go_wp2_with (first | (go_at_call 16; refine (LC.out _).mono ?_; rintro e w' ⟨rfl, rfl⟩) | (at_builtin; go_loud (refine wpList_app (by rfl) (.tmp 56) (.tmp 58) 22 (by rfl) elByte w.heap.size _ m ys (by rfl) ((HO3.out.putObj HNE3.out _).alloc _) _ 1 1 #[.int .u8 lb.toNat] 5 (by rfl) (heap_alloc_at _ _ _ (by simp [go_sem])) (by rfl) (by intro u hu; simp at hu; subst hu; rfl) (by omega) (by omega) (by unfold maxLen; omega) w ((HG.out.putObj hw3 _).alloc _) (Nat.le_refl _) (by have := HG.out.size; simp [go_sem]; omega) ?_); intro g4 cap4 w4 hg4 hown4 hkeep4 hsz4 hat4; have HO4 := Lib.hid hown4; have HG4 := Lib.hid hg4; have HT4 := Lib.hid (World.kept_block hkeep4 (tb_alloc (World.putObj_same wr _ _ hi3)) HNE3.out); have HNE4 := Lib.hid (ne_fresh hat4 HNE3.out (by simp [go_sem] <;> omega) (m + 1) cap4); clear hown4 hg4 hkeep4 hat4))
              go_roundg (st.size - (pos + wd))
              case measure => rw [HGM3.out]; omega
              case rel => exact ⟨pos + wd, m + 1, _, some ⟨g4, 0, none⟩, cap4, rfl, rfl, HO4.out, HNE4.out, by rw [← HTAR.out, HC.out, List.map_cons, HLB.out]; simp [bv], fun c hc => HALL.out c (by rw [HC.out]; simp [hc]), by have := HML.out; rw [HC.out, List.length_cons] at this; omega, HG4.out, HT4.out⟩
            · have hnx : ∀ ty, (Instr.next (.pointer (some ⟨w2.heap.size, 0, none⟩)) true ty).run Tryd.prog wr = _ := fun ty => run_next_over wr _ st pos ty hT hp
              have hn := Scr.runesAt_nil st pos hp
              have HN := Lib.hid hn
              clear hn hT
              go_wp2_with fail
              go_roundg (xs.length - (k + 1))
              case measure => rw [HGM.out]; omega
              case rel =>
                have ht := HTAR.out
                have hml := HML.out
                rw [HN.out] at ht hml
                simp only [List.map_nil, List.length_nil, Nat.add_zero, bv, List.append_nil] at ht hml
                refine ⟨k + 1, m, va', vc', rfl, by go_num, by omega, rfl, ?_, ?_, HG3.out⟩
                · have := HO3.out
                  rw [ht] at this; exact this
                · have h1 := HO3.out.1
                  rw [ht, List.length_map] at h1; omega
    · obtain rfl : k = xs.length := by omega
      have hfull : xs.take xs.length = xs := List.take_of_length_le (Nat.le_refl _)
      have HF := Lib.hid hfull
      clear hfull
      go_wp2_with fail
      go_ret
      have I := HI.out
      have h1 := I.own
      have h2 := I.len
      rw [HF.out] at h1 h2
      exact ⟨_, rfl, HG.out, by rw [← h2]; exact h1⟩
end Go.Proofs.YtkdjejokhbdokaaDoor
