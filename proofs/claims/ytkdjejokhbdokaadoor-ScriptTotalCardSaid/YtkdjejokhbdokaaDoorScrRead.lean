/- Walk: script.Read: any bytes as steps. -/
import Derived.Test.YtkdjejokhbdokaaDoorScrW
import Derived.Deep.LoopGhost
import Derived.Deep.DeepCutAuto
import Derived.Laws.OwnMore
namespace Go.Proofs.YtkdjejokhbdokaaDoor
open Go.RowKit
set_option linter.unusedSimpArgs false
set_option linter.unusedVariables false

theorem len_cells (s : StepD) : (Scr.cells s).toList.length = 5 := rfl
def stepCells (l : List StepD) : List Value := l.flatMap fun s => (Scr.cells s).toList

structure ReadInv (w wr : World) (l : List UInt8) (acc : List StepD) (r : List UInt8) (q cap : Nat) (a : Option Addr) (v : Value) : Prop where
  own : wr.ownsRow w.heap.size 28 5 v acc.length (stepCells acc)
  tape : wr.heap[q]? = some (.cells #[.slice a r.length cap] 35 (0, 0))
  low : w.heap.size ≤ q
  apart : v.ownBlock ≠ some q
  cin : CellsIn w a (bv r)
  cap1 : r.length ≤ cap
  cap2 : cap ≤ 9223372036854775807
  done : acc ++ Scr.readL r = Scr.readL l
  count : acc.length + r.length ≤ l.length
  grew : Grew w wr

/-- A step has been read of r: it lies in block p, the tape behind it in block q. -/
def StepDone (w wc : World) (r : List UInt8) (q p : Nat) (acc : List StepD) (v : Value) : Prop := ∃ (sk sa sb sc : Int) (st : ByteArray) (r2 : List UInt8) (a2 : Option Addr) (cap2 : Nat), Scr.readOne r = (⟨sk, sa, sb, sc, st⟩, r2) ∧ wc.heap[q]? = some (.cells #[.slice a2 r2.length cap2] 35 (0, 0)) ∧ CellsIn w a2 (bv r2) ∧ r2.length ≤ cap2 ∧ cap2 ≤ 9223372036854775807 ∧ wc.heap[p]? = some (.cells #[.int .i64 sk, .int .i64 sa, .int .i64 sb, .int .i64 sc, .string st] 28 (0, 0)) ∧ Grew w wc ∧ wc.ownsRow w.heap.size 28 5 v acc.length (stepCells acc)

/-- The inner loop: cs of a step's text have been read, m characters at most are to come; the step lies in block p. -/
structure TextInv (w wi : World) (r5 : List UInt8) (n q p : Nat) (st : Array Value) (acc : List StepD) (v3 s6 : Value) (cs : List Int) (r6 : List UInt8) (a6 : Option Addr) (k6 m : Nat) : Prop where
  own6 : wi.ownsRow (p + 1) 21 1 s6 cs.length (cs.map (Value.int .i32))
  tape : wi.heap[q]? = some (.cells #[.slice a6 r6.length k6] 35 (0, 0))
  step : wi.heap[p]? = some (.cells st 28 (0, 0))
  cin : CellsIn w a6 (bv r6)
  cap1 : r6.length ≤ k6
  cap2 : k6 ≤ 9223372036854775807
  own3 : wi.ownsRow w.heap.size 28 5 v3 acc.length (stepCells acc)
  low3 : ∀ k, v3.ownBlock = some k → k < p ∧ k ≠ q
  grew : Grew w wi
  chars : cs ++ Scr.chars (r6.take m) = Scr.chars (r5.take n)
  rest : r6.drop m = r5.drop n
  count : cs.length + m ≤ 15

theorem TextInv.step' {w wi w1 : World} {r5 r6 r7 : List UInt8} {n q p k6 k7 m n6 g cap : Nat} {st : Array Value} {acc : List StepD} {v3 s6 : Value} {cs : List Int} {a6 a7 : Option Addr}
    (I : TextInv w wi r5 n q p st acc v3 s6 cs r6 a6 k6 (m + 1)) (hq : w.heap.size ≤ q) (hqp : q < p) (hwp : w.heap.size ≤ p) (h7 : n6 = Scr.hd r6 ∧ r7 = r6.drop 1) (h6 : r6 ≠ []) (hc7 : CellsIn w a7 (bv r7)) (hl7 : r7.length ≤ k7) (hm7 : k7 ≤ 9223372036854775807)
    {o : Obj} (hg1 : Grew w w1) (hown1 : w1.ownsRow (p + 1) 21 1 (.slice (some ⟨g, 0, none⟩) (cs.length + 1) cap) (cs.length + 1) (cs.map (Value.int .i32) ++ [.int .i32 (Scr.letter n6)]))
    (hkeep : ∀ k, k < ((wi.setCell ⟨q, 0, none⟩ (.slice a7 r7.length k7)).alloc o).heap.size → some k ≠ s6.ownBlock → w1.heap[k]? = ((wi.setCell ⟨q, 0, none⟩ (.slice a7 r7.length k7)).alloc o).heap[k]?) :
    TextInv w w1 r5 n q p st acc v3 (.slice (some ⟨g, 0, none⟩) (cs.length + 1) cap) (cs ++ [Scr.letter n6]) r7 a7 k7 m := by
  have hqs : q < wi.heap.size := (Array.getElem?_eq_some_iff.1 I.tape).1
  have hps : p < wi.heap.size := (Array.getElem?_eq_some_iff.1 I.step).1
  have hsz : ((wi.setCell ⟨q, 0, none⟩ (.slice a7 r7.length k7)).alloc o).heap.size = wi.heap.size + 1 := by simp [go_sem]
  have hK : ∀ k, k ≤ p → w1.heap[k]? = ((wi.setCell ⟨q, 0, none⟩ (.slice a7 r7.length k7)).alloc o).heap[k]? := fun k hk => hkeep k (by omega) (fun e => by have := (I.own6.lt k e.symm).1; omega)
  obtain ⟨e1, e2⟩ := h7
  subst e1 e2
  match r6, h6 with
  | b :: r, _ =>
    refine ⟨by simpa using hown1, ?_, ?_, hc7, hl7, hm7, I.own3.keep (fun k hk => ?_), I.low3, hg1, ?_, ?_, ?_⟩
    · rw [hK q (by omega)]; exact tb_alloc (tb_same I.tape)
    · rw [hK p (Nat.le_refl _)]; exact tb_alloc (tb_other (by omega) I.step)
    · obtain ⟨h1, h2⟩ := I.low3 k hk
      rw [hK k (by omega), heap_alloc_past _ _ _ (by simp; omega), World.block_setCell _ _ _ _ h2]
    · rw [← I.chars]; simp [Scr.chars, Scr.hd]
    · rw [← I.rest]; simp
    · have := I.count; simp; omega

set_option maxRecDepth 100000 in
set_option maxHeartbeats 1000000 in
theorem read_any (a : Option Addr) (cap : Nat) (l : List UInt8) (w : World) (hin : CellsIn w a (bv l)) (hcap : l.length ≤ cap) (hm : cap ≤ 9223372036854775807) (hl : l.length ≤ 1000000) :
    Calls Tryd.prog 5 #[.slice a l.length cap] w fun e w' => ∃ v, e = .returned v ∧ Grew w w' ∧ w'.ownsRow w.heap.size 28 5 v (Scr.readL l).length (stepCells (Scr.readL l)) := by
  go_enter Tryd.func5, Tryd.ntmps5
  go_wp2_with fail
  go_loopg [3, 4] l.length (fun g s3 s4 wr => ∃ (acc : List StepD) (r : List UInt8) (q cap' : Nat) (a' : Option Addr) (va : Option Addr) (vc : Nat), s3 = .slice va acc.length vc ∧ s4 = .pointer (some ⟨q, 0, none⟩) ∧ g = r.length ∧ ReadInv w wr l acc r q cap' a' s3)
  case atStart =>
    exact ⟨[], l, _, cap, a, none, 0, rfl, rfl, rfl, World.ownsRow_nil _ _ _ _, heap_alloc_at _ _ _ rfl, Nat.le_refl _, by simp [Value.ownBlock], hin, hcap, hm, rfl, by simp, (Grew.refl w).alloc _⟩
  case round =>
    obtain ⟨wo, rfl⟩ : ∃ wo : World, wo = wr := ⟨_, rfl⟩
    obtain ⟨acc, r0, q, k0, a0, va, vc, rfl, rfl, rfl, I⟩ := hrel
    have HI := Lib.hid I
    obtain ⟨hc, hz⟩ := World.own_cell I.tape 0 _ rfl
    simp only [List.getElem_toArray, List.getElem_cons_zero] at hc
    have hq := I.low
    clear I hin
    by_cases hr : r0 = []
    · subst hr
      go_wp2_with fail
      go_ret
      have I := HI.out
      have hd := I.done
      rw [Scr.readL_nil, List.append_nil] at hd
      subst hd
      exact ⟨_, rfl, I.grew, I.own⟩
    · have hpos : 0 < r0.length := List.length_pos_iff.2 hr
      have hr0 : ((r0.length : Int) > 0) = True := by simp; omega
      have HT := Lib.hid HI.out.tape
      have HG := Lib.hid HI.out.grew
      have HC := Lib.hid HI.out.cin
      have c1 := HI.out.cap1
      have c2 := HI.out.cap2
      have hqlt : q < wo.heap.size := (Array.getElem?_eq_some_iff.1 HI.out.tape).1
      have hc := HC.out
      go_wp2_with fail
      refine (next_of q k0 a0 r0 35 w _ (by repeat (first | with_reducible exact HT.out | with_reducible apply tb_same | with_reducible apply tb_alloc | with_reducible apply tb_plus | with_reducible refine tb_other (by omega) ?_)) (by assumption) (by repeat (first | with_reducible exact HG.out | with_reducible exact Grew.refl _ | with_reducible assumption | with_reducible apply Grew.plus | with_reducible apply Grew.drewN | with_reducible apply Grew.drew | with_reducible apply Grew.alloc | with_reducible refine Grew.setCell ?_ (by simp [go_sem]; try omega) _)) (by assumption) (by assumption)).mono ?_; rintro e w' ⟨n1, r1, a1, k1, rfl, rfl, hn1, hr1, hc1, hl1, hm1⟩
      go_wp2_with fail
      refine (next_of q k1 a1 r1 35 w _ (by repeat (first | with_reducible exact HT.out | with_reducible apply tb_same | with_reducible apply tb_alloc | with_reducible apply tb_plus | with_reducible refine tb_other (by omega) ?_)) (by assumption) (by repeat (first | with_reducible exact HG.out | with_reducible exact Grew.refl _ | with_reducible assumption | with_reducible apply Grew.plus | with_reducible apply Grew.drewN | with_reducible apply Grew.drew | with_reducible apply Grew.alloc | with_reducible refine Grew.setCell ?_ (by simp [go_sem]; try omega) _)) (by assumption) (by assumption)).mono ?_; rintro e w' ⟨n2, r2, a2, k2, rfl, rfl, hn2, hr2, hc2, hl2, hm2⟩
      go_wp2_with fail
      refine (next_of q k2 a2 r2 35 w _ (by repeat (first | with_reducible exact HT.out | with_reducible apply tb_same | with_reducible apply tb_alloc | with_reducible apply tb_plus | with_reducible refine tb_other (by omega) ?_)) (by assumption) (by repeat (first | with_reducible exact HG.out | with_reducible exact Grew.refl _ | with_reducible assumption | with_reducible apply Grew.plus | with_reducible apply Grew.drewN | with_reducible apply Grew.drew | with_reducible apply Grew.alloc | with_reducible refine Grew.setCell ?_ (by simp [go_sem]; try omega) _)) (by assumption) (by assumption)).mono ?_; rintro e w' ⟨n3, r3, a3, k3, rfl, rfl, hn3, hr3, hc3, hl3, hm3⟩
      go_upto_if 27 with (first | (go_at_call 12; refine (next_of q k3 a3 r3 35 w _ (by repeat (first | with_reducible exact HT.out | with_reducible apply tb_same | with_reducible apply tb_alloc | with_reducible apply tb_plus | with_reducible refine tb_other (by omega) ?_)) (by assumption) (by repeat (first | with_reducible exact HG.out | with_reducible exact Grew.refl _ | with_reducible assumption | with_reducible apply Grew.plus | with_reducible apply Grew.drewN | with_reducible apply Grew.drew | with_reducible apply Grew.alloc | with_reducible refine Grew.setCell ?_ (by simp [go_sem]; try omega) _)) (by assumption) (by assumption)).mono ?_; rintro e w' ⟨n4, r4, a4, k4, rfl, rfl, hn4, hr4, hc4, hl4, hm4⟩) | (go_at_call 13; refine (texts_any _ _).mono ?_; rintro e w' ⟨rfl, rfl⟩))
      have hw := HI.out.own
      go_cut [6, 7] (fun s6 s7 wc => StepDone w wc r0 q wo.heap.size acc (.slice va acc.length vc))
      case first => as_aux_lemma =>
        have hstep : Hid (n1 = Scr.hd r0 ∧ n2 = Scr.hd (r0.drop 1) ∧ n3 = Scr.hd (r0.drop 2) ∧ n4 = Scr.hd (r0.drop 3) ∧ r4 = r0.drop 4) := by
          obtain ⟨e1, rfl⟩ := hr1.out
          obtain ⟨e2, rfl⟩ := hr2.out
          obtain ⟨e3, rfl⟩ := hr3.out
          obtain ⟨e4, rfl⟩ := hr4.out
          simp only [List.drop_drop] at e2 e3 e4 ⊢
          exact ⟨e1, e2, e3, e4, trivial⟩
        have HW := Lib.hid HI.out.own
        have HA := Lib.hid HI.out.apart
        clear hw hr1 hr2 hr3 hr4
        generalize hb : Scr.texts (↑n1 % 14) = tb
        have HB := Lib.hid hb
        clear hb
        cases tb
        case false =>
          go_wp2_with fail
          go_meet
          refine ⟨(n1 : Int) % 14, n2, n3, n4, ByteArray.empty, r4, a4, k4, ?_, (by repeat (first | with_reducible exact HT.out | with_reducible apply tb_same | with_reducible apply tb_alloc | with_reducible apply tb_plus | with_reducible refine tb_other (by omega) ?_)), hc4, hl4, hm4, heap_alloc_at _ _ _ (by simp [go_sem]), by repeat (first | with_reducible exact HG.out | with_reducible exact Grew.refl _ | with_reducible assumption | with_reducible apply Grew.plus | with_reducible apply Grew.drewN | with_reducible apply Grew.drew | with_reducible apply Grew.alloc | with_reducible refine Grew.setCell ?_ (by simp [go_sem]; try omega) _), (((((HW.out.setOther HA.out _).setOther HA.out _).setOther HA.out _).setOther HA.out _).alloc _)⟩
          obtain ⟨e1, e2, e3, e4, e5⟩ := hstep.out
          have hb := HB.out
          rw [e1] at hb
          unfold Scr.readOne
          rw [e1, e2, e3, e4, e5]
          simp only [Int.natCast_emod, Int.cast_ofNat_Int]
          simp [hb]
        case true =>
          go_wp2_with fail
          refine (next_of q k4 a4 r4 35 w _ (by repeat (first | with_reducible exact HT.out | with_reducible apply tb_same | with_reducible apply tb_alloc | with_reducible apply tb_plus | with_reducible refine tb_other (by omega) ?_)) (by assumption) (by repeat (first | with_reducible exact HG.out | with_reducible exact Grew.refl _ | with_reducible assumption | with_reducible apply Grew.plus | with_reducible apply Grew.drewN | with_reducible apply Grew.drew | with_reducible apply Grew.alloc | with_reducible refine Grew.setCell ?_ (by simp [go_sem]; try omega) _)) (by assumption) (by assumption)).mono ?_; rintro e w' ⟨n5, r5, a5, k5, rfl, rfl, hn5, hr5, hc5, hl5, hm5⟩
          go_wp2_with fail
          go_loopg [6, 7] (n5 % 16) (fun g s6 s7 wi => ∃ (cs : List Int) (r6 : List UInt8) (a6 : Option Addr) (k6 m : Nat), s7 = .int .u8 m ∧ g = m ∧ TextInv w wi r5 (n5 % 16) q wo.heap.size #[.int .i64 (n1 % 14), .int .i64 n2, .int .i64 n3, .int .i64 n4, .string ⟨#[]⟩] acc (.slice va acc.length vc) s6 cs r6 a6 k6 m)
          case atStart =>
            exact ⟨[], r5, a5, k5, n5 % 16, by simp, rfl, World.ownsRow_nil _ _ _ _, (by repeat (first | with_reducible exact HT.out | with_reducible apply tb_same | with_reducible apply tb_alloc | with_reducible apply tb_plus | with_reducible refine tb_other (by omega) ?_)), heap_alloc_at _ _ _ (by simp [go_sem]), hc5, hl5, hm5, ((((((HW.out.setOther HA.out _).setOther HA.out _).setOther HA.out _).setOther HA.out _).setOther HA.out _).alloc _), fun k hk => ⟨(HW.out.lt k hk).2, fun e => HA.out (by rw [hk, e])⟩, by repeat (first | with_reducible exact HG.out | with_reducible exact Grew.refl _ | with_reducible assumption | with_reducible apply Grew.plus | with_reducible apply Grew.drewN | with_reducible apply Grew.drew | with_reducible apply Grew.alloc | with_reducible refine Grew.setCell ?_ (by simp [go_sem]; try omega) _), by simp [Scr.chars], rfl, by simp; omega⟩
          case round =>
            obtain ⟨cs, r6, a6, k6, m, rfl, hgm, J⟩ := hrel
            obtain rfl : m = gk := hgm.symm
            clear hgm
            have HJ := Lib.hid J
            clear HT HG
            have HT := Lib.hid J.tape
            have HG := Lib.hid J.grew
            obtain ⟨hc6, hz6⟩ := World.own_cell J.tape 0 _ rfl
            simp only [List.getElem_toArray, List.getElem_cons_zero] at hc6
            have hl6 := J.cap1
            have hm6 := J.cap2
            have hcnt := J.count
            have hc6' := J.cin
            have hqs : q < wr.heap.size := (Array.getElem?_eq_some_iff.1 J.tape).1
            have hps : wo.heap.size < wr.heap.size := (Array.getElem?_eq_some_iff.1 J.step).1
            clear J
            obtain ⟨sa, sc, rfl, _, _, hsin, _, _⟩ := HJ.out.own6.rd
            have h6q : (Value.slice sa cs.length sc).ownBlock ≠ some q := fun e => by have := (HJ.out.own6.lt q e).1; omega
            have H6q := Lib.hid h6q
            have Hsin := Lib.hid hsin
            have HX : Hid (∀ m0, (r6 = [] ∨ m = 0) → m0 = m → StepDone w (wr.setCell ⟨wo.heap.size, 4, none⟩ (.string (runesBytes cs))) r0 q wo.heap.size acc (.slice va acc.length vc)) := fun m0 hor _ => by
              have J := HJ.out
              have hps : wo.heap.size < wr.heap.size := (Array.getElem?_eq_some_iff.1 J.step).1
              have hr6 : r6 = r5.drop (n5 % 16) := by
                have := J.rest
                rcases hor with h | h
                · rw [h] at this ⊢; simpa using this
                · rw [h] at this; simpa using this
              have hch : cs = Scr.chars (r5.take (n5 % 16)) := by
                have := J.chars
                rcases hor with h | h
                · rw [h] at this; simpa [Scr.chars] using this
                · rw [h] at this; simpa [Scr.chars] using this
              refine ⟨(n1 : Int) % 14, n2, n3, n4, runesBytes cs, r6, a6, k6, ?_, tb_other (by omega) J.tape, J.cin, J.cap1, J.cap2, ?_, J.grew.setCell (by simp; omega) _, J.own3.setOther (fun e => by have := (J.low3 _ e).1; omega) _⟩
              · obtain ⟨e1, e2, e3, e4, e5⟩ := hstep.out
                obtain ⟨e6, e7⟩ := hr5.out
                have hb := HB.out
                rw [e1] at hb
                rw [hr6, hch]
                subst e6 e7
                unfold Scr.readOne
                rw [e1, e2, e3, e4, e5]
                simp only [Int.natCast_emod, Int.cast_ofNat_Int, List.drop_drop]
                rw [if_pos (by exact hb)]
                rfl
              · simp only [World.setCell, Array.getElem?_modify, if_true, J.step, Option.map_some]; rfl
            obtain ⟨hsc, hsz⟩ := World.own_cell HJ.out.step 4 _ rfl
            simp only [List.getElem_toArray, List.getElem_cons_zero, List.getElem_cons_succ] at hsc
            clear hsin h6q
            by_cases hm0 : m = 0
            · have hcv := conv_runes (P := Tryd.prog) (dst := 9) Tryd.underlying38 Tryd.underlying21 Tryd.underlying9 sc Hsin.out
              subst hm0
              go_wp2_with fail
              go_meet
              exact HX.out 0 (.inr trivial) rfl
            · obtain ⟨m, rfl⟩ : ∃ m', m = m' + 1 := ⟨m - 1, by omega⟩
              by_cases h6 : r6 = []
              · have hcv := conv_runes (P := Tryd.prog) (dst := 9) Tryd.underlying38 Tryd.underlying21 Tryd.underlying9 sc Hsin.out
                have hex := HX.out (m + 1) (.inl h6) rfl
                have HE := Lib.hid hex
                clear hex
                subst h6
                go_wp2_with fail
                go_meet
                exact HE.out
              · have hpos6 : 0 < r6.length := List.length_pos_iff.2 h6
                go_wp2_with fail
                refine (next_of q k6 a6 r6 35 w _ (by repeat (first | with_reducible exact HT.out | with_reducible apply tb_same | with_reducible apply tb_alloc | with_reducible apply tb_plus | with_reducible refine tb_other (by omega) ?_)) (by assumption) (by repeat (first | with_reducible exact HG.out | with_reducible exact Grew.refl _ | with_reducible assumption | with_reducible apply Grew.plus | with_reducible apply Grew.drewN | with_reducible apply Grew.drew | with_reducible apply Grew.alloc | with_reducible refine Grew.setCell ?_ (by simp [go_sem]; try omega) _)) (by assumption) (by assumption)).mono ?_; rintro e w' ⟨n7, r7, a7, k7, rfl, rfl, hn7, hr7, hc7, hl7, hm7⟩
                go_wp2_with fail
                refine (char_any n7 hn7 _).mono ?_
                rintro e w' ⟨rfl, rfl⟩
                go_wp2_with (at_builtin; go_loud (refine wpList_app (by rfl) _ _ 38 (by rfl) elRune (wo.heap.size + 1) _ cs.length (cs.map (Value.int .i32)) (by rfl) ((HJ.out.own6.setOther H6q.out _).alloc _) _ 1 1 #[.int .i32 (Scr.letter n7)] 21 (by rfl) (heap_alloc_at _ _ _ (by simp [go_sem])) (by rfl) (by intro u hu; simp at hu; subst hu; rfl) (by omega) (by omega) (by unfold maxLen; omega) w (by repeat (first | with_reducible exact HG.out | with_reducible exact Grew.refl _ | with_reducible assumption | with_reducible apply Grew.plus | with_reducible apply Grew.drewN | with_reducible apply Grew.drew | with_reducible apply Grew.alloc | with_reducible refine Grew.setCell ?_ (by simp [go_sem]; try omega) _)) (by omega) (by simp [go_sem]; omega) ?_); intro g cap w1 hg1 hown1 hkeep hsz1 hat)
                go_roundg m
                case measure => omega
                case rel => exact ⟨cs ++ [Scr.letter n7], r7, a7, k7, m, by go_num, rfl, by simpa using HJ.out.step' hq hqlt (by omega) hr7.out h6 hc7 hl7 hm7 hg1 hown1 hkeep⟩
      case rest =>
        obtain ⟨sk, sa, sb, sc, st, r', a', k', hro, hT, hcin, hk1, hk2, hS, hgc, hown⟩ := hcut
        have HO := Lib.hid hown
        have HT := Lib.hid hT
        have HG := Lib.hid hgc
        have HRO := Lib.hid hro
        have HA := Lib.hid HI.out.apart
        have hrow : wc.cellsAt ⟨wo.heap.size, 0, none⟩ 5 = some [.int .i64 sk, .int .i64 sa, .int .i64 sb, .int .i64 sc, .string st] := World.cellsAt_block hS 5 rfl
        have hqc : q < wc.heap.size := (Array.getElem?_eq_some_iff.1 hT).1
        have hcnt := HI.out.count
        have hlen := Scr.readOne_len r0 hr
        rw [hro] at hlen
        simp only at hlen
        clear hown hT hro hS hgc
        go_wp2_with (at_builtin; go_loud (refine wpList_app (by rfl) _ _ 24 (by rfl) elStep w.heap.size _ acc.length (stepCells acc) (by rfl) (HO.out.alloc _) _ 1 1 #[.int .i64 sk, .int .i64 sa, .int .i64 sb, .int .i64 sc, .string st] 28 (by rfl) (heap_alloc_at _ _ _ (by simp [go_sem])) (by rfl) (by intro u hu; simp at hu; rcases hu with rfl | rfl | rfl | rfl | rfl <;> rfl) (by omega) (by omega) (by unfold maxLen; omega) w (by repeat (first | with_reducible exact HG.out | with_reducible exact Grew.refl _ | with_reducible assumption | with_reducible apply Grew.plus | with_reducible apply Grew.drewN | with_reducible apply Grew.drew | with_reducible apply Grew.alloc | with_reducible refine Grew.setCell ?_ (by simp [go_sem]; try omega) _)) (by omega) (by simp [go_sem]; omega) ?_); intro g cap w1 hg1 hown1 hkeep hsz1 hat; have HT1 := Lib.hid (World.kept_block hkeep (tb_alloc HT.out) HA.out); have hTc := World.own_cell1 HT1.out; have HO1 := Lib.hid hown1; have HG1 := Lib.hid hg1; clear hown1 hg1 hkeep hat hsz1)
        go_roundg r'.length
        case measure => exact hlen
        case rel =>
          refine ⟨acc ++ [⟨sk, sa, sb, sc, st⟩], r', w1.heap.size, k', a', some ⟨g, 0, none⟩, cap, by simp, rfl, rfl, by simpa [stepCells, Scr.cells] using HO1.out.alloc _, heap_alloc_at _ _ _ rfl, HG1.out.size, ?_, hcin, hk1, hk2, ?_, by simp; omega, HG1.out.alloc _⟩
          · intro e
            simp only [Value.ownBlock, Option.some.injEq] at e
            have := (HO1.out.lt g rfl).2
            omega
          · rw [← HI.out.done, Scr.readL_cons r0 hr, HRO.out]; simp
end Go.Proofs.YtkdjejokhbdokaaDoor
