/- Walk: the reference's Read: any bytes as steps. -/
import Derived.Test.YtkdjejokhbdokaaScrRead
namespace Go.Proofs.Ytkdjejokhbdokaa
open Go.RowKit
set_option linter.unusedSimpArgs false
set_option linter.unusedVariables false

structure RInv (w wr : World) (l : List UInt8) (acc : List StepD) (i : Nat) (v : Value) : Prop where
  own : wr.ownsRow w.heap.size 29 5 v acc.length (stepCells acc)
  done : acc ++ Scr.readL (l.drop i) = Scr.readL l
  count : acc.length + (l.drop i).length ≤ l.length
  low : i ≤ l.length + 20
  grew : Grew w wr

/-- The four numbers: k of them have been read from place i on. -/
def Four (l : List UInt8) (i : Nat) (j : Nat) : Int := Scr.hd (l.drop (i + j))

def RDone (w wc : World) (l : List UInt8) (i i' p : Nat) (acc : List StepD) (v : Value) : Prop := ∃ (sk sa sb sc : Int) (st : ByteArray), Scr.readOne (l.drop i) = (⟨sk, sa, sb, sc, st⟩, l.drop i') ∧ i' ≤ l.length + 20 ∧ wc.heap[p]? = some (.cells #[.int .i64 sk, .int .i64 sa, .int .i64 sb, .int .i64 sc, .string st] 29 (0, 0)) ∧ Grew w wc ∧ wc.ownsRow w.heap.size 29 5 v acc.length (stepCells acc)

/-- The loop over a text: cs has been read. -/
structure RText (w wi : World) (l : List UInt8) (i nl p : Nat) (st : Array Value) (acc : List StepD) (v3 s9 : Value) (cs : List Int) : Prop where
  own6 : wi.ownsRow (p + 1) 21 1 s9 cs.length (cs.map (Value.int .i32))
  step : wi.heap[p]? = some (.cells st 29 (0, 0))
  own3 : wi.ownsRow w.heap.size 29 5 v3 acc.length (stepCells acc)
  low3 : ∀ k, v3.ownBlock = some k → k < p
  grew : Grew w wi
  chars : cs = Scr.chars ((l.drop (i + 5)).take cs.length)
  most : cs.length ≤ nl
  here : cs.length = 0 ∨ i + 5 + cs.length ≤ l.length
theorem RText.step' {w wi w1 : World} {l : List UInt8} {i nl p g cap n6 : Nat} {st : Array Value} {acc : List StepD} {v3 s9 : Value} {cs : List Int} {o : Obj} (I : RText w wi l i nl p st acc v3 s9 cs) (hn6 : Scr.hd (l.drop (i + 5 + cs.length)) = n6) (hwp : w.heap.size ≤ p) (hlt : cs.length < nl) (hil : i + 5 + cs.length < l.length)
    (hg1 : Grew w w1) (hown1 : w1.ownsRow (p + 1) 21 1 (.slice (some ⟨g, 0, none⟩) (cs.length + 1) cap) (cs.length + 1) (cs.map (Value.int .i32) ++ [.int .i32 (Scr.letter n6)]))
    (hkeep : ∀ k, k < (wi.alloc o).heap.size → some k ≠ s9.ownBlock → w1.heap[k]? = (wi.alloc o).heap[k]?) :
    RText w w1 l i nl p st acc v3 (.slice (some ⟨g, 0, none⟩) (cs.length + 1) cap) (cs ++ [Scr.letter n6]) := by
  subst hn6
  have hps : p < wi.heap.size := (Array.getElem?_eq_some_iff.1 I.step).1
  have hK : ∀ k, k ≤ p → w1.heap[k]? = wi.heap[k]? := fun k hk => by
    rw [hkeep k (by simp; omega) (fun e => by have := (I.own6.lt k e.symm).1; omega), heap_alloc_past _ _ _ (by omega)]
  refine ⟨by simpa using hown1, by rw [hK p (Nat.le_refl _)]; exact I.step, I.own3.keep (fun k hk => hK k (by have := I.low3 k hk; omega)), I.low3, hg1, ?_, by simp; omega, .inr (by simp; omega)⟩
  have hch := I.chars
  rw [List.length_append, List.length_singleton, List.take_succ_eq_append_getElem (by simp; omega)]
  simp only [Scr.chars, List.map_append, List.map_cons, List.map_nil] at hch ⊢
  rw [← hch, Scr.hd_drop l _ hil, List.getElem_drop]

set_option maxRecDepth 100000 in
set_option maxHeartbeats 1000000 in
theorem rread_any (a : Option Addr) (cap : Nat) (l : List UInt8) (w : World) (hin : CellsIn w a (bv l)) (hcap : l.length ≤ cap) (hm : cap ≤ 9223372036854775807) (hl : l.length ≤ 1000000) :
    Calls Try.prog 13 #[.slice a l.length cap] w fun e w' => ∃ v, e = .returned v ∧ Grew w w' ∧ w'.ownsRow w.heap.size 29 5 v (Scr.readL l).length (stepCells (Scr.readL l)) := by
  have Hin := Lib.hid hin
  clear hin
  go_enter Try.func13, Try.ntmps13
  go_wp2_with fail
  go_loopg [3, 4] l.length (fun g s3 s4 wr => ∃ (acc : List StepD) (i : Nat) (va : Option Addr) (vc : Nat), s3 = .slice va acc.length vc ∧ s4 = .int .i64 i ∧ g = (l.drop i).length ∧ RInv w wr l acc i s3)
  case atStart =>
    exact ⟨[], 0, none, 0, rfl, rfl, by simp, World.ownsRow_nil _ _ _ _, rfl, by simp, by omega, Grew.refl w⟩
  case round =>
    obtain ⟨acc, i, va, vc, rfl, rfl, hgk, I⟩ := hrel
    obtain ⟨wo, rfl⟩ : ∃ wo : World, wo = wr := ⟨_, rfl⟩
    have HI := Lib.hid I
    have HGK := Lib.hid hgk
    have hlow := I.low
    clear I hgk
    by_cases hi : i < l.length
    · obtain ⟨b, off, rfl, hb, hx⟩ := Hin.out.at' (by rw [bv_length]; omega)
      have HC : Hid (∀ W, Grew w W → ∀ j, j < l.length → W.cell? ⟨b, off + j, none⟩ = some (.int .u8 (Scr.hd (l.drop j)))) := fun W hg j hj => by
        rw [hg.cell hb, hx j (by rw [bv_length]; exact hj), bv_get, Scr.hd_drop l j hj]
      clear hx
      have hns := HI.out.grew.size
      go_wp2_with fail
      go_loopg [4, 6] 4 (fun g s4 s6 wi => ∃ k : Nat, k ≤ 4 ∧ g = 4 - k ∧ s6 = .int .i64 k ∧ s4 = .int .i64 ((i + k : Nat) : Int) ∧ Grew w wi ∧ wi.heap[wo.heap.size]? = some (.cells (numRow 4 (Four l i) k) 45 (0, 0)) ∧ wi.ownsRow w.heap.size 29 5 (.slice va acc.length vc) acc.length (stepCells acc))
      case atStart =>
        exact ⟨0, by omega, rfl, rfl, rfl, HI.out.grew.alloc _, heap_alloc_at _ _ _ rfl, HI.out.own.alloc _⟩
      case round =>
        obtain ⟨k, hk, hg4, rfl, rfl, hgw, hT, hown⟩ := hrel
        obtain rfl : gk = 4 - k := hg4
        have HT := Lib.hid hT
        have HG := Lib.hid hgw
        have HO := Lib.hid hown
        clear hT hown
        by_cases hk4 : k < 4
        · obtain ⟨hc4, hz4⟩ := World.own_cell HT.out k _ (numRow_get 4 _ k k hk4)
          by_cases hik : i + k < l.length
          · have hcb := HC.out wr hgw (i + k) hik
            have hn : Scr.hd (l.drop (i + k)) < 256 := Scr.hd_lt _
            have HF : Hid ((Scr.hd (l.drop (i + k)) : Int) = Four l i k) := rfl
            generalize Scr.hd (l.drop (i + k)) = n at *
            clear hgw
            go_wp2_with fail
            go_roundg (4 - (k + 1))
            case measure => omega
            case rel =>
              refine ⟨k + 1, by omega, rfl, by go_num, by go_num, by repeat (first | with_reducible exact HG.out | with_reducible exact Grew.refl _ | with_reducible assumption | with_reducible apply Grew.plus | with_reducible apply Grew.drewN | with_reducible apply Grew.drew | with_reducible apply Grew.alloc | with_reducible refine Grew.setCell ?_ (by simp [go_sem]; try omega) _), ?_, HO.out.setOther (fun e => by have := (HI.out.own.lt _ e).2; omega) _⟩
              rw [HF.out, World.own_setCell HT.out, numRow_set 4 _ k hk4]
          · have hz0 : Four l i k = 0 := by unfold Four; rw [Scr.hd_drop_ge l _ (by omega)]; rfl
            have HZ := Lib.hid hz0
            clear hz0 hgw
            go_wp2_with fail
            go_roundg (4 - (k + 1))
            case measure => omega
            case rel => exact ⟨k + 1, by omega, rfl, by go_num, by go_num, HG.out, by rw [numRow_skip 4 _ k HZ.out]; exact HT.out, HO.out⟩
        · obtain rfl : k = 4 := by omega
          have hps : wo.heap.size < wr.heap.size := (Array.getElem?_eq_some_iff.1 HT.out).1
          have hn0 : Scr.hd (l.drop i) < 256 := Scr.hd_lt _
          have hn1 : Scr.hd (l.drop (i + 1)) < 256 := Scr.hd_lt _
          have hn2 : Scr.hd (l.drop (i + 2)) < 256 := Scr.hd_lt _
          have hn3 : Scr.hd (l.drop (i + 3)) < 256 := Scr.hd_lt _
          have hrow : numRow 4 (Four l i) 4 = #[.int .i64 (Scr.hd (l.drop i) : Int), .int .i64 (Scr.hd (l.drop (i + 1)) : Int), .int .i64 (Scr.hd (l.drop (i + 2)) : Int), .int .i64 (Scr.hd (l.drop (i + 3)) : Int)] := rfl
          have hT := HT.out
          rw [hrow] at hT
          have d0 := (World.own_cell hT 0 _ rfl).1
          have d1 := (World.own_cell hT 1 _ rfl).1
          have d2 := (World.own_cell hT 2 _ rfl).1
          have d3 := (World.own_cell hT 3 _ rfl).1
          simp only [List.getElem_toArray, List.getElem_cons_zero, List.getElem_cons_succ] at d0 d1 d2 d3
          have HN : Hid (∃ n0 n1 n2 n3, n0 = Scr.hd (l.drop i) ∧ n1 = Scr.hd (l.drop (i + 1)) ∧ n2 = Scr.hd (l.drop (i + 2)) ∧ n3 = Scr.hd (l.drop (i + 3))) := ⟨_, _, _, _, rfl, rfl, rfl, rfl⟩
          clear hT hrow hgw HN
          generalize hm0 : Scr.hd (l.drop i) = n0 at *
          generalize hm1 : Scr.hd (l.drop (i + 1)) = n1 at *
          generalize hm2 : Scr.hd (l.drop (i + 2)) = n2 at *
          generalize hm3 : Scr.hd (l.drop (i + 3)) = n3 at *
          have HN : Hid (Scr.hd (l.drop i) = n0 ∧ Scr.hd (l.drop (i + 1)) = n1 ∧ Scr.hd (l.drop (i + 2)) = n2 ∧ Scr.hd (l.drop (i + 3)) = n3) := ⟨hm0, hm1, hm2, hm3⟩
          clear hm0 hm1 hm2 hm3
          go_upto_if 44 with (go_at_call 25; refine (rtexts_any _ _).mono ?_; rintro e w' ⟨rfl, rfl⟩)
          have HO3 := Lib.hid (HO.out.alloc (.cells #[.int .i64 (↑n0 % 14), .int .i64 ↑n1, .int .i64 ↑n2, .int .i64 ↑n3, .string ⟨#[]⟩] 29))
          have hwp : w.heap.size ≤ wr.heap.size := HG.out.size
          go_cut [4, 8, 9, 10] (fun s4 s8 s9 s10 wc => ∃ i' : Nat, s4 = .int .i64 i' ∧ RDone w wc l i i' wr.heap.size acc (.slice va acc.length vc))
          case first => as_aux_lemma =>
            obtain ⟨ws, rfl⟩ : ∃ ws : World, ws = wr := ⟨_, rfl⟩
            generalize hb : Scr.texts (↑n0 % 14) = tb
            have HB := Lib.hid hb
            clear hb d0 d1 d2 d3
            cases tb
            case false =>
              go_wp2_with fail
              go_meet
              refine ⟨i + 4, by go_num, (n0 : Int) % 14, n1, n2, n3, ByteArray.empty, ?_, by omega, heap_alloc_at _ _ _ rfl, by repeat (first | with_reducible exact HG.out | with_reducible exact Grew.refl _ | with_reducible assumption | with_reducible apply Grew.plus | with_reducible apply Grew.drewN | with_reducible apply Grew.drew | with_reducible apply Grew.alloc | with_reducible refine Grew.setCell ?_ (by simp [go_sem]; try omega) _), HO3.out⟩
              obtain ⟨e0, e1, e2, e3⟩ := HN.out
              have hb := HB.out
              rw [← e0] at hb
              unfold Scr.readOne
              simp only [List.drop_drop, e0, e1, e2, e3, Int.natCast_emod, Int.cast_ofNat_Int]
              rw [e0] at hb
              simp [hb]
            case true =>
              have hn4 : Scr.hd (l.drop (i + 4)) < 256 := Scr.hd_lt _
              go_upto_if 48 with fail
              go_cut [8] (fun s8 wc => s8 = .int .i64 ((Scr.hd (l.drop (i + 4)) % 16 : Nat) : Int) ∧ Grew w wc ∧ wc.heap[ws.heap.size]? = some (.cells #[.int .i64 (↑n0 % 14), .int .i64 ↑n1, .int .i64 ↑n2, .int .i64 ↑n3, .string ⟨#[]⟩] 29 (0, 0)) ∧ wc.ownsRow w.heap.size 29 5 (.slice va acc.length vc) acc.length (stepCells acc))
              case first => as_aux_lemma =>
                by_cases hi4 : i + 4 < l.length
                · have hcb := HC.out _ (HG.out.alloc (.cells #[.int .i64 (↑n0 % 14), .int .i64 ↑n1, .int .i64 ↑n2, .int .i64 ↑n3, .string ⟨#[]⟩] 29)) (i + 4) hi4
                  generalize Scr.hd (l.drop (i + 4)) = n4 at *
                  go_wp2_with fail
                  go_meet
                  exact ⟨by simp, by repeat (first | with_reducible exact HG.out | with_reducible exact Grew.refl _ | with_reducible assumption | with_reducible apply Grew.plus | with_reducible apply Grew.drewN | with_reducible apply Grew.drew | with_reducible apply Grew.alloc | with_reducible refine Grew.setCell ?_ (by simp [go_sem]; try omega) _), heap_alloc_at _ _ _ rfl, HO3.out⟩
                · have hz4 := Scr.hd_drop_ge l (i + 4) (by omega)
                  have HZ4 := Lib.hid hz4
                  clear hz4
                  go_wp2_with fail
                  go_meet
                  exact ⟨by rw [HZ4.out]; rfl, by repeat (first | with_reducible exact HG.out | with_reducible exact Grew.refl _ | with_reducible assumption | with_reducible apply Grew.plus | with_reducible apply Grew.drewN | with_reducible apply Grew.drew | with_reducible apply Grew.alloc | with_reducible refine Grew.setCell ?_ (by simp [go_sem]; try omega) _), heap_alloc_at _ _ _ rfl, HO3.out⟩
              case rest =>
                obtain ⟨rfl, hg8, hT8, ho8⟩ := hcut
                have HG8 := Lib.hid hg8
                have HT8 := Lib.hid hT8
                have HO8 := Lib.hid ho8
                have hnl := Nat.mod_lt (Scr.hd (l.drop (i + 4))) (show 0 < 16 by omega)
                have HNL : Hid (∃ nl, nl = Scr.hd (l.drop (i + 4)) % 16) := ⟨_, rfl⟩
                generalize hnn : Scr.hd (l.drop (i + 4)) % 16 = nl at *
                have HNN := Lib.hid hnn
                clear hg8 hT8 ho8 hnn HNL hn4
                go_wp2_with fail
                go_loopg [4, 9, 10] nl (fun g s4 s9 s10 wi => ∃ (cs : List Int) (ta : Option Addr) (tc : Nat), s9 = .slice ta cs.length tc ∧ s10 = .int .i64 (cs.length : Nat) ∧ s4 = .int .i64 ((i + 5 + cs.length : Nat) : Int) ∧ g = nl - cs.length ∧ RText w wi l i nl ws.heap.size #[.int .i64 (↑n0 % 14), .int .i64 ↑n1, .int .i64 ↑n2, .int .i64 ↑n3, .string ⟨#[]⟩] acc (.slice va acc.length vc) s9 cs)
                case atStart => exact ⟨[], none, 0, rfl, rfl, by go_num, rfl, World.ownsRow_nil _ _ _ _, HT8.out, HO8.out, fun k hk => (HO.out.lt k hk).2, HG8.out, rfl, by simp, .inl rfl⟩
                case round =>
                  obtain ⟨cs, ta, tc, rfl, rfl, rfl, hgm, J⟩ := hrel
                  have HGM := Lib.hid hgm
                  have HJ := Lib.hid J
                  have hms := J.most
                  have hgj := J.grew
                  have hps : ws.heap.size < wr.heap.size := (Array.getElem?_eq_some_iff.1 J.step).1
                  clear HG HT hgm J
                  have HG := Lib.hid hgj
                  by_cases hgo : cs.length < nl ∧ i + 5 + cs.length < l.length
                  · obtain ⟨hlt, hil⟩ := hgo
                    have hcb := HC.out _ hgj (i + 5 + cs.length) hil
                    have hn6 : Scr.hd (l.drop (i + 5 + cs.length)) < 256 := Scr.hd_lt _
                    clear hgj
                    generalize hn6e : Scr.hd (l.drop (i + 5 + cs.length)) = n6 at *
                    have HN6 := Lib.hid hn6e
                    clear hn6e
                    go_wp2_with fail
                    refine (rletter_any n6 hn6 _).mono ?_
                    rintro e w' ⟨rfl, rfl⟩
                    go_wp2_with (at_builtin; go_loud (refine wpList_app (by rfl) _ _ 43 (by rfl) elRune (ws.heap.size + 1) _ cs.length (cs.map (Value.int .i32)) (by rfl) (HJ.out.own6.alloc _) _ 1 1 #[.int .i32 (Scr.letter n6)] 21 (by rfl) (heap_alloc_at _ _ _ (by simp [go_sem])) (by rfl) (by intro u hu; simp at hu; subst hu; rfl) (by omega) (by omega) (by unfold maxLen; omega) w (by repeat (first | with_reducible exact HG.out | with_reducible exact Grew.refl _ | with_reducible assumption | with_reducible apply Grew.plus | with_reducible apply Grew.drewN | with_reducible apply Grew.drew | with_reducible apply Grew.alloc | with_reducible refine Grew.setCell ?_ (by simp [go_sem]; try omega) _)) (by omega) (by simp [go_sem]; omega) ?_); intro g cap' w1 hg1 hown1 hkeep hsz1 hat; have HK := Lib.hid hkeep; have HO1 := Lib.hid hown1; clear hkeep hown1 hsz1 hat)
                    go_roundg (nl - (cs.length + 1))
                    case measure => rw [HGM.out]; omega
                    case rel => exact ⟨cs ++ [Scr.letter n6], some ⟨g, 0, none⟩, cap', by simp, by simp, by simp; omega, by simp, HJ.out.step' HN6.out (by omega) hlt hil hg1 HO1.out HK.out⟩
                  · have hex : nl ≤ cs.length ∨ l.length ≤ i + 5 + cs.length := by omega
                    have hch : cs = Scr.chars ((l.drop (i + 5)).take nl) := by
                      have h1 := HJ.out.chars
                      rcases hex with h | h
                      · rwa [show cs.length = nl by omega] at h1
                      · rw [List.take_of_length_le (by simp; omega)] at h1 ⊢; exact h1
                    have hrest : l.drop (i + 5 + cs.length) = l.drop (i + 5 + nl) := by
                      rcases hex with h | h
                      · rw [show cs.length = nl by omega]
                      · rw [List.drop_eq_nil_iff.2 h, List.drop_eq_nil_iff.2 (by omega)]
                    have HX : Hid (Scr.readOne (l.drop i) = (⟨(n0 : Int) % 14, n1, n2, n3, runesBytes cs⟩, l.drop (i + 5 + cs.length))) := by
                      obtain ⟨e0, e1, e2, e3⟩ := HN.out
                      have hb := HB.out
                      have hnn := HNN.out
                      rw [hrest, hch]
                      rw [← e0] at hb
                      show Scr.readOne (l.drop i) = _
                      unfold Scr.readOne
                      simp only [List.drop_drop, e0, e1, e2, e3, hnn, Int.natCast_emod, Int.cast_ofNat_Int]
                      rw [e0] at hb
                      rw [if_pos (by simpa using hb)]
                      rfl
                    have hgood : ∀ c ∈ cs, Scr.good c := fun c hc => by
                      rw [hch] at hc
                      simp only [Scr.chars, List.mem_map] at hc
                      obtain ⟨x, _, rfl⟩ := hc
                      exact Scr.alpha_good (Scr.letter_alpha _)
                    have hrd : CellsIn wr ta (cs.map (Value.int .i32)) ∧ cs.length ≤ tc ∧ tc ≤ 9223372036854775807 := by
                      obtain ⟨a', c', e, h1, h2, h3, _⟩ := HJ.out.own6.rd
                      cases e
                      exact ⟨h3, h1, h2⟩
                    have CU : Hid (Calls Try.prog 27 #[.slice ta cs.length tc] wr fun e w' => e = .returned (.string (runesBytes cs)) ∧ Grew wr w') := utf8_any ta tc cs wr hrd.1 hrd.2.1 hrd.2.2 (by omega) hgood
                    obtain ⟨hc4, hz4⟩ := World.own_cell HJ.out.step 4 _ rfl
                    simp only [List.getElem_toArray, List.getElem_cons_zero, List.getElem_cons_succ] at hc4
                    clear hch hrest hgood hrd hgo hgj
                    rcases (show (cs.length < nl ∧ l.length ≤ i + 5 + cs.length) ∨ ¬ cs.length < nl by omega) with ⟨hlt2, hlt3⟩ | hlt2
                    all_goals clear hex
                    all_goals
                      go_wp2_with (go_at_call 27; refine CU.out.mono ?_; rintro e w' ⟨rfl, gx, rfl⟩)
                      go_meet
                      refine ⟨i + 5 + cs.length, rfl, (n0 : Int) % 14, n1, n2, n3, runesBytes cs, HX.out, by omega, ?_, by repeat (first | with_reducible exact HG.out | with_reducible exact Grew.refl _ | with_reducible assumption | with_reducible apply Grew.plus | with_reducible apply Grew.drewN | with_reducible apply Grew.drew | with_reducible apply Grew.alloc | with_reducible refine Grew.setCell ?_ (by simp [go_sem]; try omega) _), ?_⟩
                      · first | exact World.own_setCell (tb_plus HJ.out.step) _ | exact tb_plus (World.own_setCell HJ.out.step _)
                      · have hne : (Value.slice va acc.length vc).ownBlock ≠ some ws.heap.size := fun e => by have := HJ.out.low3 _ e; omega
                        first | exact (HJ.out.own3.grew ⟨gx, rfl⟩).setOther hne _ | exact (HJ.out.own3.setOther hne _).grew ⟨gx, rfl⟩
          case rest =>
            obtain ⟨i', rfl, sk, sa, sb, sc, st, hro, hi', hS, hgc, hown⟩ := hcut
            have HOW := Lib.hid hown
            have HRO := Lib.hid hro
            have HG3 := Lib.hid hgc
            have hrow : wc.cellsAt ⟨wr.heap.size, 0, none⟩ 5 = some [.int .i64 sk, .int .i64 sa, .int .i64 sb, .int .i64 sc, .string st] := World.cellsAt_block hS 5 rfl
            have hcnt := HI.out.count
            have hlen := Scr.readOne_len (l.drop i) (by intro e; have := congrArg List.length e; simp at this; omega)
            rw [hro] at hlen
            simp only at hlen
            have HLEN := Lib.hid hlen
            have hpos : 0 < (l.drop i).length := by simp; omega
            have hcnt2 : acc.length + 1 ≤ 1000000 := by omega
            have hsz3 := hgc.size
            have HCN : Hid (acc.length + 1 + (l.drop i').length ≤ l.length) := by unfold Hid; omega
            clear hown hro hS hgc HG HT hcnt hlen hpos d0 d1 d2 d3
            have HG := HG3
            go_wp2_with (at_builtin; go_loud (refine wpList_app (by rfl) _ _ 24 (by rfl) elStep w.heap.size _ acc.length (stepCells acc) (by rfl) (HOW.out.alloc _) _ 1 1 #[.int .i64 sk, .int .i64 sa, .int .i64 sb, .int .i64 sc, .string st] 29 (by rfl) (heap_alloc_at _ _ _ (by simp [go_sem])) (by rfl) (by intro u hu; simp at hu; rcases hu with rfl | rfl | rfl | rfl | rfl <;> rfl) (by omega) (by omega) (by unfold maxLen; omega) w (by repeat (first | with_reducible exact HG.out | with_reducible exact Grew.refl _ | with_reducible assumption | with_reducible apply Grew.plus | with_reducible apply Grew.drewN | with_reducible apply Grew.drew | with_reducible apply Grew.alloc | with_reducible refine Grew.setCell ?_ (by simp [go_sem]; try omega) _)) (by omega) (by simp [go_sem]; omega) ?_); intro g cap' w1 hg1 hown1 hkeep hsz1 hat; have HO1 := Lib.hid hown1; have HG1 := Lib.hid hg1; clear hown1 hg1 hkeep hat hsz1)
            go_roundg (l.drop i').length
            case measure => rw [HGK.out]; exact HLEN.out
            case rel => exact ⟨acc ++ [⟨sk, sa, sb, sc, st⟩], i', some ⟨g, 0, none⟩, cap', by simp, rfl, rfl, by simpa [stepCells, Scr.cells] using HO1.out, by rw [← HI.out.done, Scr.readL_cons (l.drop i) (by intro e; have := congrArg List.length e; simp at this; omega), HRO.out]; simp, by simpa using HCN.out, hi', HG1.out⟩
    · have hnil : l.drop i = [] := List.drop_eq_nil_iff.2 (by omega)
      have hdn := HI.out.done
      rw [hnil, Scr.readL_nil, List.append_nil] at hdn
      have HD := Lib.hid hdn
      clear hnil hdn
      go_wp2_with fail
      go_ret
      have I := HI.out
      rw [← HD.out]
      exact ⟨_, rfl, I.grew, I.own⟩
end Go.Proofs.Ytkdjejokhbdokaa
