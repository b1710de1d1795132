/- Walk of the law ScriptTotal. -/
import Derived.Test.YtkdjejokhbdokaaDoorScrWr
import Derived.Test.YtkdjejokhbdokaaDoorScrWk
import Derived.Test.YtkdjejokhbdokaaDoorStr
import Derived.Test.YtkdjejokhbdokaaDoorTail
import Derived.Lib.ItoaLen
namespace Go.Proofs.YtkdjejokhbdokaaDoor
open Go.RowKit
set_option linter.unusedSimpArgs false
set_option linter.unusedVariables false

theorem cin_block {w : World} {B : Nat} {cs : Array Value} {t : TypeId} {fr : Nat × Nat} (h : w.heap[B]? = some (.cells cs t fr)) : CellsIn w (some ⟨B, 0, none⟩) cs.toList := fun _ => ⟨B, 0, rfl, by rw [World.cellsAt_block h cs.toList.length (by simp)]⟩
theorem owns_block {w : World} {B base n size : Nat} {cs : Array Value} {e : TypeId} (h : w.heap[B]? = some (.cells cs e (0, 0))) (hb : base ≤ B) (hn : cs.size = n * size) (hm : n ≤ maxLen) : w.ownsRow base e size (.slice (some ⟨B, 0, none⟩) n n) n cs.toList :=
  ⟨by simpa using hn, .inr ⟨B, n, cs, rfl, hb, h, Nat.le_refl _, hm, hn, List.take_of_length_le (by rw [Array.length_toList, hn]; exact Nat.le_refl _)⟩⟩
theorem elStr : Elem Tryd.prog 43 9 1 16 := Elem.of Tryd.underlying43 (by kernel_rfl) (by decide)
theorem itoa_small (n : Int) (h0 : 0 ≤ n) (h1 : n ≤ 255) : (itoaB n).size ≤ 21 := by
  have := Lib.itoa_length_le n (by omega) (by omega)
  show (Lib.itoa n).toArray.size ≤ 21
  simpa using this
theorem name_size (k : Int) : (nameB k).size ≤ 7 := by
  unfold nameB
  split
  · rename_i h
    obtain ⟨n, rfl⟩ := Int.eq_ofNat_of_zero_le h.1
    have hn : n = 0 ∨ n = 1 ∨ n = 2 ∨ n = 3 ∨ n = 4 ∨ n = 5 ∨ n = 6 ∨ n = 7 ∨ n = 8 ∨ n = 9 ∨ n = 10 ∨ n = 11 ∨ n = 12 ∨ n = 13 := by omega
    rcases hn with rfl | rfl | rfl | rfl | rfl | rfl | rfl | rfl | rfl | rfl | rfl | rfl | rfl | rfl <;> decide
  · decide
theorem name_some (k : Int) (h : 0 ≤ k ∧ k < 14) : (nameB k).toList.isEmpty = false := by
  unfold nameB
  rw [if_pos h, ByteArray.toList_eq]
  obtain ⟨n, rfl⟩ := Int.eq_ofNat_of_zero_le h.1
  have hn : n = 0 ∨ n = 1 ∨ n = 2 ∨ n = 3 ∨ n = 4 ∨ n = 5 ∨ n = 6 ∨ n = 7 ∨ n = 8 ∨ n = 9 ∨ n = 10 ∨ n = 11 ∨ n = 12 ∨ n = 13 := by omega
  rcases hn with rfl | rfl | rfl | rfl | rfl | rfl | rfl | rfl | rfl | rfl | rfl | rfl | rfl | rfl <;> decide
theorem join_some (x : ByteArray) (xs : List ByteArray) (sep : ByteArray) (h : x.toList.isEmpty = false) : (joinB (x :: xs) sep).toList.isEmpty = false := by
  rw [ByteArray.toList_eq] at h ⊢
  unfold joinB
  simp only [List.map_cons, Lib.join_cons]
  cases hx : x.data.toList with
  | nil => rw [hx] at h; simp at h
  | cons a b => rfl
theorem join_len4 (a b c d sep : ByteArray) : (joinB [a, b, c, d] sep).size = a.size + (sep.size + b.size) + (sep.size + c.size) + (sep.size + d.size) := by
  show Array.size _ = _
  simp only [joinB, List.map_cons, List.map_nil, Lib.join_cons, Lib.joinTail, List.size_toArray, List.length_append, List.flatten_cons, List.flatten_nil, Array.length_toList, List.append_nil]
  show _ = a.data.size + (sep.data.size + b.data.size) + (sep.data.size + c.data.size) + (sep.data.size + d.data.size)
  omega
theorem join_len5 (a b c d e sep : ByteArray) : (joinB [a, b, c, d, e] sep).size = a.size + (sep.size + b.size) + (sep.size + c.size) + (sep.size + d.size) + (sep.size + e.size) := by
  show Array.size _ = _
  simp only [joinB, List.map_cons, List.map_nil, Lib.join_cons, Lib.joinTail, List.size_toArray, List.length_append, List.flatten_cons, List.flatten_nil, Array.length_toList, List.append_nil]
  show _ = a.data.size + (sep.data.size + b.data.size) + (sep.data.size + c.data.size) + (sep.data.size + d.data.size) + (sep.data.size + e.data.size)
  omega

theorem read_len4 : ∀ (n : Nat) (l : List UInt8), l.length ≤ n → 4 * (Scr.readL l).length ≤ l.length + 3
  | 0, l, h => by
    have : l = [] := List.length_eq_zero_iff.1 (by omega)
    subst this; simp [Scr.readL_nil]
  | n + 1, l, h => by
    by_cases hl : l = []
    · subst hl; simp [Scr.readL_nil]
    · rw [Scr.readL_cons l hl, List.length_cons]
      have hp := List.length_pos_iff.2 hl
      have h1 := Scr.readOne_len l hl
      have ih := read_len4 n (Scr.readOne l).2 (by omega)
      have h2 : (Scr.readOne l).2.length ≤ l.length - 4 := by
        unfold Scr.readOne
        split <;> simp <;> omega
      by_cases h4 : 4 ≤ l.length
      · omega
      · have h3 : (Scr.readOne l).2 = [] := List.length_eq_zero_iff.1 (by omega)
        rw [h3]; simp [Scr.readL_nil]; omega
theorem plain_size {s : StepD} (h : Scr.plainB s = true) : s.text.size ≤ 60 := by
  obtain ⟨_, _, _, _, h5, _, h7⟩ := Scr.plain_parts h
  have h1 := Scr.enc_runes s.text.data.toList h7
  have h2 := Scr.flat_len (Scr.runesL s.text.data.toList)
  have h3 : s.text.data.toList.length ≤ 60 := by
    rw [h1]
    unfold Scr.runesT at h5
    omega
  rw [Array.length_toList] at h3
  exact h3

set_option maxRecDepth 100000 in
set_option maxHeartbeats 1000000 in
theorem text_any (sk sa sb sc : Int) (st : ByteArray) (w : World) (hp : Scr.plainB ⟨sk, sa, sb, sc, st⟩ = true) (ht : Tab w) (hs : st.size ≤ 9223372036854775806) :
    Calls Tryd.prog 7 #[.agg #[.int .i64 sk, .int .i64 sa, .int .i64 sb, .int .i64 sc, .string st]] w fun e w' => ∃ t : ByteArray, e = .returned (.string t) ∧ Grew w w' ∧ t.toList.isEmpty = false := by
  have PC := Lib.hid (fun w => plain_any sk sa sb sc st w hs)
  rw [hp] at PC
  obtain ⟨q1, q2, q3, q4, q5, _, _⟩ := Scr.plain_parts hp
  simp only at q1 q2 q3 q4 q5
  obtain ⟨p1, p2⟩ := q1
  obtain ⟨p3, p4⟩ := q2
  obtain ⟨p5, p6⟩ := q3
  obtain ⟨p7, p8⟩ := q4
  have HT := Lib.hid ht
  have ha := itoa_small sa p3 p4
  have hb := itoa_small sb p5 p6
  have hc := itoa_small sc p7 p8
  have hnm := name_size sk
  have HNS := Lib.hid (name_some sk ⟨p1, p2⟩)
  clear hp ht
  go_enter Tryd.func7, Tryd.ntmps7
  go_wp2_with (go_at_call 6; refine (PC.out _).mono ?_; rintro e w' ⟨rfl, gx, rfl⟩)
  refine wp_region_plus_tail 12 (by kernel_rfl) (by kernel_rfl) ?_
  simp only [List.take_succ_cons, List.take_zero, List.drop_succ_cons, List.drop_zero]
  repeat (go_big_quiet_step ((first | (go_at_call 8; exact Calls.grew_of (name_any _ (by omega) (by omega) _)) | (go_at_call 17; exact Calls.grew_of (itoa_any _ (by omega) (by omega) _ (HT.out.grew (by repeat (first | with_reducible exact HG.out | with_reducible exact Grew.refl _ | with_reducible assumption | with_reducible apply Grew.plus | with_reducible apply Grew.drewN | with_reducible apply Grew.drew | with_reducible apply Grew.alloc | with_reducible refine Grew.setCell ?_ (by simp [go_sem]; try omega) _))))))))
  refine wpQuiet_nil ?_
  intro _ hw'
  obtain ⟨nx, rfl⟩ := hw'
  generalize hna : nameB sk = na at *
  generalize hia : itoaB sa = ia at *
  generalize hib : itoaB sb = ib at *
  generalize hic : itoaB sc = ic at *
  clear hna hia hib hic
  generalize htb : Scr.texts sk = tb
  have HTB := Lib.hid htb
  clear htb
  have h32 : (⟨#[32]⟩ : ByteArray).size = 1 := rfl
  cases tb
  case false =>
    have hl4 : (joinB [na, ia, ib, ic] ⟨#[32]⟩).size ≤ 140737488355328 := by rw [join_len4, h32]; omega
    have HL4 := Lib.hid hl4
    clear h32 hl4
    go_wp2_with (go_at_call 13; refine (texts_any _ _).mono ?_; rw [HTB.out]; rintro e w' ⟨rfl, rfl⟩)
    refine (join_any _ 4 [na, ia, ib, ic] ⟨#[32]⟩ _ (cin_block (cs := #[.string na, .string ia, .string ib, .string ic]) (heap_alloc_at _ _ _ (by simp [go_sem]))) (by simp) (by simp) HL4.out).mono ?_
    rintro e w' ⟨rfl, gy, rfl⟩
    go_wp2
    go_ret
    exact ⟨_, rfl, by repeat (first | with_reducible exact HG.out | with_reducible exact Grew.refl _ | with_reducible assumption | with_reducible apply Grew.plus | with_reducible apply Grew.drewN | with_reducible apply Grew.drew | with_reducible apply Grew.alloc | with_reducible refine Grew.setCell ?_ (by simp [go_sem]; try omega) _), join_some _ _ _ HNS.out⟩
  case true =>
    have hr0 : (itoaB ((Scr.runesT st).length : Int)).size ≤ 21 := itoa_small _ (by omega) (by omega)
    have HRC := Lib.hid (fun w => runeCount_any st w hs)
    generalize (Scr.runesT st).length = rn at *
    have hl5 : (joinB [na, ia, ib, ic, itoaB rn] ⟨#[32]⟩).size ≤ 140737488355328 := by rw [join_len5, h32]; omega
    have HL5 := Lib.hid hl5
    clear h32 hl5 hr0
    go_wp2_with (first | (go_at_call 13; refine (texts_any _ _).mono ?_; rw [HTB.out]; rintro e w' ⟨rfl, rfl⟩) | (go_at_call 15; refine (HRC.out _).mono ?_; rintro e w' ⟨rfl, gy, rfl⟩) | (go_at_call 17; refine (itoa_any rn (by omega) (by omega) _ (HT.out.grew (by repeat (first | with_reducible exact HG.out | with_reducible exact Grew.refl _ | with_reducible assumption | with_reducible apply Grew.plus | with_reducible apply Grew.drewN | with_reducible apply Grew.drew | with_reducible apply Grew.alloc | with_reducible refine Grew.setCell ?_ (by simp [go_sem]; try omega) _)))).mono ?_; rintro e w' ⟨rfl, gz, rfl⟩) | (at_builtin; go_loud (refine wpList_app (by rfl) _ _ 43 (by rfl) elStr w.heap.size _ 4 [.string na, .string ia, .string ib, .string ic] (by rfl) (owns_block (B := w.heap.size + 1 + gx.blocks.size + nx.blocks.size) (cs := #[.string na, .string ia, .string ib, .string ic]) (tb_alloc (tb_plus (tb_plus (heap_alloc_at _ _ _ (by simp [go_sem]))))) (by omega) (by rfl) (by decide)) _ 1 1 #[.string (itoaB rn)] 9 (by rfl) (heap_alloc_at _ _ _ (by simp [go_sem])) (by rfl) (by intro u hu; simp at hu; subst hu; rfl) (by omega) (by omega) (by decide) w (by repeat (first | with_reducible exact HG.out | with_reducible exact Grew.refl _ | with_reducible assumption | with_reducible apply Grew.plus | with_reducible apply Grew.drewN | with_reducible apply Grew.drew | with_reducible apply Grew.alloc | with_reducible refine Grew.setCell ?_ (by simp [go_sem]; try omega) _)) (Nat.le_refl _) (by simp [go_sem] <;> omega) ?_); intro g cap1 w1 hg1 hown1 hkeep hsz1 hat; have HO1 := Lib.hid hown1; have HG := Lib.hid hg1; clear hown1 hg1 hkeep hat))
    refine (join_any _ cap1 [na, ia, ib, ic, itoaB rn] ⟨#[32]⟩ _ HO1.out.cin HO1.out.caps.1 (by simp) HL5.out).mono ?_
    rintro e w' ⟨rfl, gq, rfl⟩
    go_wp2
    go_ret
    exact ⟨_, rfl, by repeat (first | with_reducible exact HG.out | with_reducible exact Grew.refl _ | with_reducible assumption | with_reducible apply Grew.plus | with_reducible apply Grew.drewN | with_reducible apply Grew.drew | with_reducible apply Grew.alloc | with_reducible refine Grew.setCell ?_ (by simp [go_sem]; try omega) _), join_some _ _ _ HNS.out⟩

set_option maxRecDepth 100000 in
set_option maxHeartbeats 1000000 in
theorem scriptTotal_walk (a : Option Addr) (l : List UInt8) (cap : Nat) (w : World) (ha : CellsIn w a (bv l)) (hcap : l.length ≤ cap) (hm : cap ≤ 9223372036854775807) (ht : Tab w) :
    Calls Tryd.prog 3 #[.slice a l.length cap] w fun e w' => e = .returned (.bool true) ∧ Grew w w' := by
  have hl2 : (l.take 2000).length ≤ 2000 := by simp; omega
  have hcap2 : (l.take 2000).length ≤ cap := by simp; omega
  have hin2 : CellsIn w a (bv (l.take 2000)) := by rw [bv_take]; exact ha.take 2000
  have CL := Lib.hid (clip_any a cap l w hcap hm)
  generalize l.take 2000 = r at *
  have HT := Lib.hid ht
  have RD := Lib.hid (read_any a cap r w hin2 hcap2 hm (by omega))
  have hx4 := read_len4 _ r (Nat.le_refl _)
  have HPL := Lib.hid (Scr.read_all_plain r)
  have hwl := Scr.write_read_len r
  have HWR := Lib.hid (Scr.read_write_read r)
  have hnil := Scr.read_nil_iff r
  have hz : ((Scr.readL r).length = 0 ∧ r.length = 0) ∨ (0 < (Scr.readL r).length ∧ 0 < r.length) := by
    by_cases h : r = []
    · left; rw [h]; exact ⟨rfl, rfl⟩
    · right; exact ⟨List.length_pos_iff.2 (fun e => h (hnil.1 e)), List.length_pos_iff.2 h⟩
  have HZ := Lib.hid hz
  clear hin2 ha ht hnil hz
  generalize Scr.readL r = xs at *
  go_enter Tryd.func3, Tryd.ntmps3
  go_wp2_with fail
  refine CL.out.mono ?_
  rintro e w' ⟨rfl, rfl⟩
  go_wp2_with fail
  refine RD.out.mono ?_
  rintro e w1 ⟨v, rfl, hg1, ho1⟩
  obtain ⟨xa, xc, rfl, hx1, hx2, _, _, _⟩ := ho1.rd
  have HO1 := Lib.hid ho1
  have HG1 := Lib.hid hg1
  clear ho1 hg1 RD CL
  go_wp2_with fail
  go_loopg [4] xs.length (fun g s4 wr => ∃ k : Nat, k ≤ xs.length ∧ s4 = .int .i64 k ∧ g = xs.length - k ∧ Grew w1 wr)
  case atStart => exact ⟨0, by omega, rfl, rfl, Grew.refl _⟩
  case round =>
    obtain ⟨k, hk, rfl, hgm, hg⟩ := hrel
    have HGM := Lib.hid hgm
    have HG := Lib.hid hg
    by_cases hlt : k < xs.length
    · obtain ⟨b, off, rfl, hb, hr⟩ := (HO1.out.grew hg).cin.rowAt _ 5 len_cells (by omega) (by omega)
      have hrow := hr k hlt
      have hpl := HPL.out xs[k] (List.getElem_mem hlt)
      clear hr hg hgm
      generalize xs[k] = s at *
      obtain ⟨sk, sa, sb, sc, st⟩ := s
      simp only [Scr.cells] at hrow
      have hts := plain_size hpl
      simp only at hts
      have hk0 := World.cellsAt_cell hrow 0 (by omega)
      simp only [Nat.add_zero, List.getElem?_cons_zero] at hk0
      have PC : Hid (∀ w, Calls Tryd.prog 6 #[.agg #[.int .i64 sk, .int .i64 sa, .int .i64 sb, .int .i64 sc, .string st]] w fun e w' => e = .returned (.bool true) ∧ Grew w w') := fun w => by rw [← hpl]; exact plain_any sk sa sb sc st w (by omega)
      have TC := Lib.hid (fun w' (hg : Grew w w') => text_any sk sa sb sc st w' hpl (HT.out.grew hg) (by omega))
      obtain ⟨q1, _⟩ := Scr.plain_parts hpl
      simp only at q1
      have hne := name_some sk q1
      have NC : Hid (∀ w, Calls Tryd.prog 8 #[.int .i64 sk] w fun e w' => e = .returned (.string (nameB sk)) ∧ Grew w w') := fun w => name_any sk (by omega) (by omega) w
      clear hpl q1
      generalize nameB sk = nb at *
      go_wp2_with (go_at_call 6; refine (PC.out _).mono ?_; rintro e w' ⟨rfl, gx, rfl⟩)
      refine (TC.out _ (HG1.out.trans (HG.out.plus gx))).mono ?_
      rintro e w' ⟨t, rfl, ⟨gy, rfl⟩, hte⟩
      go_wp2_with (go_at_call 8; refine (NC.out _).mono ?_; rintro e w' ⟨rfl, gz, rfl⟩)
      go_roundg (xs.length - (k + 1))
      case measure => rw [HGM.out]; omega
      case rel => exact ⟨k + 1, by omega, by go_num, rfl, by repeat (first | with_reducible exact HG.out | with_reducible exact Grew.refl _ | with_reducible assumption | with_reducible apply Grew.plus | with_reducible apply Grew.drewN | with_reducible apply Grew.drew | with_reducible apply Grew.alloc | with_reducible refine Grew.setCell ?_ (by simp [go_sem]; try omega) _)⟩
    · obtain rfl : k = xs.length := by omega
      go_wp2_with fail
      refine (write_any xa xc xs wr (HO1.out.grew hg).cin hx1 hx2 (by omega) (fun s hs => by have := plain_size (HPL.out s hs); omega)).mono ?_
      rintro e w3 ⟨v, rfl, hg3, ho3⟩
      obtain ⟨ba, bc, rfl, hb3, hb4, hbin, _, _⟩ := ho3.rd
      have HG3 := Lib.hid (hg.trans hg3)
      have RB := read_any ba bc (Scr.writeL xs) w3 hbin hb3 hb4 (by omega)
      rw [HWR.out] at RB
      have HRB := Lib.hid RB
      clear ho3 hg3 hbin RB hg hgm
      have HN : Hid (xs.length = xs.length) := rfl
      generalize hbl : (Scr.writeL xs).length = bl at *
      go_wp2_with fail
      refine HRB.out.mono ?_
      rintro e w4 ⟨v, rfl, hg4, ho4⟩
      obtain ⟨ra, rc, rfl, hr3, hr4, hrin, _, _⟩ := ho4.rd
      have HG4 := Lib.hid (HG3.out.trans hg4)
      have ST := Lib.hid (steps_eq ra xa rc xc xs w4 hrin (HO1.out.grew HG4.out).cin hr3 hx1 hr4 hx2)
      have HGW := Lib.hid (HG1.out.trans HG4.out)
      clear ho4 hg4 hrin hbl
      rcases HZ.out with ⟨h1, h2⟩ | ⟨h1, h2⟩
      · generalize xs.length = n at *
        generalize r.length = m at *
        subst h1 h2
        go_wp2_with fail
        refine ST.out.mono ?_
        rintro e w' ⟨rfl, gx, rfl⟩
        go_wp2_with (go_at_call 11; refine (wakes18 _).mono ?_; rintro e w' ⟨rfl, gy, rfl⟩)
        go_ret
        exact ⟨rfl, (HGW.out.plus gx).plus gy⟩
      · generalize xs.length = n at *
        generalize r.length = m at *
        have e1 : ((n : Int) == 0) = false := by rw [beq_eq_false_iff_ne]; omega
        have e2 : ((m : Int) == 0) = false := by rw [beq_eq_false_iff_ne]; omega
        go_wp2_with fail
        refine ST.out.mono ?_
        rintro e w' ⟨rfl, gx, rfl⟩
        go_wp2_with (go_at_call 11; refine (wakes18 _).mono ?_; rintro e w' ⟨rfl, gy, rfl⟩)
        go_ret
        exact ⟨rfl, (HGW.out.plus gx).plus gy⟩
end Go.Proofs.YtkdjejokhbdokaaDoor
