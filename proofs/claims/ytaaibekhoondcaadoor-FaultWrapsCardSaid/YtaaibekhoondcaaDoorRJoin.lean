/- Walk: the document's Join. -/
import Derived.Test.YtaaibekhoondcaaDoorJoin
namespace Go.Proofs.YtaaibekhoondcaaDoor
open Go.RowKit
set_option linter.unusedSimpArgs false
set_option linter.unusedVariables false

theorem flat_length_mem {α : Type} (f : α → List Value) (n : Nat) : ∀ xs : List α, (∀ x ∈ xs, (f x).length = n) → (xs.flatMap f).length = xs.length * n
  | [], _ => by simp
  | x :: xs, hf => by rw [List.flatMap_cons, List.length_append, hf x (by simp), flat_length_mem f n xs (fun y hy => hf y (by simp [hy])), List.length_cons, Nat.add_mul]; omega
theorem flat_row_mem {α : Type} (f : α → List Value) (n : Nat) : ∀ (xs : List α) (i : Nat) (h : i < xs.length), (∀ x ∈ xs, (f x).length = n) → ((xs.flatMap f).drop (i * n)).take n = f (xs[i]'h)
  | x :: xs, 0, _, hf => by
    rw [Nat.zero_mul, List.drop_zero, List.flatMap_cons]
    have := List.take_left (l₁ := f x) (l₂ := xs.flatMap f)
    rwa [hf x (by simp)] at this
  | x :: xs, i + 1, h, hf => by
    have h1 : (xs.flatMap f).drop (i * n) = ((x :: xs).flatMap f).drop ((i + 1) * n) := by
      rw [List.flatMap_cons, Nat.add_mul, Nat.one_mul, Nat.add_comm, ← hf x (by simp), ← List.drop_drop, List.drop_left]
    rw [← h1]
    exact flat_row_mem f n xs i (by simpa using h) (fun y hy => hf y (by simp [hy]))
theorem elRErr : Elem Tryd.prog 64 66 6 80 := Elem.of Tryd.underlying64 (by kernel_rfl) (by decide)
/-- Rows of errors in memory. -/
def RRows (w : World) (a : Option Addr) (zs : List (Err × List Value)) : Prop := ∀ (j : Nat) (z : Err × List Value), zs[j]? = some z → ∃ bl off, a = some ⟨bl, off, none⟩ ∧ w.cellsAt ⟨bl, off + j * 6, none⟩ 6 = some z.2
theorem RRows.of_cells {w : World} {a : Option Addr} {zs : List (Err × List Value)} (h : CellsIn w a (zs.flatMap (·.2))) (hl : ∀ z ∈ zs, z.2.length = 6) : RRows w a zs := fun j z hz => by
  have hj : j < zs.length := (List.getElem?_eq_some_iff.1 hz).1
  have hlen := flat_length_mem (fun z : Err × List Value => z.2) 6 zs hl
  obtain ⟨b, off, ha, hb, hr⟩ := h.row (by rw [hlen]; omega)
  refine ⟨b, off, ha, ?_⟩
  rw [hr (j * 6) 6 (by rw [hlen]; omega), flat_row_mem (fun z : Err × List Value => z.2) 6 zs j hj hl]
  rw [List.getElem?_eq_getElem hj] at hz
  rw [Option.some.inj hz]

set_option maxRecDepth 100000 in
set_option maxHeartbeats 4000000 in
/-- The document's Join. -/
theorem rjoin_errs {U : Nat → Prop} (zs : List (Err × List Value)) (a : Option Addr) (cap : Nat) (w : World) (hin : RRows w a zs) (hl : zs.length ≤ 1000) (hc : zs.length ≤ cap) (hm : cap ≤ 9223372036854775807) (hz : ∀ z ∈ zs, RIn w U z.1 z.2) :
    Calls Tryd.prog 90 #[.slice a zs.length cap] w fun x w' => ∃ rc : Array Value, x = .returned (.agg rc) ∧ RIn w' (fun q => U q ∨ w.heap.size ≤ q) (joinE (zs.map (·.1))) rc.toList ∧ Grew w w' := by
  have HIN := Lib.hid hin
  have HZ := Lib.hid hz
  clear hin hz
  have hrl : ∀ z ∈ zs, z.2.length = 6 := fun z hz => (HZ.out z hz).len
  have HRL := Lib.hid hrl
  clear hrl
  go_enter Tryd.func90, Tryd.ntmps90
  go_wp2_with fail
  go_loopw [3, 4] (fun s3 s4 wr => ∃ (k : Nat) (va : Option Addr) (vc : Nat) (ys : List (Err × List Value)) (m : Nat), k ≤ zs.length ∧ s4 = .int .i64 k ∧ s3 = .slice va m vc ∧ ys = (zs.take k).filter some1 ∧ m = ys.length ∧ wr.ownsRow (w.heap.size + 1) 66 6 (.slice va m vc) m (ys.flatMap (·.2)) ∧ wr.heap[w.heap.size]? = some (.cells #[.int .i64 0, .int .i64 0, .string ⟨#[]⟩, .string ⟨#[]⟩, .int .i64 0, .slice none 0 0] 66 (0, 0)) ∧ Grew w wr) (fun _ i _ => zs.length - (intOf i).toNat)
  case atStart => exact ⟨0, none, 0, [], 0, by omega, rfl, rfl, rfl, rfl, World.ownsRow_nil _ _ _ _, heap_alloc_at _ _ _ rfl, by repeat (first | with_reducible exact HG.out | with_reducible exact Grew.refl _ | with_reducible assumption | with_reducible apply Grew.plus | with_reducible apply Grew.drewN | with_reducible apply Grew.drew | with_reducible apply Grew.alloc | with_reducible refine Grew.setCell ?_ (by simp [go_sem]; try omega) _)⟩
  case round =>
    obtain ⟨k, va, vc, ys, m, hk, rfl, rfl, hys, hmy, hown, hbk, hg⟩ := hrel
    have HG := Lib.hid hg
    have HO := Lib.hid hown
    have HB := Lib.hid hbk
    have hsz0 := (Array.getElem?_eq_some_iff.1 hbk).1
    have hml : m ≤ 1000 := by
      rw [hmy, hys]
      have h1 := some_len (zs.take k)
      have h2 : (zs.take k).length ≤ zs.length := by rw [List.length_take]; omega
      omega
    clear hg hown hbk
    by_cases hlt : k < zs.length
    · have hst := some_take zs k hlt
      rw [← hys] at hst
      have HY := Lib.hid hst
      have HYS := Lib.hid hys
      have HMY := Lib.hid hmy
      obtain ⟨bl, off, rfl, hcc⟩ := HIN.out k zs[k] (List.getElem?_eq_getElem hlt)
      have hck := cellsAt_grew HG.out hcc
      have hze := HZ.out zs[k] (List.getElem_mem hlt)
      clear hst hys hmy hcc
      generalize zs[k] = z at *
      obtain ⟨e, r⟩ := z
      simp only at hck hze
      obtain ⟨q0, q1, q2, q3, q4, qa, qn, qc, hr, hkd⟩ := hze.kind
      have HH := Lib.hid hze
      clear hze
      subst hr
      have hc0 := World.cellsAt_cell hck 0 (by omega)
      simp only [Nat.add_zero, List.getElem?_cons_zero] at hc0
      rcases hkd with ⟨rfl, hn⟩ | ⟨hk0, hk1, hk2, hn⟩
      · have hs1 : some1 ((e, [.int .i64 0, .int .i64 q1, .string q3, .string q4, .int .i64 q2, .slice qa qn qc]) : Err × List Value) = false := by simp [some1, hn]
        rw [hs1] at HY
        go_wp2_with fail
        go_roundw
        case rel => exact ⟨k + 1, va, vc, ys, m, by omega, by go_num, rfl, by have := HY.out; simpa using this.symm, HMY.out, HO.out, HB.out, by repeat (first | with_reducible exact HG.out | with_reducible exact Grew.refl _ | with_reducible assumption | with_reducible apply Grew.plus | with_reducible apply Grew.drewN | with_reducible apply Grew.drew | with_reducible apply Grew.alloc | with_reducible refine Grew.setCell ?_ (by simp [go_sem]; try omega) _)⟩
        case measure => simp [intOf]; omega
      · have hs1 : some1 ((e, [.int .i64 q0, .int .i64 q1, .string q3, .string q4, .int .i64 q2, .slice qa qn qc]) : Err × List Value) = true := by simp [some1, hn]
        rw [hs1] at HY
        go_wp2_with (at_builtin; go_loud (refine wpList_app (by rfl) _ _ 64 (by rfl) elRErr (w.heap.size + 1) _ m (ys.flatMap (·.2)) (by rfl) (HO.out.alloc _) _ 1 1 #[.int .i64 q0, .int .i64 q1, .string q3, .string q4, .int .i64 q2, .slice qa qn qc] 66 (by rfl) (heap_alloc_at _ _ _ (by simp [go_sem])) (by rfl) (by intro u' hu; simp at hu; rcases hu with rfl | rfl | rfl | rfl | rfl | rfl <;> rfl) (by omega) (by omega) (by unfold maxLen; omega) w (HG.out.alloc _) (Nat.le_succ _) (by simp; omega) ?_); intro g cap1 w1 hg1 hown1 hkeep hsz1 hat; have HO1 := Lib.hid hown1; have HG1 := Lib.hid hg1; go_loud (have HB1 := Lib.hid (World.kept_block hkeep (keep_a HB.out) (own_ne' HO.out w.heap.size (Nat.lt_succ_self _)))); clear hown1 hg1 hkeep hat)
        go_roundw
        case rel => exact ⟨k + 1, _, _, ys ++ [(e, [.int .i64 q0, .int .i64 q1, .string q3, .string q4, .int .i64 q2, .slice qa qn qc])], m + 1, by omega, by go_num, rfl, by have := HY.out; simpa using this.symm, by rw [HMY.out]; simp, by rw [List.flatMap_append]; simpa using HO1.out, HB1.out, HG1.out⟩
        case measure => simp [intOf]; omega
    · obtain rfl : k = zs.length := by omega
      rw [List.take_length] at hys
      have hsub : ∀ z ∈ ys, z ∈ zs := fun z hz => some_sub (by rw [← hys]; exact hz)
      have HSUB := Lib.hid hsub
      clear hsub
      obtain ⟨⟨p0, r0⟩, ⟨p1, r1⟩, ⟨p2, r2⟩, ⟨p3, r3⟩, ⟨p4, r4⟩, ⟨p5, r5⟩⟩ := six HB.out
      have hrs : RRows wr va ys := RRows.of_cells HO.out.cin (fun z hz => HRL.out z (HSUB.out z hz))
      have HRS := Lib.hid hrs
      rcases ys with _ | ⟨z, _ | ⟨z', l⟩⟩
      · have hj := join_none (β := List Value) hys.symm
        have HJ := Lib.hid hj
        obtain rfl : m = 0 := hmy
        clear hys hj hrs
        go_wp2_with fail
        obtain ⟨e6, o6, s6, g6⟩ := set6 HB.out (Nat.le_refl _) HG.out (.int .i64 0) (.int .i64 0) (.string ⟨#[]⟩) (.string ⟨#[]⟩) (.int .i64 0) (.slice none 0 0) _ rfl
        generalize (((((wr.setCell ⟨w.heap.size, 0, none⟩ (.int .i64 0)).setCell ⟨w.heap.size, 1, none⟩ (.int .i64 0)).setCell ⟨w.heap.size, 2, none⟩ (.string ⟨#[]⟩)).setCell ⟨w.heap.size, 3, none⟩ (.string ⟨#[]⟩)).setCell ⟨w.heap.size, 4, none⟩ (.int .i64 0)).setCell ⟨w.heap.size, 5, none⟩ (.slice none 0 0) = w5 at *
        obtain ⟨⟨y0, _⟩, ⟨y1, _⟩, ⟨y2, _⟩, ⟨y3, _⟩, ⟨y4, _⟩, ⟨y5, _⟩⟩ := six e6
        exact bodyPost_ret (v := .agg #[.int .i64 0, .int .i64 0, .string ⟨#[]⟩, .string ⟨#[]⟩, .int .i64 0, .slice none 0 0]) (by simp [results, Tryd.results90, go_sem, y0, y1, y2, y3, y4, y5]) rfl ⟨_, rfl, by rw [HJ.out]; exact RIn.nothing _ _, g6⟩
      · have hj := join_one (β := List Value) hys.symm
        have HJ := Lib.hid hj
        obtain rfl : m = 1 := hmy
        obtain ⟨bl, off, rfl, hcc⟩ := hrs 0 z rfl
        have hze := (HZ.out z (HSUB.out z (by simp)))
        obtain ⟨e, r⟩ := z
        obtain ⟨c0, c1, c2, c3, c4, ca, cn, cc, hr, hkd⟩ := hze.kind
        have HH := Lib.hid hze
        simp only at hr hcc
        subst hr
        simp only [Nat.zero_mul, Nat.add_zero] at hcc
        clear hys hj hrs hze hkd
        go_wp2_with fail
        obtain ⟨e6, o6, s6, g6⟩ := set6 HB.out (Nat.le_refl _) HG.out (.int .i64 c0) (.int .i64 c1) (.string c3) (.string c4) (.int .i64 c2) (.slice ca cn cc) _ rfl
        generalize (((((wr.setCell ⟨w.heap.size, 0, none⟩ (.int .i64 c0)).setCell ⟨w.heap.size, 1, none⟩ (.int .i64 c1)).setCell ⟨w.heap.size, 2, none⟩ (.string c3)).setCell ⟨w.heap.size, 3, none⟩ (.string c4)).setCell ⟨w.heap.size, 4, none⟩ (.int .i64 c2)).setCell ⟨w.heap.size, 5, none⟩ (.slice ca cn cc) = w5 at *
        obtain ⟨⟨y0, _⟩, ⟨y1, _⟩, ⟨y2, _⟩, ⟨y3, _⟩, ⟨y4, _⟩, ⟨y5, _⟩⟩ := six e6
        exact bodyPost_ret (v := .agg #[.int .i64 c0, .int .i64 c1, .string c3, .string c4, .int .i64 c2, .slice ca cn cc]) (by simp [results, Tryd.results90, go_sem, y0, y1, y2, y3, y4, y5]) rfl ⟨_, rfl, by rw [HJ.out]; exact HH.out.keep (fun q hq hl => ⟨.inl hq, by rw [o6 q (by omega), HG.out.block q hl]⟩), g6⟩
      · have hj := join_many (β := List Value) hys.symm
        have HJ := Lib.hid hj
        have hm2 : 2 ≤ m := by rw [hmy]; simp
        have HMY := Lib.hid hmy
        clear hys hj hmy hrs
        generalize hzz : z :: z' :: l = ys2 at *
        go_wp2_with fail
        obtain ⟨xa, xc, hxe, hx1, hx2, hin, hbl, hno⟩ := HO.out.rd
        cases hxe
        obtain ⟨e6, o6, s6, g6⟩ := set6 HB.out (Nat.le_refl _) HG.out (.int .i64 3) (.int .i64 0) (.string ⟨#[]⟩) (.string ⟨#[]⟩) (.int .i64 0) (.slice va m vc) _ rfl
        generalize (((((wr.setCell ⟨w.heap.size, 0, none⟩ (.int .i64 3)).setCell ⟨w.heap.size, 1, none⟩ (.int .i64 0)).setCell ⟨w.heap.size, 2, none⟩ (.string ⟨#[]⟩)).setCell ⟨w.heap.size, 3, none⟩ (.string ⟨#[]⟩)).setCell ⟨w.heap.size, 4, none⟩ (.int .i64 0)).setCell ⟨w.heap.size, 5, none⟩ (.slice va m vc) = w5 at *
        obtain ⟨⟨y0, _⟩, ⟨y1, _⟩, ⟨y2, _⟩, ⟨y3, _⟩, ⟨y4, _⟩, ⟨y5, _⟩⟩ := six e6
        refine bodyPost_ret (v := .agg #[.int .i64 3, .int .i64 0, .string ⟨#[]⟩, .string ⟨#[]⟩, .int .i64 0, .slice va m vc]) (by simp [results, Tryd.results90, go_sem, y0, y1, y2, y3, y4, y5]) rfl ⟨_, rfl, ?_, g6⟩
        rw [HJ.out]
        have hml2 : (ys2.map (·.2)).length = m := by rw [List.length_map]; exact HMY.out.symm
        rw [← hml2]
        refine RIn.mk (rows := ys2.map (·.2)) (.many (ys2.map (·.1))) (by simp [kidsOf]) (by rw [hml2]; exact hx1) hx2 (fun h => by rw [hml2]; exact hno h) (fun j r hr => ?_) (fun j t r ht hr => ?_)
        · rw [List.getElem?_map, Option.map_eq_some_iff] at hr
          obtain ⟨z2, hz2, rfl⟩ := hr
          obtain ⟨bl, off, rfl, hcc⟩ := HRS.out j z2 hz2
          have hb2 := hbl _ rfl
          refine ⟨bl, off, rfl, .inr (by have := hb2.1; simp only at this; omega), ?_⟩
          rw [World.cellsAt_congr (w := wr) _ _ (fun o s => World.cell?_of_block (w := wr) (o6 bl (by have := hb2.1; simp only at this; omega)))]
          exact hcc
        · simp only [kidsOf] at ht
          rw [List.getElem?_map, Option.map_eq_some_iff] at ht hr
          obtain ⟨z2, hz2, rfl⟩ := ht
          obtain ⟨z3, hz3, rfl⟩ := hr
          rw [hz2] at hz3; cases hz3
          exact (HZ.out z2 (HSUB.out z2 (List.mem_of_getElem? hz2))).keep (fun q hq hl => ⟨.inl hq, by rw [o6 q (by omega), HG.out.block q hl]⟩)
end Go.Proofs.YtaaibekhoondcaaDoor
