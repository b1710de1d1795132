/- Walks: what new clusters tell: how many, which, the bag, what is to come, whether all is even. -/
import Derived.Test.YthekgpchjonboaaGreatDoorCluD
namespace Go
open Go.RowKit
section
variable {P : Program} {ops : Array Oper} {rest : List Oper} {o : Oper} {a : Act} {w : World} {Q : Exit → Act → World → Prop}
/-- The range over a map with nothing in it. -/
theorem wpList_range0 (hgd : o.guard = none) {t k e : TypeId} {x : Operand} (ho : o.op = .range t x) (ht : P.underlying t = some (.map k e)) {bm c : Nat} (hx : a.eval x = .map (some bm)) (hb : w.heap[bm]? = some (.map #[] c))
    (h : wpList P ops Q rest (a.put o.dst (.pointer (some ⟨w.heap.size, 0, none⟩))) (w.alloc (.mapIter (some bm) c #[] c))) : wpList P ops Q (o :: rest) a w := by
  refine wpList_plain hgd fun _ hK => ?_
  unfold Oper.wp execOp
  simp only [ho, hx, Sem.run_bind, run_range_map w t k e bm #[] c ht hb, Result.andThen_ok]
  exact hK _ _ h
theorem wpList_next0 (hgd : o.guard = none) {x : Operand} (ho : o.op = .next x false) {r bm c c' : Nat} (hx : a.eval x = .pointer (some ⟨r, 0, none⟩)) (hr : w.heap[r]? = some (.mapIter (some bm) c #[] c)) (hb : w.heap[bm]? = some (.map #[] c'))
    (h : wpList P ops Q rest (a.put o.dst (.tuple #[.bool false])) w) : wpList P ops Q (o :: rest) a w := by
  have hn : (Instr.next (.pointer (some ⟨r, 0, none⟩)) false o.type).run P w = .ok (.tuple #[.bool false]) w := by
    simp [Instr.next, getObj, Sem.run_bind, Sem.run, hr, hb, Result.andThen, choose, Question.forced]
  refine wpList_plain hgd fun _ hK => ?_
  unfold Oper.wp execOp
  simp only [ho, hx, Sem.run_bind, hn, Result.andThen_ok]
  exact hK _ _ h
end
end Go
namespace Go.Proofs.YthekgpchjonboaaGreatDoor
open Go.RowKit
set_option linter.unusedSimpArgs false
set_option linter.unusedVariables false
abbrev tLoad : TypeId := 46
def load0 : Value := .agg #[.int .i64 0, .int .i64 0]
section
variable {w : World} {C B m cap : Nat} {a : Option Addr} {rs : List Nat} {c0 c1 c2 c3 : Int}
theorem clu_replicas (h : ECl w C B m a cap rs c0 c1 c2 c3) : Calls Tryz.prog 29 #[ptr C] w fun e w' => e = .returned (.int .i64 rs.length) ∧ w = w' := by
  have q0 : w.cell? ⟨C, 0, none⟩ = some (.slice a rs.length cap) := (World.own_cell h.c 0 _ rfl).1
  go_enter Tryz.func29, Tryz.ntmps29
  go_wp2
  go_ret
  exact ⟨rfl, rfl⟩
theorem clu_bag (h : ECl w C B m a cap rs c0 c1 c2 c3) : Calls Tryz.prog 10 #[ptr C] w fun e w' => e = .returned (ptr B) ∧ w = w' := by
  have q1 : w.cell? ⟨C, 1, none⟩ = some (ptr B) := (World.own_cell h.c 1 _ rfl).1
  go_enter Tryz.func10, Tryz.ntmps10
  go_wp2
  go_ret
  exact ⟨rfl, rfl⟩
theorem bag_len (h : ECl w C B m a cap rs c0 c1 c2 c3) : Calls Tryz.prog 11 #[ptr B] w fun e w' => e = .returned (.int .i64 0) ∧ w = w' := by
  have q1 : w.cell? ⟨B, 2, none⟩ = some nilS := (World.own_cell h.b 2 _ rfl).1
  go_enter Tryz.func11, Tryz.ntmps11
  go_wp2
  go_ret
  exact ⟨rfl, rfl⟩
theorem clu_replica_in (h : ECl w C B m a cap rs c0 c1 c2 c3) (i R : Nat) (hi : rs[i]? = some R) : Calls Tryz.prog 26 #[ptr C, .int .i64 i] w fun e w' => e = .returned (ptr R) ∧ Grew w w' := by
  have q0 : w.cell? ⟨C, 0, none⟩ = some (.slice a rs.length cap) := (World.own_cell h.c 0 _ rfl).1
  have hl : i < rs.length := (List.getElem?_eq_some_iff.1 hi).1
  obtain ⟨b, off, rfl, hb, hc⟩ := ptrs_at h.row (by omega)
  have q1 := hc i R hi
  have hC := World.block_lt_of_cell? w _ q0
  have hcp := h.cap
  clear hc h
  go_enter Tryz.func26, Tryz.ntmps26
  go_wp2
  go_ret
  exact ⟨rfl, by repeat (first | with_reducible exact HG.out | with_reducible exact Grew.refl _ | with_reducible assumption | with_reducible apply Grew.plus | with_reducible apply Grew.drewN | with_reducible apply Grew.drew | with_reducible apply Grew.alloc | with_reducible refine Grew.setCell ?_ (by simp [go_sem]; try omega) _)⟩
theorem clu_replica_out (h : ECl w C B m a cap rs c0 c1 c2 c3) (i : Int) (hi : i < 0 ∨ (rs.length : Int) ≤ i) : Calls Tryz.prog 26 #[ptr C, .int .i64 i] w fun e w' => e = .returned (.pointer none) ∧ Grew w w' := by
  have q0 : w.cell? ⟨C, 0, none⟩ = some (.slice a rs.length cap) := (World.own_cell h.c 0 _ rfl).1
  have hC := World.block_lt_of_cell? w _ q0
  clear h
  by_cases h0 : i < 0
  · go_enter Tryz.func26, Tryz.ntmps26
    go_wp2
    go_ret
    exact ⟨rfl, by repeat (first | with_reducible exact HG.out | with_reducible exact Grew.refl _ | with_reducible assumption | with_reducible apply Grew.plus | with_reducible apply Grew.drewN | with_reducible apply Grew.drew | with_reducible apply Grew.alloc | with_reducible refine Grew.setCell ?_ (by simp [go_sem]; try omega) _)⟩
  · have h1 : (rs.length : Int) ≤ i := by omega
    go_enter Tryz.func26, Tryz.ntmps26
    go_wp2
    go_ret
    exact ⟨rfl, by repeat (first | with_reducible exact HG.out | with_reducible exact Grew.refl _ | with_reducible assumption | with_reducible apply Grew.plus | with_reducible apply Grew.drewN | with_reducible apply Grew.drew | with_reducible apply Grew.alloc | with_reducible refine Grew.setCell ?_ (by simp [go_sem]; try omega) _)⟩
set_option maxRecDepth 100000 in
set_option maxHeartbeats 1000000 in
theorem clu_load (h : ECl w C B m a cap rs c0 c1 c2 c3) (h0 : 0 < rs.length) : Calls Tryz.prog 12 #[ptr C] w fun e w' => e = .returned load0 ∧ Grew w w' := by
  have q0 : w.cell? ⟨C, 0, none⟩ = some (.slice a rs.length cap) := (World.own_cell h.c 0 _ rfl).1
  have hC := World.block_lt_of_cell? w _ q0
  have hcp := h.cap
  have H := Lib.hid h
  clear h
  go_enter Tryz.func12, Tryz.ntmps12
  go_wp2_with fail
  go_loopw [16] (fun i wr => ∃ k : Nat, k ≤ rs.length ∧ i = .int .i64 k ∧ Grew w wr ∧ wr.heap[w.heap.size]? = some (.cells #[.int .i64 0, .int .i64 0] tLoad (0, 0))) (fun i _ => rs.length - (intOf i).toNat)
  case atStart => exact ⟨0, by omega, rfl, by repeat (first | with_reducible exact HG.out | with_reducible exact Grew.refl _ | with_reducible assumption | with_reducible apply Grew.plus | with_reducible apply Grew.drewN | with_reducible apply Grew.drew | with_reducible apply Grew.alloc | with_reducible refine Grew.setCell ?_ (by simp [go_sem]; try omega) _), heap_alloc_at _ _ _ rfl⟩
  case round =>
    obtain ⟨k, hk, rfl, hg, hb⟩ := hrel
    have h2 := H.out.grew hg
    have HG := Lib.hid hg
    have HB := Lib.hid hb
    by_cases hlt : k < rs.length
    · obtain ⟨b, off, rfl, hbl, hc⟩ := ptrs_at h2.row h0
      have q1 := hc k _ (List.getElem?_eq_getElem hlt)
      have q3 : wr.cell? ⟨C, 3, none⟩ = some (.map (some m)) := (World.own_cell h2.c 3 _ rfl).1
      have q2 : wr.cell? ⟨C, 2, none⟩ = some nilS := (World.own_cell h2.c 2 _ rfl).1
      have hC2 := World.block_lt_of_cell? wr _ q3
      have HM := Lib.hid h2.m
      clear hg hb h2 hc
      go_wp2_with (refine wpList_range0 (by rfl) (x := .tmp 24) (by rfl) Tryz.underlying49 (by rfl) HM.out ?_)
      refine wp_loop_rounds 1 ?_
      rw [rounds_succ]
      go_wp2_with (refine wpList_next0 (by rfl) (x := .tmp 25) (by rfl) (by rfl) (heap_alloc_at _ _ _ rfl) (Grew.heap ((Grew.refl _).alloc _) HM.out) ?_)
      refine wp_loop_rounds 1 ?_
      rw [rounds_succ]
      go_wp2_with fail
      go_roundw
      case rel => exact ⟨k + 1, by omega, by go_num, HG.out.alloc _, Grew.heap ((Grew.refl _).alloc _) HB.out⟩
      case measure => simp [intOf]; omega
    · have l0 := World.cellsAt_block hb 2 rfl
      obtain ⟨n0, m0⟩ := World.own_cell hb 0 _ rfl
      obtain ⟨n1, m1⟩ := World.own_cell hb 1 _ rfl
      simp only [List.getElem_toArray, List.getElem_cons_zero, List.getElem_cons_succ] at n0 n1
      have hsz := (Array.getElem?_eq_some_iff.1 hb).1
      clear hb
      go_wp2_with fail
      rw [setCell_id n0, setCell_id n1]
      exact bodyPost_ret (v := load0) (by simp [results, Tryz.results12, go_sem, n0, n1, load0]) rfl ⟨rfl, HG.out⟩
end
end Go.Proofs.YthekgpchjonboaaGreatDoor
