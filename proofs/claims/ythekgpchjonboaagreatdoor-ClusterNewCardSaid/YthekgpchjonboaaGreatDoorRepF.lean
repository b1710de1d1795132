/- Walk: a new replica tells what the document's tells. -/
import Derived.Test.YthekgpchjonboaaGreatDoorRepE
namespace Go.Proofs.YthekgpchjonboaaGreatDoor
open Go.RowKit
set_option linter.unusedSimpArgs false
set_option linter.unusedVariables false
theorem sameg {P : Program} {f : FuncId} {a : Array Value} {v : Value} {w : World} (h : Calls P f a w fun e w' => e = .returned v ∧ w = w') : Calls P f a w fun e w' => e = .returned v ∧ Grew w w' :=
  h.mono fun e w' ⟨h1, h2⟩ => ⟨h1, by rw [← h2]; exact Grew.refl w⟩
def clock0 : Value := .agg zClock.cells
def clockL : List Value := [.int .i64 0, .int .i64 0, .int .i64 0, .int .i64 0, .int .i64 0, .int .i64 0, .int .i64 0, .int .i64 0]
def roundsL : List Value := noRounds.toList
theorem clock_guard (W : World) : (eqGuard .neq 86 (.tmp 42) (.tmp 49) clock0 (.agg clockL.toArray)).run Tryz.prog W = .ok () W := Ab.prun_run (by kernel_rfl) W
theorem clock_neq (W : World) : (binOp .neq 86 clock0 (.agg clockL.toArray)).run Tryz.prog W = .ok (.bool false) W := Ab.prun_run (by kernel_rfl) W
theorem rounds_guard (W : World) : (eqGuard .neq tRounds (.tmp 73) (.tmp 80) rounds0 (.agg roundsL.toArray)).run Tryz.prog W = .ok () W := Ab.prun_run (by kernel_rfl) W
theorem rounds_neq (W : World) : (binOp .neq tRounds rounds0 (.agg roundsL.toArray)).run Tryz.prog W = .ok (.bool false) W := Ab.prun_run (by kernel_rfl) W
theorem load_desk {W : World} {D : Nat} {n s : Value} (hD : W.heap[D]? = some (.cells (#[n, s] ++ noRounds) tRDesk (0, 0))) : (loadRows tRounds (.pointer (some ⟨D, 2, none⟩))).run Tryz.prog W = .ok (.agg roundsL.toArray) W := by
  have h := run_loadAt_rows (P := Tryz.prog) tRounds ⟨D, 2, none⟩ W
  rw [h]
  have hc : W.cellsAt ⟨D, 2, none⟩ 144 = some roundsL := by
    have := World.cellsAt_sub (World.cellsAt_block hD 146 (by kernel_rfl)) 2 144 (by decide)
    refine this.trans ?_
    kernel_rfl
  have h1 : (isAgg tRounds).run Tryz.prog W = .ok true W := Ab.prun_run (by kernel_rfl) W
  have h2 : (sizeOf tRounds).run Tryz.prog W = .ok 144 W := Ab.prun_run (by kernel_rfl) W
  rw [h1]
  simp only [Result.andThen_ok, if_true, h2, hc]
theorem quiet_load_rounds {o : Oper} {a : Act} {C : World → Prop} {K : Act → Prop} {D : Nat} {L : List Value} (x : Operand) (ho : o.op = .load tRounds x) (hx : a.eval x = .pointer (some ⟨D, 2, none⟩)) (hl : ∀ W, C W → (loadRows tRounds (.pointer (some ⟨D, 2, none⟩))).run Tryz.prog W = .ok (.agg L.toArray) W)
    (hk : K (a.put o.dst (.agg L.toArray))) : o.quiet Tryz.prog a C K :=
  ⟨.agg L.toArray, fun W hW => by
    have hl := hl W hW
    unfold loadRows at hl
    have : (execOp a.eval o).run Tryz.prog W = .ok (.value (.agg L.toArray)) W := by
      simp only [execOp, ho, hx, Sem.run_bind, hl, Result.andThen_ok]
      rfl
    unfold Oper.quietAt
    rw [this]
    exact ⟨rfl, rfl⟩, hk⟩
theorem quiet_neq {o : Oper} {a : Act} {C : World → Prop} {K : Act → Prop} {t ty : TypeId} {v u : Value} (x y : Operand) (ho : o.op = .binOp .neq t x y ty) (hx : a.eval x = v) (hy : a.eval y = u) (hg : ∀ W, (eqGuard .neq t x y v u).run Tryz.prog W = .ok () W) (hb : ∀ W, (binOp .neq t v u).run Tryz.prog W = .ok (.bool false) W)
    (hk : K (a.put o.dst (.bool false))) : o.quiet Tryz.prog a C K :=
  ⟨.bool false, fun W hW => by
    have : (execOp a.eval o).run Tryz.prog W = .ok (.value (.bool false)) W := by
      simp only [execOp, ho, hx, hy, Sem.run_bind, hg, hb, Result.andThen_ok]
      rfl
    unfold Oper.quietAt
    rw [this]
    exact ⟨rfl, rfl⟩, hk⟩
section
variable {w : World} {R L M T Bi Bb I D S Bh Q G I' D' S' V A B : Nat} {c0 c1 c2 c3 s : Int}
end
end Go.Proofs.YthekgpchjonboaaGreatDoor
