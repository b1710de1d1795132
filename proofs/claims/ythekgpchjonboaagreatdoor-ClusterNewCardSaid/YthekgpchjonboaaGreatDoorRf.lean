/- A range over a function whose iterator calls no round, in a plain walk: the statement's rule, and a function's contract where such a statement leaves its mark among the deferred calls. No program in sight. -/
import Derived.Test.YthekgpchjonboaaGreatDoorSl
import Derived.RangeFuncIn
import Derived.RangeFuncLeaves
import Derived.RangeFuncRecord
import Derived.Conc.MuLone
namespace Go
open Go.RowKit
set_option linter.unusedSimpArgs false
set_option linter.unusedVariables false

/-- A field of a struct that is a value. -/
@[go_sem] theorem run_field_agg {P : Program} (t : TypeId) (cs : Array Value) (i : Nat) (w : World) (h : P.underlying t = some (.struct (P.fieldsOf t))) :
    (Instr.field t (.agg cs) i).run P w = match (P.fieldsOf t)[i]? with
      | some f => (part f.type cs f.offset).run P w
      | none => .halt (.stuck "Field: no such field") w := by
  simp only [Instr.field, Sem.run_bind, run_underlying h, Result.andThen_ok]
  cases (P.fieldsOf t)[i]? with
  | none => rfl
  | some f => simp [asAgg]

/-- What the body of a function that holds one outermost range over a function must come to. -/
def bodyPostK (P : Program) (fn : Func) (R : Ending → World → Prop) : Exit → Act → World → Prop
  | .normal, a, w | .ret, a, w => ∃ r w', a.defers = [{ target := .collected r, args := #[] }] ∧ (Instr.takeDeferred r).run P w = .ok [] w' ∧ ∃ v, (results fn a.tmps).run P w' = .ok v w' ∧ R (.returned v) w'
  | .outgrown, _, w => R .outgrown w
  | _, _, _ => False

theorem calls_of_wp_mark {P : Program} {f : FuncId} {fn : Func} {c : Code} {args : Array Value} {w : World} {R : Ending → World → Prop}
    (hf : P.funcs[f]? = some fn) (hb : fn.body = some c)
    (h : c.wp P (bodyPostK P fn R) { tmps := args ++ Array.replicate (fn.ntmps - args.size) undef, defers := [] } w) :
    Calls P f args w R := by
  intro cs
  let b : Frame := { (default : Frame) with fn := f, kind := .normal }
  have henter : Frame.enter P f args .normal =
      b.at { tmps := args ++ Array.replicate (fn.ntmps - args.size) undef, defers := [] } [.code c] := by
    simp [Frame.enter, Frame.at, hf, hb, b]
  obtain ⟨e, a', w', hq, harr⟩ := h b [] cs
  rw [← henter] at harr
  have fin : ∀ todo, Steps P (lone (Frame.enter P f args .normal) cs w) (lone { b.at a' todo with mode := .returning } cs w') →
      (∃ r w'', a'.defers = [{ target := .collected r, args := #[] }] ∧ (Instr.takeDeferred r).run P w' = .ok [] w'' ∧ ∃ v, (results fn a'.tmps).run P w'' = .ok v w'' ∧ R (.returned v) w'') →
      ∃ e w'' fr, R e w'' ∧ Comes P (lone (Frame.enter P f args .normal) cs w) (lone fr cs w'') e ∧ fr.fn = f ∧ fr.leaving P w'' e := by
    rintro todo hs ⟨r, w'', hd, hk, v, hr, hR⟩
    have h1 := step_collected (P := P) (fr := { b.at a' todo with mode := .returning }) (cs := cs) (w := w') (w' := w'') (d := { target := .collected r, args := #[] }) (r := r) (ds := []) (calls := []) (by simp) (by simp [Frame.at, hd]) rfl hk
    exact ⟨.returned v, w'', _, hR, hs.trans (.one h1), rfl, rfl, rfl, rfl, fn, hf, hr⟩
  cases e with
  | normal => exact fin [] (Steps.trans harr (.one step_end)) hq
  | ret =>
    obtain ⟨todo, hs⟩ := harr
    exact fin todo hs hq
  | panic chain => exact hq.elim
  | exit id => exact hq.elim
  | goto l => exact hq.elim
  | outgrown => exact ⟨.outgrown, w', b, hq, harr.resolve_left (by simp [b]), rfl, trivial⟩

/-- What is asked of the iterator's call: it comes back, the loop's record as it was made. -/
def seqPost (P : Program) (l : Nat) (Q : Exit → Act → World → Prop) (a' : Act) : Ending → World → Prop
  | .returned _, w₃ => ∃ w₄, (Instr.endLoop l).run P w₃ = .ok none w₄ ∧ Q .normal a' w₄
  | .panicked _, _ => False
  | .outgrown, _ => LetsOut Q

theorem wp_rangeFunc_plain {P : Program} {g : Operand} {ps : Array Tmp} {assign body : Code} {Q : Exit → Act → World → Prop} {a : Act} {w : World}
    (h : ∀ fn, ∃ (l : Nat) (mark : List Deferred) (w₁ : World) (d : Deferred) (w₁' : World) (f : FuncId) (args : Array Value) (w₂ : World),
      (Instr.enterLoop fn a.tmps ps assign body none).run P w = .ok (l, mark) w₁ ∧
      (resolve a.eval (rangeCall g l) 0).run P w₁ = .ok d w₁' ∧
      (invoke d.target d.args).run P w₁' = .ok (.enter f args) w₂ ∧
      Calls P f args w₂ (seqPost P l Q { a with defers := mark ++ a.defers })) :
    (Code.rangeFunc g ps assign body).wp P Q a w := by
  intro b k cs
  obtain ⟨l, mark, w₁, d, w₁', f, args, w₂, he, hres, hinv, hcall⟩ := h b.fn
  let b' : Frame := { b with roundOf := none }
  have hat : ∀ a todo, b.at a todo = b'.atR a todo := fun a todo => by simp [Frame.at, Frame.atR, b']
  have henter := stepR_rangeFunc (P := P) (b := b') (a := a) (k := k) (cs := cs) (w := w) (ps := ps) (assign := assign) (body := body) he hres hinv
  rw [← hat] at henter
  obtain ⟨e, w₃, fr, hR, hsteps, hfn, hleave⟩ := hcall (b'.atR { a with defers := mark ++ a.defers } (.inRangeFunc l :: k) :: cs)
  cases e with
  | outgrown =>
    obtain ⟨a₀, w₀, hq⟩ := hR
    exact ⟨.outgrown, a₀, w₀, hq, .inr (Outgrown.of_steps (.one henter) hsteps)⟩
  | panicked chain => exact hR.elim
  | returned v =>
    obtain ⟨w₄, hend, hq⟩ := hR
    refine ⟨.normal, _, w₄, hq, ?_⟩
    show Steps P _ _
    have h2 := step_leave_returned (c := b'.atR { a with defers := mark ++ a.defers } (.inRangeFunc l :: k)) (cs := cs) hleave
    rw [finish_atR_inRangeFunc] at h2
    have h3 := stepR_endRangeFunc (P := P) (b := b') (a := { a with defers := mark ++ a.defers }) (k := k) (cs := cs) hend
    simp only [Option.map_none, Option.toList_none, List.nil_append] at h3
    rw [hat]
    exact .head henter (Steps.trans hsteps (.head h2 (.one h3)))

theorem Grew.putObj {w a : World} (h : Grew w a) {r : Nat} (hr : w.heap.size ≤ r) (o : Obj) : Grew w (a.putObj r o) := by
  refine Grew.of_parts h.os h.tape h.output (by simpa [World.putObj] using h.size) (fun k hk => ?_)
  simp only [World.putObj, Array.getElem?_setIfInBounds]
  rw [if_neg (by omega)]
  exact h.block k hk
theorem World.putObj_block {w : World} {r k : Nat} (o : Obj) (h : k ≠ r) : (w.putObj r o).heap[k]? = w.heap[k]? := by
  simp only [World.putObj, Array.getElem?_setIfInBounds]
  rw [if_neg (by omega)]
theorem World.putObj_cell {w : World} {r : Nat} (o : Obj) {p : Addr} (h : p.block ≠ r) : (w.putObj r o).cell? p = w.cell? p :=
  World.cell?_of_block (w := w) (World.putObj_block o h)

/-- The statement at a closure that captures one place, where the iterator only makes memory and calls no round. -/
theorem wp_range0 {P : Program} {g : Operand} {ps : Array Tmp} {assign body : Code} {Q : Exit → Act → World → Prop} {a : Act} {w : World} {f : FuncId} {fn : Func} {c : Code} (b : Nat)
    (hd : a.defers = []) (hg : a.eval g = .func (.func f) #[] #[.pointer (some ⟨b, 0, none⟩)]) (hf : P.funcs[f]? = some fn) (hb : fn.body = some c) (hn : (fn.name == "runtime.NumGoroutine") = false)
    (hc : ∀ W, Grew w W → Calls P f #[.func (.yield (w.heap.size + 1)) #[] #[], .pointer (some ⟨b, 0, none⟩)] W (fun e w' => e = .returned (.tuple #[]) ∧ Grew W w'))
    (h : ∀ w1, Grew w w1 → w1.heap[w.heap.size]? = some (.deferred (some [])) → Q .normal { a with defers := [{ target := .collected w.heap.size, args := #[] }] } w1) :
    (Code.rangeFunc g ps assign body).wp P Q a w := by
  refine wp_rangeFunc_plain (fun fid => ?_)
  let w1 := (w.alloc (.deferred (some []))).alloc (.loop { state := .ready, pending := none, fn := fid, tmps := a.tmps, params := ps, assign := assign, body := body, defers := w.heap.size })
  have hs : ∀ (W : World) (o : Obj), (W.alloc o).heap.size = W.heap.size + 1 := fun W o => by simp [go_sem]
  have h1 : Grew w w1 := ((Grew.refl w).alloc _).alloc _
  refine ⟨w.heap.size + 1, [{ target := .collected w.heap.size, args := #[] }], w1, { target := .fn (.func f) #[.pointer (some ⟨b, 0, none⟩)], args := #[.func (.yield (w.heap.size + 1)) #[] #[]] }, w1, f, #[.func (.yield (w.heap.size + 1)) #[] #[], .pointer (some ⟨b, 0, none⟩)], w1, ?_, ?_, ?_, ?_⟩
  · exact run_enterLoop_outer ..
  · simp only [resolve, rangeCall, hg, List.map_toArray, List.map_cons, List.map_nil]
    rfl
  · simp only [invoke]
    exact MuLone.run_callFunc_enter hf hn hb _ _
  · refine (hc w1 h1).mono ?_
    rintro e w2 ⟨rfl, hg2⟩
    have hl2 : w2.heap[w.heap.size + 1]? = some (.loop { state := .ready, pending := none, fn := fid, tmps := a.tmps, params := ps, assign := assign, body := body, defers := w.heap.size }) := by
      rw [hg2.block _ (by simp only [w1]; rw [hs, hs]; omega)]
      exact heap_alloc_at _ _ _ (by rw [hs])
    have hd2 : w2.heap[w.heap.size]? = some (.deferred (some [])) := by
      rw [hg2.block _ (by simp only [w1]; rw [hs, hs]; omega)]
      simp only [w1]
      rw [heap_alloc_past _ _ _ (by rw [hs]; omega)]
      exact heap_alloc_at _ _ _ rfl
    refine ⟨_, run_endLoop hl2 (fun h => nomatch h), ?_⟩
    rw [hd]
    exact h _ ((h1.trans hg2).putObj (Nat.le_succ _) _) ((World.putObj_block _ (Nat.ne_of_lt (Nat.lt_succ_self _))).trans hd2)

/-- One block written, or new ones made. -/
theorem grownBy_set {w a : World} {L : Nat} (h : w.grownBy a (some L)) (i : Nat) (u : Value) : w.grownBy (a.setCell ⟨L, i, none⟩ u) (some L) :=
  ⟨h.os.trans rfl, h.tape.trans rfl, h.output.trans rfl, by rw [World.setCell_size]; exact h.size, fun k hk hne => by
    rw [World.block_setCell _ _ _ _ (fun e => hne (by rw [e]))]; exact h.block k hk hne⟩
theorem grownBy_grew {w a b : World} {L : Option Nat} (h : w.grownBy a L) (g : Grew a b) : w.grownBy b L :=
  ⟨g.os.trans h.os, g.tape.trans h.tape, g.output.trans h.output, Nat.le_trans h.size g.size, fun k hk hne => by
    rw [g.block k (Nat.lt_of_lt_of_le hk h.size)]; exact h.block k hk hne⟩
theorem grownBy_refl (w : World) (L : Option Nat) : w.grownBy w L := ⟨rfl, rfl, rfl, Nat.le_refl _, fun _ _ _ => rfl⟩
theorem grownBy_put {w a : World} {L : Option Nat} (h : w.grownBy a L) {r : Nat} (hr : w.heap.size ≤ r) (o : Obj) : w.grownBy (a.putObj r o) L :=
  ⟨h.os.trans rfl, h.tape.trans rfl, h.output.trans rfl, by simpa [World.putObj] using h.size, fun k hk hne => by
    rw [World.putObj_block _ (by omega)]; exact h.block k hk hne⟩
theorem grownBy_trans {w a b : World} {L : Option Nat} (h : w.grownBy a L) (g : a.grownBy b L) : w.grownBy b L :=
  ⟨g.os.trans h.os, g.tape.trans h.tape, g.output.trans h.output, Nat.le_trans h.size g.size, fun k hk hne => by
    rw [g.block k (Nat.lt_of_lt_of_le hk h.size) hne]; exact h.block k hk hne⟩
theorem grownBy_drew {w a : World} {L : Option Nat} (h : w.grownBy a L) : w.grownBy a.drew L := ⟨h.os, h.tape, h.output, h.size, h.block⟩
theorem World.own_set2 {w : World} {q : Nat} {c : Array Value} {t : TypeId} (h : w.heap[q]? = some (.cells c t (0, 0))) (i : Nat) (u : Value) (c' : Array Value) (hc : c.setIfInBounds i u = c') : (w.setCell ⟨q, i, none⟩ u).heap[q]? = some (.cells c' t (0, 0)) := by
  rw [← hc]; exact World.own_setCell h u
theorem heap_drew0 (w : World) : w.drew.heap = w.heap := rfl
end Go
