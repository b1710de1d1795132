/- The machine's steps with one goroutine, whatever the frame. -/
import Derived.Test.YtlhldjfonidmgaaGreatDoorAb14
namespace Go.Ab
set_option linter.unusedSimpArgs false
set_option linter.unusedVariables false
set_option linter.unusedSectionVars false
section
variable {P : Program} {w w' : World} {cs : List Frame}
theorem stepG_oper {fr : Frame} {ops : Array Oper} {i : Nat} {rest : List Nat} {k : List Item} {o : Oper} (hm : fr.mode = .run) (ht : fr.todo = .inRegion ops (i :: rest) :: k) (ho : ops[i]? = some o)
    (hw : Region.wanted o (yielded ops fr.tmps) = true) (hd : fr.roundOf = none ∨ ∀ c, o.op ≠ .defer c) :
    stepG P true { frame := fr, callers := cs, status := .running, dying := none } w = stepG.apply P true fr cs none (execOp fr.eval o) w := by
  obtain ⟨fn, tmps, todo, defers, mode, kind, ro⟩ := fr
  simp only at hm ht hw hd
  subst hm ht
  cases ro with
  | none => simp [stepG, stepG.exec, stepG.oper, Frame.oper?, ho, hw]
  | some l =>
    rcases hd with hd | hd
    · cases hd
    · simp only [stepG, stepG.exec, ho, Option.map_some, hw, Option.getD_some, if_true, stepG.oper, Frame.oper?]
      split
      · rename_i _ _ l1 c _ h2
        exact absurd h2 (hd _)
      · rfl
theorem step_skip {fr : Frame} {ops : Array Oper} {i : Nat} {rest : List Nat} {k : List Item} (hm : fr.mode = .run) (ht : fr.todo = .inRegion ops (i :: rest) :: k)
    (hw : ((ops[i]?).map (Region.wanted · (yielded ops fr.tmps))).getD false = false) :
    step P (lone fr cs w) = .next (lone (fr.finish undef) cs w) := by
  obtain ⟨fn, tmps, todo, defers, mode, kind, ro⟩ := fr
  simp only at hm ht hw
  subst hm ht
  exact step_lone_go (by simp [stepG, stepG.exec, hw])
variable {fr : Frame} {ops : Array Oper} {i : Nat} {rest : List Nat} {k : List Item} {o : Oper}
theorem step_val (hm : fr.mode = .run) (ht : fr.todo = .inRegion ops (i :: rest) :: k) (ho : ops[i]? = some o) (hw : Region.wanted o (yielded ops fr.tmps) = true) (hd : fr.roundOf = none ∨ ∀ c, o.op ≠ .defer c)
    {v : Value} (hr : (execOp fr.eval o).run P w = .ok (.value v) w') : step P (lone fr cs w) = .next (lone (fr.finish v) cs w') :=
  step_lone_go (by rw [stepG_oper hm ht ho hw hd]; simp [stepG.apply, hr])
theorem step_nop (hm : fr.mode = .run) (ht : fr.todo = .inRegion ops (i :: rest) :: k) (ho : ops[i]? = some o) (hw : Region.wanted o (yielded ops fr.tmps) = true) (hd : fr.roundOf = none ∨ ∀ c, o.op ≠ .defer c)
    (hr : (execOp fr.eval o).run P w = .ok .skip w') : step P (lone fr cs w) = .next (lone (fr.finish undef) cs w') :=
  step_lone_go (by rw [stepG_oper hm ht ho hw hd]; simp [stepG.apply, hr])
theorem step_enter (hm : fr.mode = .run) (ht : fr.todo = .inRegion ops (i :: rest) :: k) (ho : ops[i]? = some o) (hw : Region.wanted o (yielded ops fr.tmps) = true) (hd : fr.roundOf = none ∨ ∀ c, o.op ≠ .defer c)
    {f : FuncId} {as : Array Value} (hr : (execOp fr.eval o).run P w = .ok (.enter f as) w') : step P (lone fr cs w) = .next (lone (Frame.enter P f as .normal) (fr :: cs) w') :=
  step_lone_go (by rw [stepG_oper hm ht ho hw hd]; simp [stepG.apply, hr, ht])
theorem step_round (hm : fr.mode = .run) (ht : fr.todo = .inRegion ops (i :: rest) :: k) (ho : ops[i]? = some o) (hw : Region.wanted o (yielded ops fr.tmps) = true) (hd : fr.roundOf = none ∨ ∀ c, o.op ≠ .defer c)
    {l : Nat} {f : FuncId} {ts : Array Value} {c1 c2 : Code} (hr : (execOp fr.eval o).run P w = .ok (.round l f ts c1 c2) w') : step P (lone fr cs w) = .next (lone (Frame.round l f ts c1 c2 .normal) (fr :: cs) w') :=
  step_lone_go (by rw [stepG_oper hm ht ho hw hd]; simp [stepG.apply, hr, ht])
theorem step_defer (hm : fr.mode = .run) (ht : fr.todo = .inRegion ops (i :: rest) :: k) (ho : ops[i]? = some o) (hw : Region.wanted o (yielded ops fr.tmps) = true) (hd : fr.roundOf = none ∨ ∀ c, o.op ≠ .defer c)
    {d : Deferred} (hr : (execOp fr.eval o).run P w = .ok (.defer d) w') : step P (lone fr cs w) = .next (lone (({ fr with defers := d :: fr.defers } : Frame).finish undef) cs w') :=
  step_lone_go (by rw [stepG_oper hm ht ho hw hd]; simp [stepG.apply, hr])
/-- Who may call 'recover' in vain. -/
def Good (fr : Frame) (cs : List Frame) : Prop := fr.kind = .normal ∨ (fr.kind = .deferred ∧ ∃ c r, cs = c :: r ∧ c.mode = .returning)
theorem step_recover (hm : fr.mode = .run) (ht : fr.todo = .inRegion ops (i :: rest) :: k) (ho : ops[i]? = some o) (hw : Region.wanted o (yielded ops fr.tmps) = true) (hro : fr.roundOf = none) (hg : Good fr cs)
    (hr : (execOp fr.eval o).run P w = .ok .recover w') : step P (lone fr cs w) = .next (lone (fr.finish .nilIface) cs w') := by
  have ht0 : tryRecover fr cs = none := by
    unfold tryRecover
    rcases hg with hg | ⟨hg, c, r, rfl, hc⟩
    · simp [hg]
    · simp [hg, hc]
  exact step_lone_go (by rw [stepG_oper hm ht ho hw (.inl hro)]; simp [stepG.apply, hr, hro, ht0])
end
end Go.Ab
