/- The executor is sound: every step. -/
import Derived.Test.YtlhldjfonidmgaaGreatDoorAb27
namespace Go.Ab
set_option linter.unusedSimpArgs false
set_option linter.unusedVariables false
set_option linter.unusedSectionVars false
section
variable {P : Program} {G : Nat} {orc : FuncId → Array Value → AH → Option (Option (Value × AH))} {rec : Run} {w0 : W0} {E : Env} {fr fr' : Frame} {cs : List Frame} {w : World} {h h' : AH} {v : Value}
theorem FR.go (F : FR E fr fr') {E' : Env} (le : E.le E') {k k' : List Item} (rk : ItemsR E' k k') {ts ts' : Array Value} (rt : VRs E' ts ts') : FR E' { fr with todo := k, tmps := ts } { fr' with todo := k', tmps := ts' } :=
  ⟨F.fn, rt, rk, F.defers.mono le, F.mode, F.kind, F.ro.mono le⟩
theorem FR.jump (F : FR E fr fr') {k k' : List Item} (rk : ItemsR E k k') : FR E { fr with todo := k } { fr' with todo := k' } :=
  ⟨F.fn, F.tmps, rk, F.defers, F.mode, F.kind, F.ro⟩
theorem look_all {ts tm : Array Value} (rt : VRs E ts tm) (ops : Array Oper) (o : Oper) : ∀ t ∈ o.looksAt ops, VR E (ts.getD t undef) (tm.getD t undef) := fun t _ => rt.getD t
theorem hops {G : Nat} {fr : Frame} (hge : GE G E) {ts : Array Value} (rt : VRs E ts fr.tmps) {o : Oper} (hok : okOper G o = true) : ∀ x ∈ o.op.operands, VR E (evalT ts x) (fr.eval x) := operand_rel hge hok fun t _ => rt.getD t
/-- One operation of a region in order. -/
def aoper (P : Program) (G : Nat) (orc : FuncId → Array Value → AH → Option (Option (Value × AH))) (rec : Run) (fr : Frame) (ops : Array Oper) (l : List Nat) (k : List Item) (o : Oper) (h : AH) : Option (Value × AH) :=
  match o.op with
  | .defer _ => match fr.roundOf, okOper G o, aop P o (evalT fr.tmps) h with
    | none, true, some (.defer d, h') => rec { fr with todo := .inRegion ops l :: k, tmps := putT fr.tmps o.dst undef, defers := d :: fr.defers } h'
    | _, _, _ => none
  | .call c => match c.callee with
    | .builtin .recover => match fr.roundOf with
      | none => rec { fr with todo := .inRegion ops l :: k, tmps := putT fr.tmps o.dst .nilIface } h
      | some _ => none
    | _ => match opD P G orc rec o (evalT fr.tmps) h with
      | some (v, h') => rec { fr with todo := .inRegion ops l :: k, tmps := putT fr.tmps o.dst v } h'
      | none => none
  | _ => match opD P G orc rec o (evalT fr.tmps) h with
    | some (v, h') => rec { fr with todo := .inRegion ops l :: k, tmps := putT fr.tmps o.dst v } h'
    | none => none
theorem aoper_ok (hz : ZerosFlat P) (ho : OrcOk P G orc) (hr : RunOk P G rec) (F : FR E fr fr') (hm : fr'.mode = .run) (Gd : Good fr' cs) (hge : GE G E) (H : HR P w0 E h w) {ops : Array Oper} {i : Nat} {l : List Nat} {k k' : List Item} {o : Oper}
    (hop : ops[i]? = some o) (hw : Region.wanted o (yielded ops fr.tmps) = true) (hx : fr'.todo = .inRegion ops (i :: l) :: k') (rk : ItemsR E k k') (e : aoper P G orc rec fr ops l k o h = some (v, h')) : Out P G w0 E fr' cs w v h' := by
  have hw' : Region.wanted o (yielded ops fr'.tmps) = true := by rw [wanted_rel F.tmps.size (look_all F.tmps ops o)]; exact hw
  have plain : ∀ {x : Value × AH}, opD P G orc rec o (evalT fr.tmps) h = some x → rec { fr with todo := .inRegion ops l :: k, tmps := putT fr.tmps o.dst x.1 } x.2 = some (v, h') → Out P G w0 E fr' cs w v h' := fun {x} hd e => by
    obtain ⟨E2, v2, w2, le, rv, st, H2⟩ := opD_ok hz ho hr w0 E h w o (evalT fr.tmps) x.1 x.2 fr' cs ops i l k' hm hx hop hw' H hge (hops hge F.tmps (opD_okOper hd)) hd
    rw [finish_put hx hop] at st
    exact cont hr e le Gd hge H2 st (F.go le (.cons (.inRegion _ _) (rk.mono le)) ((F.tmps.mono le).putT rv o.dst)) rfl rfl rfl
  have none' : ∀ {fr2 : Frame}, fr2.roundOf = none → FR E fr2 fr' → fr'.roundOf = none := fun {fr2} hn F2 => by
    have hro := F2.ro
    rw [hn] at hro
    generalize hy : fr'.roundOf = y at hro
    cases hro
    rfl
  unfold aoper at e
  split at e
  · rename_i c hc
    split at e
    · rename_i d h2 hn hok ha
      obtain ⟨E2, n2, w2, le, rn, hrun, H2⟩ := aop_ok hz H (hops hge F.tmps hok) ha
      cases rn with
      | @defer _ d' rd =>
        have st := step_defer (cs := cs) hm hx hop hw' (.inl (none' hn F)) hrun
        rw [finish_put (fr := { fr' with defers := d' :: fr'.defers }) hx hop] at st
        exact cont hr e le Gd hge H2 (Steps.one' st) ⟨F.fn, (F.tmps.mono le).putT (VR.undef E2) o.dst, .cons (.inRegion _ _) (rk.mono le), .cons rd (F.defers.mono le), F.mode, F.kind, F.ro.mono le⟩ rfl rfl rfl
    · cases e
  · rename_i c hc
    split at e
    · rename_i hcal
      split at e
      · rename_i hn
        have hrun : (execOp fr'.eval o).run P w = .ok .recover w := by simp [execOp, hc, resolve, hcal, invoke, builtin]
        have st := step_recover (cs := cs) hm hx hop hw' (none' hn F) Gd hrun
        rw [finish_put hx hop] at st
        exact cont hr e E.le_refl Gd hge H (Steps.one' st) (F.go E.le_refl (.cons (.inRegion _ _) rk) (F.tmps.putT .nilIface o.dst)) rfl rfl rfl
      · cases e
    · split at e
      · rename_i v2 h2 hd
        exact plain hd e
      · cases e
  · split at e
    · rename_i v2 h2 hd
      exact plain hd e
    · cases e
theorem astep_ok (hz : ZerosFlat P) (hmix : P.follows .mixedOrders = true) (ho : OrcOk P G orc) (hr : RunOk P G rec) : RunOk P G (astep P G orc rec) := by
  intro fr h v h' e w0 E w fr' cs F Gd hge H
  obtain ⟨fn, tmps, todo, defers, mode, kind, ro⟩ := fr
  cases mode with
  | panicking x => simp only [astep] at e; cases e
  | returning =>
    simp only [astep] at e
    split at e
    · rename_i hn
      exact aback_ok hr F rfl Gd hge H (Option.isNone_iff_eq_none.1 hn) e
    · cases e
  | run =>
    have hm' : fr'.mode = .run := F.mode
    have Ft := F.todo
    cases todo with
    | nil =>
      generalize hx : fr'.todo = x at Ft
      cases Ft
      simp only [astep] at e
      exact aleave_ok hr F hm' Gd hge H (jump := none) hx e
    | cons a k =>
      generalize hx : fr'.todo = x at Ft
      cases Ft with
      | @cons _ a' _ k' ra rk =>
        cases ra with
        | code c =>
          cases c with
          | skip => simp only [astep] at e; exact cont hr e E.le_refl Gd hge H (Steps.one' (step_skipC hm' hx)) (F.jump rk) rfl rfl rfl
          | label l => simp only [astep] at e; exact cont hr e E.le_refl Gd hge H (Steps.one' (step_label hm' hx)) (F.jump rk) rfl rfl rfl
          | seq a b => simp only [astep] at e; exact cont hr e E.le_refl Gd hge H (Steps.one' (step_seq hm' hx)) (F.jump (.cons (.code _) (.cons (.code _) rk))) rfl rfl rfl
          | cond c a b =>
            simp only [astep] at e
            split at e
            · rename_i t hok hv
              have rc := operand_one hge F.tmps hok
              rw [hv] at rc
              have hc : fr'.eval c = .bool t := flat_eq 4 rfl rc
              exact cont hr e E.le_refl Gd hge H (Steps.one' (step_cond hm' hx hc)) (F.jump (.cons (.code _) rk)) rfl rfl rfl
            · cases e
          | block i a => simp only [astep] at e; exact cont hr e E.le_refl Gd hge H (Steps.one' (step_block hm' hx)) (F.jump (.cons (.code _) (.cons (.inBlock _) rk))) rfl rfl rfl
          | loop a => simp only [astep] at e; exact cont hr e E.le_refl Gd hge H (Steps.one' (step_loop hm' hx)) (F.jump (.cons (.code _) (.cons (.inLoop _) rk))) rfl rfl rfl
          | scope a => simp only [astep] at e; exact cont hr e E.le_refl Gd hge H (Steps.one' (step_scope hm' hx)) (F.jump (.cons (.code _) (.cons (.inScope _) rk))) rfl rfl rfl
          | exit i =>
            simp only [astep] at e
            rcases exitTo_rel i rk with ⟨h1, h2⟩ | ⟨m, m', h1, h2, rm⟩
            · rw [h1] at e
              exact aleave_ok hr F hm' Gd hge H (jump := some (.exit i)) ⟨k', hx, h2⟩ e
            · rw [h1] at e
              exact cont hr e E.le_refl Gd hge H (Steps.one' (step_exit hm' hx h2)) (F.jump rm) rfl rfl rfl
          | goto i =>
            simp only [astep] at e
            rcases gotoIn_rel i rk with ⟨h1, h2⟩ | ⟨m, m', h1, h2, rm⟩
            · rw [h1] at e
              exact aleave_ok hr F hm' Gd hge H (jump := some (.goto i)) ⟨k', hx, h2⟩ e
            · rw [h1] at e
              exact cont hr e E.le_refl Gd hge H (Steps.one' (step_goto hm' hx h2)) (F.jump rm) rfl rfl rfl
          | ret => simp only [astep] at e; exact aleave_ok hr F hm' Gd hge H (jump := some .ret) ⟨k', hx⟩ e
          | refuse s => simp only [astep] at e; cases e
          | region id ops draw =>
            simp only [astep] at e
            cases draw with
            | false =>
              simp only [Bool.false_eq_true, if_false] at e
              exact cont hr e E.le_refl Gd hge H (Steps.one' (step_regionO hm' hx)) (F.jump (.cons (.inRegion _ _) rk)) rfl rfl rfl
            | true =>
              simp only [if_true] at e
              split at e
              · rename_i te h2 hreg
                obtain ⟨E2, tm2, w2, le, rt, H2, st, ge2⟩ := aregion_ok hz hmix (opD_ok hz ho hr) H hge F.tmps hreg (cs := cs) hm' rfl hx
                exact cont hr e le Gd hge H2 st (F.go le (rk.mono le) rt) rfl rfl rfl
              · cases e
          | rangeFunc f ps a b =>
            simp only [astep] at e
            split at e
            · rename_i l mark h2 hok hen
              split at e
              · rename_i g first captured hv
                split at e
                · rename_i hb
                  split at e
                  · rename_i v1 h3 hc
                    obtain ⟨E2, x2, w2, le, rx, hrun, H2⟩ := sim_enterLoop (P := P) (w0 := w0) fn F.tmps ps a b F.ro h (l, mark) h2 hen w H
                    obtain ⟨l', mark'⟩ := x2
                    simp only at rx
                    obtain ⟨el, rmark⟩ := rx
                    have rf := operand_one hge F.tmps hok
                    rw [hv] at rf
                    generalize hv' : fr'.eval f = y at rf
                    cases rf with
                    | @func _ fn' _ first' _ captured' hfn h1 g1 h2 g2 =>
                      cases hfn
                      rw [show fn = fr'.fn from F.fn.symm] at hrun
                      have st := step_rangeFunc (cs := cs) hm' hx hb hrun hv'
                      have rfirst : VRs E first first' := ⟨h1, g1⟩
                      have rcap : VRs E captured captured' := ⟨h2, g2⟩
                      have ry : VRs E2 #[.func (.yield l) #[] #[]] #[.func (.yield l') #[] #[]] := VR.one (.func (.yield el) rfl (fun i h => by simp at h) rfl (fun i h => by simp at h))
                      obtain ⟨E3, v3, w3, le3, rv3, H3, en⟩ := hr _ _ v1 h3 hc w0 E2 w2 _ ({ fr' with todo := .inRangeFunc l' :: k', defers := mark' ++ fr'.defers } :: cs) (FR.enter (((rfirst.mono le).append ry).append (rcap.mono le)) .normal) (.inl rfl) (hge.mono le) H2
                      have le' := Env.le_trans le le3
                      refine cont hr e le' Gd hge H3 (Steps.trans (Steps.one' st) (en.back rfl)) ⟨F.fn, F.tmps.mono le', .cons (.endRangeFunc (le3 _ _ el)) (rk.mono le'), DefsR.append (rmark.mono le3) (F.defers.mono le'), F.mode, F.kind, F.ro.mono le'⟩ rfl rfl rfl
                  · cases e
                · cases e
              · cases e
            · cases e
        | inBlock i => simp only [astep] at e; exact cont hr e E.le_refl Gd hge H (Steps.one' (step_inBlock hm' hx)) (F.jump rk) rfl rfl rfl
        | inLoop b => simp only [astep] at e; exact cont hr e E.le_refl Gd hge H (Steps.one' (step_inLoop hm' hx)) (F.jump (.cons (.code _) (.cons (.inLoop _) rk))) rfl rfl rfl
        | inScope b => simp only [astep] at e; exact cont hr e E.le_refl Gd hge H (Steps.one' (step_inScope hm' hx)) (F.jump rk) rfl rfl rfl
        | endRangeFunc el =>
          simp only [astep] at e
          split at e
          · rename_i jump h2 hj
            obtain ⟨E2, j2, w2, le, rj, hrun, H2⟩ := sim_endLoop (P := P) (w0 := w0) el h jump h2 hj w H
            subst rj
            refine cont hr e le Gd hge H2 (Steps.one' (step_endRange hm' hx hrun)) ⟨F.fn, F.tmps.mono le, ?_, F.defers.mono le, F.mode, F.kind, F.ro.mono le⟩ rfl rfl rfl
            cases j2 with
            | none => exact rk.mono le
            | some c => exact .cons (.code c) (rk.mono le)
          · cases e
        | beginRound =>
          simp only [astep] at e
          cases ro with
          | none => cases e
          | some l =>
            simp only at e
            split at e
            · rename_i u h2 hb
              have hro := F.ro
              generalize hy : fr'.roundOf = y at hro
              cases hro with
              | @some _ l' el =>
                obtain ⟨E2, u2, w2, le, _, hrun, H2⟩ := sim_beginRound (P := P) (w0 := w0) el h u h2 hb w H
                exact cont hr e le Gd hge H2 (Steps.one' (step_beginRound hm' hx hy hrun)) ⟨F.fn, F.tmps.mono le, rk.mono le, F.defers.mono le, F.mode, F.kind, F.ro.mono le⟩ rfl rfl rfl
            · cases e
        | inRegion ops l =>
          cases l with
          | nil => simp only [astep] at e; exact cont hr e E.le_refl Gd hge H (Steps.one' (step_regionE hm' hx)) (F.jump rk) rfl rfl rfl
          | cons i l =>
            simp only [astep] at e
            cases hop : ops[i]? with
            | none => rw [hop] at e; cases e
            | some o =>
              rw [hop] at e
              simp only at e
              split at e
              · rename_i hw
                exact aoper_ok hz ho hr F hm' Gd hge H hop hw hx rk e
              · rename_i hw
                have st := step_skip (P := P) (cs := cs) (w := w) hm' hx (by
                  rw [hop]
                  simp only [Option.map_some, Option.getD_some]
                  rw [wanted_rel F.tmps.size (look_all F.tmps ops o)]
                  simpa using hw)
                rw [finish_put hx hop] at st
                exact cont hr e E.le_refl Gd hge H (Steps.one' st) (F.go E.le_refl (.cons (.inRegion _ _) rk) (F.tmps.putT (VR.undef E) o.dst)) rfl rfl rfl
theorem afr_ok (hz : ZerosFlat P) (hmix : P.follows .mixedOrders = true) (ho : OrcOk P G orc) : ∀ n, RunOk P G (afr P G orc n)
  | 0 => fun fr h v h' e => by cases e
  | n + 1 => astep_ok hz hmix ho (afr_ok hz hmix ho n)
end
end Go.Ab
