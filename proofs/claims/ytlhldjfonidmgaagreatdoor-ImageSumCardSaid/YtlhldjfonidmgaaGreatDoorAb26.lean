/- Loops over functions; one operation with what it calls. -/
import Derived.Test.YtlhldjfonidmgaaGreatDoorAb25
namespace Go.Ab
set_option linter.unusedSimpArgs false
set_option linter.unusedVariables false
set_option linter.unusedSectionVars false
section
variable {P : Program} {w0 : W0} {E : Env} {h : AH} {w : World}
theorem sim_getLoop {l l' : Nat} (e : E l = some (l', none)) : Sim P w0 E LoopR (Instr.getLoop l) (Instr.getLoop l') :=
  sim_bind (sim_getObj e) fun E' le o o' hr => by
    obtain ⟨ro, _⟩ := hr
    cases ro with
    | loop r => exact sim_pure r
    | _ => exact sim_none fun _ => rfl
theorem sim_enterLoop (fn : FuncId) {ts ts' : Array Value} (rt : VRs E ts ts') (ps : Array Tmp) (a b : Code) {ro ro' : Option Nat} (rr : RoR E ro ro') :
    Sim P w0 E (fun E' x x' => E' x.1 = some (x'.1, none) ∧ DefsR E' x.2 x'.2) (Instr.enterLoop fn ts ps a b ro) (Instr.enterLoop fn ts' ps a b ro') := by
  have fin : ∀ (E' : Env), E.le E' → ∀ (d d' : Nat) (m m' : List Deferred), E' d = some (d', none) → DefsR E' m m' →
      Sim P w0 E' (fun E' x x' => E' x.1 = some (x'.1, none) ∧ DefsR E' x.2 x'.2) (do pure (← newObj (.loop { state := .ready, pending := none, fn, tmps := ts, params := ps, assign := a, body := b, defers := d }), m))
        (do pure (← newObj (.loop { state := .ready, pending := none, fn, tmps := ts', params := ps, assign := a, body := b, defers := d' }), m')) := fun E' le d d' m m' hd hm =>
    sim_bind (sim_newObj (.loop ⟨rfl, rfl, rfl, rt.mono le, rfl, rfl, rfl, hd⟩)) fun E2 le2 x x' hx => sim_pure ⟨hx, hm.mono le2⟩
  unfold Instr.enterLoop
  cases rr with
  | none => exact sim_bind (sim_newObj (.deferred .nil)) fun E1 le1 r r' hr => fin E1 le1 r r' [{ target := .collected r, args := #[] }] [{ target := .collected r', args := #[] }] hr (.cons ⟨.collected hr, VRs.empty _⟩ .nil)
  | some e => exact sim_bind (sim_getLoop e) fun E1 le1 r r' hr => fin E1 le1 r.defers r'.defers [] [] hr.defers .nil
theorem sim_beginRound {l l' : Nat} (e : E l = some (l', none)) : Sim P w0 E (fun _ _ _ => True) (Instr.beginRound l) (Instr.beginRound l') :=
  sim_bind (sim_getLoop e) fun E1 le1 r r' hr => sim_bind (sim_setObj (le1 _ _ e) (.loop ⟨rfl, hr.pending, hr.fn, hr.tmps, hr.params, hr.assign, hr.body, hr.defers⟩)) fun E2 le2 _ _ _ => by
    have hs := hr.state
    cases h : r.state with
    | ready => rw [h] at hs; rw [hs]; exact sim_pure trivial
    | _ => exact sim_panic _ _
theorem sim_endRound {l l' : Nat} (e : E l = some (l', none)) (jump : Option Code) : Sim P w0 E VR (Instr.endRound l jump) (Instr.endRound l' jump) :=
  sim_bind (sim_getLoop e) fun E1 le1 r r' hr => sim_bind (sim_setObj (le1 _ _ e) (.loop ⟨rfl, rfl, hr.fn, hr.tmps, hr.params, hr.assign, hr.body, hr.defers⟩)) fun E2 le2 _ _ _ => sim_pure (.bool _)
theorem sim_endLoop {l l' : Nat} (e : E l = some (l', none)) : Sim P w0 E (fun _ x x' => x' = x) (Instr.endLoop l) (Instr.endLoop l') :=
  sim_bind (sim_getLoop e) fun E1 le1 r r' hr => by
    have hs := hr.state
    rw [hs]
    by_cases hb : (r.state == .busy) = true
    · rw [if_pos hb, if_pos hb]
      exact sim_none fun x => by rw [arun_bind, fails_panic]; rfl
    · rw [if_neg hb, if_neg hb]
      exact sim_bind (sim_setObj (le1 _ _ e) (.loop ⟨rfl, hr.pending, hr.fn, hr.tmps, hr.params, hr.assign, hr.body, hr.defers⟩)) fun E2 le2 _ _ _ => sim_pure hr.pending
theorem sim_takeDeferred {l l' : Nat} (e : E l = some (l', none)) : Sim P w0 E DefsR (Instr.takeDeferred l) (Instr.takeDeferred l') :=
  sim_bind (sim_getObj e) fun E1 le1 o o' hr => by
    obtain ⟨ro, _⟩ := hr
    cases ro with
    | deferred r => exact sim_bind (sim_setObj (le1 _ _ e) .taken) fun E2 le2 _ _ _ => sim_pure (r.mono le2)
    | _ => exact sim_none fun _ => rfl
/-- A run over a frame, sound. -/
def RunOk (P : Program) (G : Nat) (rec : Run) : Prop :=
  ∀ (fr : Frame) (h : AH) (v : Value) (h' : AH), rec fr h = some (v, h') → ∀ (w0 : W0) (E : Env) (w : World) (fr' : Frame) (cs : List Frame), FR E fr fr' → Good fr' cs → GE G E → HR P w0 E h w →
    ∃ E' v' w', E.le E' ∧ VR E' v v' ∧ HR P w0 E' h' w' ∧ Ends P fr' cs w v' w'
def OrcOk (P : Program) (G : Nat) (orc : FuncId → Array Value → AH → Option (Option (Value × AH))) : Prop :=
  ∀ (f : FuncId) (xs : Array Value) (h : AH) (v : Value) (h' : AH), orc f xs h = some (some (v, h')) → ∀ (w0 : W0) (E : Env) (w : World) (xs' : Array Value) (cs : List Frame), VRs E xs xs' → GE G E → HR P w0 E h w →
    ∃ E' v' w', E.le E' ∧ VR E' v v' ∧ HR P w0 E' h' w' ∧ Ends P (Frame.enter P f xs' .normal) cs w v' w'
theorem aFlat_next {o : Oper} {ρ : Operand → Value} {n : Next} {h' : AH} (e : aFlat P o ρ h = some (n, h')) : flatNext n = true := by
  unfold aFlat at e
  split at e
  · split at e
    · split at e
      · cases e; assumption
      · cases e
    · cases e
  · cases e
theorem aop_defer {o : Oper} {ρ : Operand → Value} {n : Next} {h' : AH} (e : aop P o ρ h = some (n, h')) (hn : ∀ d, n ≠ .defer d) : ∀ c, o.op ≠ .defer c := fun c hc => by
  simp only [aop, hc, Option.map_eq_some_iff] at e
  obtain ⟨d, _, he⟩ := e
  cases he
  exact hn d rfl
theorem opD_ok {G : Nat} {orc : FuncId → Array Value → AH → Option (Option (Value × AH))} {rec : Run} (hz : ZerosFlat P) (ho : OrcOk P G orc) (hr : RunOk P G rec) : DOk P G (opD P G orc rec) := by
  intro w0 E h w o ρ v h1 fr cs ops i rest k hm ht hop hw H hge hρ e
  unfold opD at e
  split at e
  case isFalse => cases e
  rename_i hok
  split at e
  · rename_i v1 h2 ha
    cases e
    obtain ⟨E', n', w', le, rn, hrun, H'⟩ := aop_ok hz H hρ ha
    cases rn with
    | value rv => exact ⟨E', _, w', le, rv, Steps.one' (step_val hm ht hop hw (.inr (aop_defer ha fun d hd => by cases hd)) hrun), H'⟩
  · rename_i h2 ha
    cases e
    obtain ⟨E', n', w', le, rn, hrun, H'⟩ := aop_ok hz H hρ ha
    cases rn with
    | skip => exact ⟨E', undef, w', le, VR.undef E', Steps.one' (step_nop hm ht hop hw (.inr (aop_defer ha fun d hd => by cases hd)) hrun), H'⟩
  · rename_i f xs h2 ha
    obtain ⟨E', n', w', le, rn, hrun, H'⟩ := aop_ok hz H hρ ha
    cases rn with
    | enter rx =>
      have st1 := Steps.one' (step_enter (cs := cs) hm ht hop hw (.inr (aop_defer ha fun d hd => by cases hd)) hrun)
      split at e
      · rename_i x hx
        subst e
        obtain ⟨E2, v2, w2, le2, rv, H2, en⟩ := ho f xs h2 v h1 hx w0 E' w' _ (fr :: cs) rx (hge.mono le) H'
        exact ⟨E2, v2, w2, Env.le_trans le le2, rv, Steps.trans st1 (en.back rfl), H2⟩
      · obtain ⟨E2, v2, w2, le2, rv, H2, en⟩ := hr _ h2 v h1 e w0 E' w' _ (fr :: cs) (FR.enter rx .normal) (.inl rfl) (hge.mono le) H'
        exact ⟨E2, v2, w2, Env.le_trans le le2, rv, Steps.trans st1 (en.back rfl), H2⟩
  · rename_i l f ts a b h2 ha
    obtain ⟨E', n', w', le, rn, hrun, H'⟩ := aop_ok hz H hρ ha
    cases rn with
    | round el rt =>
      have st1 := Steps.one' (step_round (cs := cs) hm ht hop hw (.inr (aop_defer ha fun d hd => by cases hd)) hrun)
      obtain ⟨E2, v2, w2, le2, rv, H2, en⟩ := hr _ h2 v h1 e w0 E' w' _ (fr :: cs) (FR.round el rt) (.inl rfl) (hge.mono le) H'
      exact ⟨E2, v2, w2, Env.le_trans le le2, rv, Steps.trans st1 (en.back rfl), H2⟩
  · cases e
end
end Go.Ab
